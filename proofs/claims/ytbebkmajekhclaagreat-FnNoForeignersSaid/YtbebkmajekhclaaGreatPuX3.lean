import Derived.KernelRfl
import Derived.Test.YtbebkmajekhclaaGreatPure
import Derived.Test.YtbebkmajekhclaaGreatPuX2
namespace Go.Pu
open Go.Dn
open List (range)
open Int (tmod)
set_option linter.unusedSimpArgs false
set_option linter.unusedVariables false
noncomputable section
variable {cb v2:Bool} {s x:Bytes} {b2 c:cP} {a:dP} {h:Host} {d n v1 v9 z:Int} {b:bE} {i k:Nat} {p:aK} {q:cA} {g:eX} {st:dT} {t:eD} {R α:Type} {v:Vector} {ms:ax bE} {ps:ax Port} {l:ax aX} {f m:bP} {r:kY}
/- A host's service of its interrupts: the program's and the reference's results are one. -/
theorem aee (l:ax aH)(m:bP)(d:Int)(rx:cA)(pl:dB)(st:ax Stream)(c:Int):(kL l m d rx pl st c).1.length=m.length:=by unfold kL;cases !Ju rx||(!ee pl|| !db c 0 1000)with|true=>rfl|false=>exact adK ..
def Cy (b:Int)(k:Nat)(s:Int×Host):Int×Host:=
 match s.2.2.2.2.2.2.1[k]?,s.2.2.2.2.2.2.2.1[k]?,s.2.2.2.2.1[k]?,s.2.2.2.2.2.1[k]? with
 |some v,some p,some x,some pl=>
  bif p||(Ez v).2 then
   (au (s.1+(kL s.2.2.1 s.2.1 0 x pl s.2.2.2.2.2.2.2.2.2.2.1 b).2.2.2.2),
    (kL s.2.2.1 s.2.1 0 x pl s.2.2.2.2.2.2.2.2.2.2.1 b).1,s.2.2.1,s.2.2.2.1,s.2.2.2.2.1.set k (kL s.2.2.1 s.2.1 0 x pl s.2.2.2.2.2.2.2.2.2.2.1 b).2.1,s.2.2.2.2.2.1.set k (kL s.2.2.1 s.2.1 0 x pl s.2.2.2.2.2.2.2.2.2.2.1 b).2.2.1,
    s.2.2.2.2.2.2.1.set k (bif decide ((kL s.2.2.1 s.2.1 0 x pl s.2.2.2.2.2.2.2.2.2.2.1 b).2.2.2.2<b) then Lb (Ez v).1 else(Ez v).1),
    s.2.2.2.2.2.2.2.1.set k (!decide ((kL s.2.2.1 s.2.1 0 x pl s.2.2.2.2.2.2.2.2.2.2.1 b).2.2.2.2<b)),s.2.2.2.2.2.2.2.2.1,s.2.2.2.2.2.2.2.2.2.1,(kL s.2.2.1 s.2.1 0 x pl s.2.2.2.2.2.2.2.2.2.2.1 b).2.2.2.1,s.2.2.2.2.2.2.2.2.2.2.2)
  else(s.1,s.2.1,s.2.2.1,s.2.2.2.1,s.2.2.2.2.1,s.2.2.2.2.2.1,s.2.2.2.2.2.2.1.set k (Ez v).1,s.2.2.2.2.2.2.2.1.set k false,s.2.2.2.2.2.2.2.2)
 |_,_,_,_=>s
theorem Zz (b:Int)(k:Nat)(s:Int×Host):ma (k+1) s.2 (Cy b k s).2:=by unfold Cy;rcases s.2.2.2.2.2.2.1[k]? with _|v;exact ma.refl _ _;rcases s.2.2.2.2.2.2.2.1[k]? with _|p;exact ma.refl _ _;rcases s.2.2.2.2.1[k]? with _|x;exact ma.refl _ _;rcases s.2.2.2.2.2.1[k]? with _|pl;exact ma.refl _ _;simp only;cases p||(Ez v).2 with|true=>exact⟨aee ..,rfl,rfl,aC ..,λj hj=>aP (by omega),aC ..,aC ..,λj hj=>aP (by omega),aC ..,rfl,rfl⟩|false=>exact⟨rfl,rfl,rfl,rfl,λ_ _=>rfl,rfl,aC ..,λj hj=>aP (by omega),aC ..,rfl,rfl⟩
theorem acV (b:Int)(k:Nat)(s:Int×Host){n:Nat}(hn:1000<=n)(z:dj n dL s.2):dj (n+322000) dL (Cy b k s).2:=by have z':dj (n+322000) dL s.2:=z.mono;unfold Cy;rcases s.2.2.2.2.2.2.1[k]? with _|v;exact z';rcases s.2.2.2.2.2.2.2.1[k]? with _|p;exact z';rcases h1:s.2.2.2.2.1[k]? with _|x;exact z';rcases h2:s.2.2.2.2.2.1[k]? with _|pl;exact z';simp only;cases p||(Ez v).2 with|true=>have hp:=TF (by omega) (l:=s.2.2.1) (d:=0) b z.1 (z.2.2.2.1.2 _ (aY h1)) (z.2.2.2.2.1.2 _ (aY h2)) z.2.2.2.2.2.2.2.2.2.1;exact⟨hp.1.mono,z'.2.1,z'.2.2.1,nw z'.2.2.2.1 (hp.2.1.mono),nw z'.2.2.2.2.1 hp.2.2.1,OB z'.2.2.2.2.2.1,nw z'.2.2.2.2.2.2.1 trivial,z'.2.2.2.2.2.2.2.1,z'.2.2.2.2.2.2.2.2.1,hp.2.2.2.1,z'.2.2.2.2.2.2.2.2.2.2⟩|false=>exact⟨z'.1,z'.2.1,z'.2.2.1,z'.2.2.2.1,z'.2.2.2.2.1,OB z'.2.2.2.2.2.1,nw z'.2.2.2.2.2.2.1 trivial,z'.2.2.2.2.2.2.2⟩
def sV (b:Int):Nat->Host->Int×Host
 |0,h=>(0,h)
 |k+1,h=>Cy b k (sV b k h)
theorem BR (b:Int)(h:Host):∀k,ma k h (sV b k h).2
 |0=>ma.refl 0 h
 |k+1=>((BR b h k).up (by omega)).trans (Zz b k _)
theorem Jc (b:Int){n:Nat}(hn:1000<=n)(z:dj n dL h):∀k,dj (n+322000*k) dL (sV b k h).2
 |0=>z
 |k+1=>(acV b k _ (by omega) (Jc b hn z k)).mono
def mz (h:Host)(b:Int):Host×Int:=bif dZ h&&db b 1 1000 then((sV b h.2.2.2.1.length h).2,(sV b h.2.2.2.1.length h).1) else(h,0)
theorem ZA {n:Nat}(hn:1000<=n)(b:Int)(k:BW n h):BW (n+644000) (mz h b).1:=by unfold mz;cases hb:dZ h&&db b 1 1000 with|false=>exact k.mono|true=>simp only[ae]at hb;have hl:=tQ (by have:=hb.1;simp only[dZ,ae]at this;exact this.2.2.2.2.1:uh h=true);refine⟨(Jc b hn k.z _).mono,?_⟩;simp only[ah];rw[(BR b h _).tx];exact bp k.t (by omega)
theorem Yd (h:Host)(b:Int)(k:BW 400000000 h):tu h b=some (mz h b):=by
 have D5:=eS;unfold tu mz;rw[kc h (k.z.mono),ab,wZ h (k.sz),ab,cm];cases hb:dZ h;rfl;cases hi0:db b 1 1000;rfl;have hl:=tQ (by simp only[dZ,ae]at hb;exact hb.2.2.2.2.1:uh h=true);simp only[aj,af,ab,bR,ah];refine dE (λi=>((sV b i h).1,(i:Int),(sV b i h).2)) h.2.2.2.1.length (by omega) (λi nx hi=>?_) (λnx=>?_);have kk:=BR b h i;have zz:dj 500000000 dL (sV b i h).2:=(Jc b (by omega) k.z i).mono;have i1:i<(sV b i h).2.2.2.2.1.length:=by rw[kk.rx];exact hi
 have i2:i<(sV b i h).2.2.2.2.2.1.length:=by rw[kk.pl];omega
 have i3:i<(sV b i h).2.2.2.2.2.2.1.length:=by rw[kk.vec];omega
 have i4:i<(sV b i h).2.2.2.2.2.2.2.1.length:=by rw[kk.pol];omega
 rw[show sV b (i+1) h=Cy b i (sV b i h) from rfl];generalize sV b i h=s at zz i1 i2 i3 i4⊢;have gp:∀(V:ax Vector)(P:ax Bool),lM (s.2.1,s.2.2.1,s.2.2.2.1,s.2.2.2.2.1,s.2.2.2.2.2.1,V,P,s.2.2.2.2.2.2.2.2) (i:Int) b=some ((kL s.2.2.1 s.2.1 0 s.2.2.2.2.1[i] s.2.2.2.2.2.1[i] s.2.2.2.2.2.2.2.2.2.2.1 b).2.2.2.2,(kL s.2.2.1 s.2.1 0 s.2.2.2.2.1[i] s.2.2.2.2.2.1[i] s.2.2.2.2.2.2.2.2.2.2.1 b).1,s.2.2.1,s.2.2.2.1,s.2.2.2.2.1.set i (kL s.2.2.1 s.2.1 0 s.2.2.2.2.1[i] s.2.2.2.2.2.1[i] s.2.2.2.2.2.2.2.2.2.2.1 b).2.1,s.2.2.2.2.2.1.set i (kL s.2.2.1 s.2.1 0 s.2.2.2.2.1[i] s.2.2.2.2.2.1[i] s.2.2.2.2.2.2.2.2.2.2.1 b).2.2.1,V,P,s.2.2.2.2.2.2.2.2.1,s.2.2.2.2.2.2.2.2.2.1,(kL s.2.2.1 s.2.1 0 s.2.2.2.2.1[i] s.2.2.2.2.2.1[i] s.2.2.2.2.2.2.2.2.2.2.1 b).2.2.2.1,s.2.2.2.2.2.2.2.2.2.2.2):=by intro V P;have Hu:s.2.2.2.2.2.1[i].2.2.2.length<=500000000:=(zz.2.2.2.2.1.2 _ (aM i2)).2.2.2.1;have hm:s.2.1.length<=500000000:=zz.1.1;have hp:s.2.2.1.length<=500000000:=zz.2.1.1;unfold lM;simp only[br i1,br i2,ab,Ya s.2.2.1 s.2.1 0 _ _ _ b (show s.2.2.1.length<=10^9 by omega) (show s.2.1.length<=10^9 by omega) Hu zz.2.2.2.2.2.2.2.2.2.1,aw]
 have Gq:∀V:Vector,s.2.2.2.2.2.2.1.set i V=s.2.2.2.2.2.2.1.set i V:=λ_=>rfl;unfold Cy;rw[al i1,al i2,al i3,al i4];simp only[oo];rw[jI,ah];simp only[br i3,br i4,ab,afX,aw,gp];generalize Ez s.2.2.2.2.2.2.1[i]=w;generalize kL s.2.2.1 s.2.1 0 s.2.2.2.2.1[i] s.2.2.2.2.2.1[i] s.2.2.2.2.2.2.2.2.2.2.1 b=pr;have i5:∀V:Vector,i<(s.2.2.2.2.2.2.1.set i V).length:=λV=>by rw[aC];exact i3
 have i6:∀q:Bool,i<(s.2.2.2.2.2.2.2.1.set i q).length:=λq=>by rw[aC];exact i4
 have e5:∀V:Vector,idx (s.2.2.2.2.2.2.1.set i V) (i:Int)=some V:=λV=>by rw[br (i5 V),List.getElem_set_self]
 have e6:∀q:Bool,idx (s.2.2.2.2.2.2.2.1.set i q) (i:Int)=some q:=λq=>by rw[br (i6 q),List.getElem_set_self]
 rw[ak (n:=(i:Int)+1)];have C7:s.2.2.2.2.2.2.2.1.set i (s.2.2.2.2.2.2.2.1[i])=s.2.2.2.2.2.2.2.1:=List.set_getElem_self ..;generalize hp:s.2.2.2.2.2.2.2.1[i]=p at C7⊢;cases hw:w.2 with
 |true=>simp only[hZ,ah,e6,e5,ab,aj,af,P8,List.set_set];cases decide (pr.2.2.2.2<b)<;>rfl
 |false=>
  simp only[Bool.or_false,af];cases p with
  |false=>rw[C7];rfl
  |true=>
   have e7:idx s.2.2.2.2.2.2.2.1 (i:Int)=some true:=by rw[br i4,hp]
   simp only[ah,aj,af,e5,e7,ab,P8,List.set_set];cases decide (pr.2.2.2.2<b)with|true=>rfl|false=>simp only[af,bt,C7];rfl
 simp only[oo];rw[cC,af]
theorem ZY {n:Nat}(hn:1000<=n)(k:BW n h):BW n (uq h):=by have:=ala hn k.z;exact⟨this.1,by rw[this.2];exact k.t⟩
def txt (_:Int):Bytes:=[]
def Jo:(t:CT)->t.D->Nat
 | .int _,_=>1
 | .bool,_=>1
 | .str,_=>1
 | .sl e,xs=>(xs.map (Jo e)).sum
 | .pair a b,x=>Jo a x.1+Jo b x.2
def mkL (f:α->Int->α)(c:α->Nat):ax α->Int->ax α
 |[],_=>[]
 |x::xs,k=>f x k::mkL f c xs (k+c x)
def mk:(t:CT)->t.D->Int->t.D
 | .int _,_,k=>k
 | .bool,_,k=>tmod k 3==0
 | .str,_,k=>txt k
 | .sl e,xs,k=>mkL (mk e) (Jo e) xs k
 | .pair a b,x,k=>(mk a x.1 k,mk b x.2 (k+Jo a x.1))
structure OG (h:Host):Prop where
 pl:h.2.2.2.2.1.length<=2
 w:h.2.2.1.2.2.1.length<=16
theorem abh (hb:dZ h=true):OG h:=by have hl:=tQ (by have:=hb;simp only[dZ,ae]at this;exact this.2.2.2.2.1:uh h=true);have ht:=Jj (t:=h.2.2.1) (by simp only[dZ,ae]at hb;exact hb.2.2.1);exact⟨by omega,ht⟩
theorem Pm {a b:Host}(f:OG a)(h:ma k a b):OG b:=⟨by rw[h.pl];exact f.pl,by rw[h.tx];exact f.w⟩
theorem aiP (f:OG h):OG (uq h):=by unfold uq;cases dZ h with|false=>exact f|true=>exact Pm f (pH CF h _)
theorem aff (f:OG h):OG (vW h):=by unfold vW;cases dZ h with|false=>exact f|true=>exact Pm f (pH zX h _)
theorem afg (b:Int)(f:OG h):OG (mz h b).1:=by unfold mz;cases dZ h&&db b 1 1000 with|false=>exact f|true=>exact Pm f (BR b h _)
theorem U5 (f:OG h):OG (fF h):=by unfold fF;cases dZ h with|false=>exact f|true=>refine⟨f.pl,?_⟩;simp only[ah];generalize (if(h.2.2.1.2.2.1.length:Int)<au ((kX h.2.1 h.1 0 h.2.2.1.1).2.2.1+(kX h.2.1 h.1 0 h.2.2.1.1).2.2.2) then(h.2.2.1.2.2.1.length:Int) else au ((kX h.2.1 h.1 0 h.2.2.1.1).2.2.1+(kX h.2.1 h.1 0 h.2.2.1.1).2.2.2))=q;unfold mQ;cases Rm ((kX h.2.1 h.1 0 h.2.2.1.1).1,h.2.2.1.2)&&db q 0 (h.2.2.1.2.2.1.length:Int)with|false=>exact f.w|true=>show(h.2.2.1.2.2.1.drop q.toNat).length<=16;rw[aJ];have:=f.w;omega
def ahJ (a:Act):az Bool:=
 aa (aa (some (db a.1 0 6)) λr1=>cond (!r1) (some true) (some (decide ((a.2.2.2.2.1.length:Int)>600)))) λq2=>
 cond q2 (some false) (
 aa (cond (a.1 !=0) (cond (!((a.2.1.1==0)&&((a.2.1.2.1==0)&&((a.2.1.2.2.1==0)&&((a.2.1.2.2.2.1==0)&&((a.2.1.2.2.2.2.1==0)&&((a.2.1.2.2.2.2.2.1==0)&&((a.2.1.2.2.2.2.2.2.1==0)&&((a.2.1.2.2.2.2.2.2.2.1==0)&&((a.2.1.2.2.2.2.2.2.2.2.1==0)&&((a.2.1.2.2.2.2.2.2.2.2.2.1==0)&&((a.2.1.2.2.2.2.2.2.2.2.2.2.1==0)&&((a.2.1.2.2.2.2.2.2.2.2.2.2.2.1==0)&&((a.2.1.2.2.2.2.2.2.2.2.2.2.2.2.1==0)&&((a.2.1.2.2.2.2.2.2.2.2.2.2.2.2.2.1==0)&&((a.2.1.2.2.2.2.2.2.2.2.2.2.2.2.2.2.1==0)&&((a.2.1.2.2.2.2.2.2.2.2.2.2.2.2.2.2.2==([]:Bytes))&&true))))))))))))))))) (some true) (cond (a.2.2.1 !=0) (some true) (some (a.2.2.2.1 !=0)))) (some false)) λq3=>
 cond q3 (some false) (
 aa (cond (a.1==2) (cond (a.1==5) (some true) (some (a.2.2.2.2.2==0))) (cond (a.2.2.2.2.1==([]:Bytes)) (cond (a.1==5) (some true) (some (a.2.2.2.2.2==0))) (some false))) λq4=>some q4))
theorem aeS (a:Act):∃b,ahJ a=some b:=by simp only[ahJ,bM,ab];exact⟨_,rfl⟩
def FN (a:Act):Bool:=(ahJ a).getD false
theorem alv (a:Act):ahJ a=some (FN a):=by obtain⟨b,hb⟩:=aeS a;simp[FN,hb]
theorem Vt (a:Act):Ck a=some (FN a):=by rw[<-alv];unfold Ck;rw[cm];rfl
theorem BW.tx {n:Nat}(k:BW n h)(hn:n<=10^9):alu h.2.2.1:=
 have z:dj 1000000000 dL h:=k.z.mono hn
 ⟨z.2.2.1.2.1.2.2.2.1,z.2.2.1.2.2.1.1,λx hx=>(z.2.2.1.2.2.1.2 x hx).2.2.1⟩
def Am (h:Host)(p:aK)(c z:Int):Host×Bool:=
 bif dZ h then(((yE h.2.1 h.1 0 h.2.2.1 p c z).1,h.2.1,(yE h.2.1 h.1 0 h.2.2.1 p c z).2.1,h.2.2.2),(yE h.2.1 h.1 0 h.2.2.1 p c z).2.2) else(h,false)
theorem afO (h:Host)(p:aK)(c z:Int)(k:BW 900000000 h):zd h p c z=some (Am h p c z):=by have zz:dj 1000000000 dL h:=k.z.mono;unfold zd Am;rw[kc h zz,ab,wZ h (k.sz),ab];cases dZ h;rfl;simp only[aj,af,ah,afP _ _ _ _ _ _ _ zz.2.1.1 zz.1.1 (k.tx (by omega)) zz.2.2.1.2.2.1.1 (bp k.t (by omega)),ab]
theorem SK {n:Nat}(hn:128<=n)(l:ax aH)(d:Int)(p:dB)(z:Nat):∀(q:bW)(s:Bytes)(m:bP)(a:ax iu){x},dj n (.sl .str) m->zW l d p z q s m a=some x->dj n (.sl .str) x.2
 |[],s,m,a,x,hm,h=>by cases h;exact hm
 |b::q,s,m,a,x,hm,h=>by rw[zW]at h;cases hq:(jb l m d (qx p b) (s.take z) false).2 with|false=>rw[hq]at h;cases h|true=>rw[hq]at h;exact SK hn l d p z q _ _ _ (GI hn hm ..) h
theorem Nj {n:Nat}(hn:128<=n)(l:ax aH)(d:Int):∀(q:bP)(m:bP)(r:kY){x},dj n (.sl .str) m->tR l d q m r=some x->dj n (.sl .str) x.1
 |[],m,r,x,hm,h=>by cases h;exact hm
 |s::q,m,r,x,hm,h=>by rw[tR]at h;cases hq:(dm l m d r s).2.2 with|false=>rw[hq]at h;cases h|true=>rw[hq]at h;exact Nj hn l d q _ _ (KK hn hm ..) h
theorem Zh {n:Nat}(hn:128<=n){l:ax aH}{q:bP}(hm:dj n (.sl .str) m):dj n (.sl .str) (xJ l m d r q).1:=by unfold xJ;cases hx:tR l d q m r with|none=>exact hm|some x=>exact Nj hn l d q m r hm hx
theorem ahq (p:dB)(n:Int):(lP p n).1.2.2.2.length+(lP p n).2.1.length=p.2.2.2.length:=by unfold lP;cases ee p&&db n 0 (p.2.2.2.length:Int)with|false=>rfl|true=>simp only[ah,aJ,aV];omega
theorem ae2 (a:ax pQ)(x:pQ):(bL (a++[x])).length=(bL a).length+x.2.2.length:=by simp[bL]
theorem Zy:∀l:ax pQ,(∀x∈l,1<=x.2.1)->(l.length:Int)<=eF l
 |[],_=>by simp[eF]
 |y::l,h=>by have h1:=Zy l (λx hx=>h x (dY _ hx));have h2:=h y (List.mem_cons_self ..);simp only[eF,dk,fW,aU]at h1⊢;omega
structure amT (n:Nat) (m:List Bytes) (t:eD) (r:List Bytes×eD×Bool):Prop where
 mem:dj n (.sl .str) r.1
 tx:dj (n+1) oE r.2.1
 sum:r.2.1.2.1.2.2.2.length+(bL r.2.1.2.2.1).length<=n
 w:r.2.1.2.2.1.length<=16\/r.2.1.2.2.1=t.2.2.1
theorem TM {n:Nat}(hn:128<=n){l:ax aH}{c:Int}(d:Int)(hm:dj n (.sl .str) m)(ht:dj n oE t)(hs:t.2.1.2.2.2.length+(bL t.2.2.1).length<=n):amT n m t (yE l m d t p c z):=by
 have old:amT n m t (m,t,false):=⟨hm,ht.mono,hs,Or.inr rfl⟩
 unfold yE;cases hg:Rm t&&(dv p&&(db z 1 t.2.1.2.1&&db c 1 128));exact old;simp only[ae]at hg;simp only[ah];generalize B4 p z.toNat=k;cases hk:MI t k;exact old;simp only[ah];rcases hx:zW l d t.2.1 z.toNat (lP t.2.1 (k:Int)).2.1 (lG p).1 m []with _|x;exact old;simp only;unfold QQ;have hpm:=Zh (n:=n) hn (l:=l) (d:=d) (q:=(su x.1 c t.2.2.2).map AR) (r:=t.1) (SK hn l d t.2.1 z.toNat _ _ _ _ hm hx);generalize xJ l x.2 d t.1 ((su x.1 c t.2.2.2).map AR)=w at hpm⊢;cases w.2.2;exact old;have hl:=ahq t.2.1 (k:Int);have hb:=ae2 t.2.2.1 (t.2.2.2,(k:Int)+1,(lP t.2.1 (k:Int)).2.1);have hb:(bL (t.2.2.1++[(t.2.2.2,(k:Int)+1,(lP t.2.1 (k:Int)).2.1)])).length=(bL t.2.2.1).length+(lP t.2.1 (k:Int)).2.1.length:=hb;refine⟨hpm,⟨⟨cB,cB,cB,cB⟩,⟨cB,cB,cB,?_,λ_ _=>trivial⟩,?_,cB⟩,?_,Or.inl ?_⟩;show(lP t.2.1 (k:Int)).1.2.2.2.length<=n+1;omega;exact Eg (t:=lJ) (k:=1) ht.2.2.1 (λy hy=>by rw[bz.1 hy];exact⟨cB,cB,by show(lP t.2.1 (k:Int)).2.1.length<=n;omega,λ_ _=>trivial⟩) (by simp);show(lP t.2.1 (k:Int)).1.2.2.2.length+(bL (t.2.2.1++[(t.2.2.2,(k:Int)+1,(lP t.2.1 (k:Int)).2.1)])).length<=n;omega;show(t.2.2.1++[_]).length<=16;have hq:=hg.1;simp only[Rm,ae]at hq;have hrg:=mJ hq.1;have hc:=Zy t.2.2.1 (λx hx=>by have:=aF.1 hq.2.2.2.1 x hx;simp only[qn,ae,aS]at this;omega);unfold MI at hk;simp only[ae,aN,cL]at hk;rw[ai,ba];omega
theorem akq {n:Nat}(hn:1000<=n)(p:aK)(c z:Int)(k:BW n h):BW (n+1) (Am h p c z).1:=by unfold Am;cases dZ h;exact k.mono;have zz:=k.z;have s:=TM (by omega) (l:=h.2.1) (p:=p) (c:=c) (z:=z) 0 zz.1 zz.2.2.1 k.t;have z1:dj (n+1) dL h:=zz.mono;exact⟨⟨s.mem.mono,z1.2.1,s.tx,z1.2.2.2⟩,bp s.sum (by omega)⟩
theorem aiO {n:Nat}(hn:1000<=n)(p:aK)(c z:Int)(k:BW n h)(f:OG h):OG (Am h p c z).1:=by unfold Am;cases dZ h;exact f;have s:=TM (by omega) (l:=h.2.1) (p:=p) (c:=c) (z:=z) 0 k.z.1 k.z.2.2.1 k.t;refine⟨f.pl,?_⟩;rcases s.w with w|w;exact w;show(yE h.2.1 h.1 0 h.2.2.1 p c z).2.1.2.2.1.length<=16;rw[w];exact f.w
theorem Xa {n:Nat}(hn:1000<=n)(x:Bytes)(k:BW n h)(f:OG h):OG (jH h x):=by have:=GK hn x k;exact⟨by rw[this.2.2];exact f.pl,by rw[this.2.1];exact f.w⟩
theorem Nk (h:Host):∀k,(iL h k).2.2.1=h.2.2.1
 |0=>rfl
 |k+1=>by show(wg k (iL h k)).2.2.1=_;rw[<-Nk h k];generalize iL h k=s;unfold wg;rcases h1:s.2.2.2.1[k]? with _|x;rfl;cases h2:s.2.2.2.2.2.1[k]? with|none=>rfl|some v=>rfl
theorem Mi {n:Nat}(hn:1000<=n)(k:BW n h)(f:OG h):BW (n+645000) (rp h)/\OG (rp h):=by
 unfold rp;cases hb:dZ h;exact⟨k.mono,f⟩;have hl:=tQ (PR hb);have e:=MG hn k.z hl.1;have hw:=f.w;have hp:=E4 (n:=n) (by omega) k.z h.2.2.2.1.length;have ht:=(Ak (n:=n+322000*h.2.2.2.1.length) (h:=h) hp.2 h.2.2.1.2.2.1.length).1.e;have h4:=ql 256 128 8;simp only[ah];have hx:=Nk (rD h) h.2.2.2.1.length;have hk:=(zA (rD h) h.2.2.2.1.length).pl;have Hu:(rD h).2.2.2.2.1.length=h.2.2.2.2.1.length:=by show(returned h h.2.2.1.2.2.1.length).2.2.2.2.1.length=_;rw[ht];exact hp.1.pl
 refine⟨⟨(E8 (by omega) e _).mono,?_⟩,?_,?_⟩;rw[hx];show(iK 256 128 8).1.2.2.2.length+0<=_;omega;rw[hk,Hu];exact f.pl;rw[hx];show 0<=16;omega
def aiQ (f:lq):ax Stream->Int->Int
 |[],_=> -1
 |s::r,i=>if s.1=f then i else aiQ f r (i+1)
def ahL (a b:ax Stream)(f:lq):Bool:=
 match idx a (aiQ f a 0),idx b (aiQ f b 0)with
 |some x,some y=>decide (x=y)
 |_,_=>false
def awa (b:Bool):Int:=bif b then 1 else 0
def HO (h:Host)(a:Act):Host×Int:=
 bif !dZ h|| !FN a then(h, -1) else
 bif a.1==0 then((Am h a.2.1 a.2.2.1 a.2.2.2.1).1,awa (Am h a.2.1 a.2.2.1 a.2.2.2.1).2) else
 bif a.1==1 then(fF h,0) else
 bif a.1==2 then(jH h a.2.2.2.2.1,0) else
 bif a.1==3 then(vW h,0) else
 bif a.1==4 then(uq h,0) else
 bif a.1==5 then mz h a.2.2.2.2.2 else(rp h,0)
theorem S6 (h:Host)(a:Act)(k:BW 90000000 h)(hx:a.2.2.2.2.1.length<=10^9:=by omega):EV h a=some (HO h a):=by
 have z:dj 1000000000 dL h:=k.z.mono;unfold EV HO;rw[wZ h (k.sz),ab,Vt,ab];cases dZ h;simp only[bt,ah,iO,ab,kc h z];cases FN a;simp only[aj,bt,ah,af,hZ,ab,kc h z];simp only[aj,af,cl,ab,afO h _ _ _ (k.mono),Kh h (k.mono),Kc h _ (k.mono) hx,abI h (k.mono),Yg h (k.sz) z,Yd h _ (k.mono),Ic h (k.sz) (k.z.mono)];cases a.1==0;case true=>(simp only[ah];cases (Am h a.2.1 a.2.2.1 a.2.2.2.1).2<;>rfl)
 cases a.1==1;case true=>rfl
 cases a.1==2;case true=>rfl
 cases a.1==3;case true=>rfl
 cases a.1==4;case true=>rfl
 cases a.1==5<;>rfl
theorem alw {n:Nat}(hn:1000<=n)(a:Act)(k:BW n h)(f:dZ h=true\/OG h):BW (n+645000) (HO h a).1/\(dZ h=true\/OG h->OG (HO h a).1\/(HO h a).1=h):=by
 have f:OG h:=f.elim abh id;unfold HO;cases !dZ h|| !FN a;case true=>exact⟨k.mono,λ_=>Or.inr rfl⟩
 simp only[af];cases a.1==0;case true=>exact⟨(akq hn _ _ _ k).mono,λ_=>Or.inl (aiO hn _ _ _ k f)⟩
 cases a.1==1;case true=>exact⟨(Fk (by omega) k).mono,λ_=>Or.inl (U5 f)⟩
 cases a.1==2;case true=>exact⟨(GK hn _ k).1.mono,λ_=>Or.inl (Xa hn _ k f)⟩
 cases a.1==3;case true=>exact⟨(afm hn k).mono,λ_=>Or.inl (aff f)⟩
 cases a.1==4;case true=>exact⟨(ZY hn k).mono,λ_=>Or.inl (aiP f)⟩
 cases a.1==5 with|true=>exact⟨(ZA hn _ k).mono,λ_=>Or.inl (afg _ f)⟩|false=>exact⟨(Mi hn k f).1,λ_=>Or.inl (Mi hn k f).2⟩
theorem ahK {n:Nat}(hn:1000<=n)(a:Act)(k:BW n h)(f:OG h):BW (n+645000) (HO h a).1/\OG (HO h a).1:=by have g:=alw hn a k (Or.inr f);refine⟨g.1,?_⟩;rcases g.2 (Or.inr f)with h1|h1;exact h1;rw[h1];exact f
theorem acj (h:de m=true)(a:Int)(s:Bytes):de (qu m a s).1=true:=by unfold qu;cases hw:gX m a (s.length:Int);exact h;simp only[gX,ae,aE]at hw;exact rh.2 (BH s.length (rh.1 hw.1) (by omega)).1
theorem YL:∀(q:ax (Int×Int)){m:bP}(s:Bytes),de m=true->de (Md q m s)=true
 |[],_,_,h=>h
 |p::q,m,s,h=>by rw[Md];exact YL q _ (acj h _ _)
theorem GC (h:de m=true)(l:ax aH)(d a:Int)(s:Bytes)(w:Bool):de (jb l m d a s w).1=true:=by unfold jb;cases (lO l m d a (s.length:Int) w).2 with|false=>exact h|true=>exact YL _ _ h
theorem M7 (h:de m=true)(l:ax aH)(d:Int)(r:kY)(s:Bytes):de (dm l m d r s).1=true:=by
 unfold dm;cases (qA r==0)||((s.length:Int) !=16);case true=>exact h
 cases (jb l m d (qL r r.2.2.2) s true).2 with|false=>exact h|true=>exact GC h ..
theorem GL {b x y:Int}(hb:0<=b/\b<=130944:=by omega)(hn:n=2\/n=4\/n=8\/n=16:=by omega)(hx:0<=x/\x<=2*n-1:=by omega)(hy:0<=y/\y<=2*n-1:=by omega)(hu:(y-x)%(2*n)<=n:=by omega):dz (b,n,x,y)=true:=by have hs:jP n=true:=iM.2 hn;simp only[dz,bV,hs,aS.2 hb,aS.2 hx,aS.2 hy,ch,bn,aE];exact hu
theorem HD (h:dz r=true):bV r=(r.2.2.2-r.2.2.1)%(2*r.2.1)/\0<=bV r/\bV r<=r.2.1:=by
 have k:=mJ h;have e:bV r=(r.2.2.2-r.2.2.1)%(2*r.2.1):=by unfold bV;rw[aI (iM.2 k.2.2.1)]
 simp only[dz,ae,aE]at h;exact⟨e,by rw[e];exact fJ _ (by omega),h.2.2.2.2⟩
theorem Mx {x:Int}(hn:0<n:=by omega)(hx:0<=x/\x<=n-1:=by omega):tmod (x+1) n=if x+1=n then 0 else x+1:=by rw[dK (by omega)];split;rename_i h;rw[h];exact Int.emod_self;exact Int.emod_eq_of_lt (by omega) (by omega)
theorem agT (h:dz r=true)(hf:bV r<r.2.1):dz (r.1,r.2.1,r.2.2.1,tmod (r.2.2.2+1) (2*r.2.1))=true/\bV (r.1,r.2.1,r.2.2.1,tmod (r.2.2.2+1) (2*r.2.1))=bV r+1:=by
 have k:=mJ h;have u:=HD h;have e:=Mx (x:=r.2.2.2) (n:=2*r.2.1);have u2:(tmod (r.2.2.2+1) (2*r.2.1)-r.2.2.1)%(2*r.2.1)=bV r+1:=by
  have h1:(tmod (r.2.2.2+1) (2*r.2.1)-r.2.2.1)%(2*r.2.1)=(r.2.2.2+1-r.2.2.1)%(2*r.2.1):=by rw[e];split;rename_i hh;rw[<-hh,show(r.2.2.2+1-r.2.2.1)=(0-r.2.2.1)+(r.2.2.2+1) by omega,Int.add_emod_right];rfl
  rw[h1,show r.2.2.2+1-r.2.2.1=(r.2.2.2-r.2.2.1)+1 by omega];have h0:=u.1;generalize r.2.2.2-r.2.2.1=d at h0⊢;rw[Int.add_emod,<-h0,Int.emod_eq_of_lt (a:=1) (by omega) (by omega),Int.emod_eq_of_lt (by omega) (by omega)]
 refine⟨GL ⟨k.1,k.2.1⟩ k.2.2.1 ⟨k.2.2.2.1,k.2.2.2.2.1⟩ (by rw[e];split<;>omega) (by rw[u2];omega),?_⟩;unfold bV;rw[aI (iM.2 k.2.2.1)];exact u2
theorem akh (h:dz r=true)(hf:bV r≠0):dz (r.1,r.2.1,tmod (r.2.2.1+1) (2*r.2.1),r.2.2.2)=true/\bV (r.1,r.2.1,tmod (r.2.2.1+1) (2*r.2.1),r.2.2.2)=bV r-1:=by
 have k:=mJ h;have u:=HD h;have e:=Mx (x:=r.2.2.1) (n:=2*r.2.1);have u2:(r.2.2.2-tmod (r.2.2.1+1) (2*r.2.1))%(2*r.2.1)=bV r-1:=by
  have h1:(r.2.2.2-tmod (r.2.2.1+1) (2*r.2.1))%(2*r.2.1)=(r.2.2.2-(r.2.2.1+1))%(2*r.2.1):=by rw[e];split;rename_i hh;rw[<-hh,show(r.2.2.2-0)=(r.2.2.2-(r.2.2.1+1))+(r.2.2.1+1) by omega,Int.add_emod_right];rfl
  rw[h1,show r.2.2.2-(r.2.2.1+1)=(r.2.2.2-r.2.2.1)-1 by omega];have h0:=u.1;generalize r.2.2.2-r.2.2.1=d at h0⊢;rw[Int.sub_emod,<-h0,Int.emod_eq_of_lt (a:=1) (by omega) (by omega),Int.emod_eq_of_lt (by omega) (by omega)]
 refine⟨GL ⟨k.1,k.2.1⟩ k.2.2.1 (by rw[e];split<;>omega) ⟨k.2.2.2.2.2.1,k.2.2.2.2.2.2⟩ (by rw[u2];omega),?_⟩;unfold bV;rw[aI (iM.2 k.2.2.1)];exact u2
theorem afp (h:dz r=true):qA r=r.2.1-bV r:=by have k:=mJ h;have u:=HD h;unfold qA;rw[h,ah,ak]
theorem Zq (h:dz r=true)(l:ax aH)(m:bP)(d:Int)(s:Bytes):dz (dm l m d r s).2.1=true/\(dm l m d r s).2.1.2.1=r.2.1:=by
 unfold dm;cases hc:(qA r==0)||((s.length:Int) !=16);case true=>exact⟨h,rfl⟩
 cases (jb l m d (qL r r.2.2.2) s true).2 with
 |false=>exact⟨h,rfl⟩
 |true=>
  simp only[cn]at hc;have h1:qA r≠0:=by simpa using hc.1
  rw[afp h]at h1;have u:=HD h;exact⟨(agT h (by omega)).1,rfl⟩
theorem TJ (h:dz r=true)(l:ax aH)(m:bP)(d:Int):dz (bC l m d r).2.1=true/\(bC l m d r).2.1.2.1=r.2.1:=by
 unfold bC;cases hc: !dz r||(bV r==0);case true=>exact⟨h,rfl⟩
 cases (uu l m d (qL r r.2.2.1) 16).2 with|false=>exact⟨h,rfl⟩|true=>simp only[cn]at hc;exact⟨(akh h (by simpa using hc.2)).1,rfl⟩
theorem aiW {l:bW}:(range l.length).all (Ge n l)=true↔(∀x∈l,0<=x/\x<=n-1)/\l.Nodup:=by
 rw[aF];constructor;intro h;have k:∀i (hi:i<l.length),(0<=l[i]/\l[i]<=n-1)/\l[i]∉l.take i:=by intro i hi;have:=h i (bB.2 hi);unfold Ge at this;rw[cu hi,ae,aS]at this;exact⟨this.1,by simpa using this.2⟩
 refine⟨λx hx=>?_,?_⟩;obtain⟨i,hi,rfl⟩:=List.getElem_of_mem hx;exact(k i hi).1;rw[List.Nodup,List.pairwise_iff_getElem];intro i j hi hj hij he;refine(k j hj).2 ?_;rw[<-he];exact List.mem_take_iff_getElem.2 ⟨i,by omega,rfl⟩;rintro⟨h1,h2⟩ i hi;have hi:=bB.1 hi;unfold Ge;rw[cu hi,ae,aS];refine⟨h1 _ (aM hi),?_⟩;have:l[i]∉l.take i:=by intro hm;obtain⟨j,hj,he⟩:=List.mem_take_iff_getElem.1 hm;rw[List.Nodup,List.pairwise_iff_getElem]at h2;exact h2 j i (by omega) hi (by omega) he
 simpa using this
theorem Ep {p:dB}:ee p=true↔(0<=p.1/\p.1<=130944)/\(1<=p.2.1/\p.2.1<=512)/\(0<=p.2.2.1/\p.2.2.1<=16)/\(∀x∈p.2.2.2,0<=x/\x<=p.2.2.1-1)/\p.2.2.2.Nodup:=by unfold ee;simp only[ae,aS,aiW]
theorem GH {p:dB}(h:ee p=true){l:bW}(hl:l.Sublist p.2.2.2):ee (p.1,p.2.1,p.2.2.1,l)=true:=by have k:=Ep.1 h;exact Ep.2 ⟨k.1,k.2.1,k.2.2.1,λx hx=>k.2.2.2.1 x (hl.subset hx),k.2.2.2.2.sublist hl⟩
theorem agL {p:dB}(h:ee p=true)(l:bW):ee (IS p l).1=true:=by unfold IS;cases hg:D2 p l with|false=>exact h|true=>unfold D2 at hg;simp only[ae]at hg;exact hg.2
theorem KQ {s:pQ}:qn n s=true↔(1<=s.2.1/\s.2.1<=n)/\0<=s.1/\s.1<=65535:=by unfold qn;simp only[ae,aS]
structure Jv (t:eD):Prop where
 ring:dz t.1=true
 next:0<=t.2.2.2/\t.2.2.2<=65535
 sent:∀x∈t.2.2.1,(1<=x.2.1/\x.2.1<=t.1.2.1)/\0<=x.1/\x.1<=65535
 pool:ee (im t.2.1 (bL t.2.2.1))=true
 Jo:eF t.2.2.1<=t.1.2.1
theorem Jv.free (h:Jv t):ee t.2.1=true:=GH h.pool (List.sublist_append_left _ _)
theorem apE:Rm t=true↔Jv t:=by constructor;intro h;unfold Rm at h;simp only[ae,aS,aF,KQ,aE]at h;obtain⟨h1,h2,h3,h4,h5,h6⟩:=h;unfold D2 at h5;simp only[ae]at h5;exact⟨h1,h3,h4,h5.2,h6⟩;·intro h;unfold Rm D2;simp only[ae,aS,aF,KQ,aE];exact⟨h.ring,h.free,h.next,h.sent,⟨h.free,h.pool⟩,h.Jo⟩
theorem MC (a b:ax pQ):bL (a++b)=bL a++bL b:=by simp[bL]
theorem Sx (a b:ax pQ):eF (a++b)=eF a+eF b:=by simp[eF]
theorem SU:∀(l:ax pQ)(p:dB),ee (im p (bL l))=true->sy p l=im p (bL l)
 |[],p,_=>by simp[sy,bL,im]
 |x::l,p,h=>by
  have e:bL (x::l)=x.2.2++bL l:=by simp[bL]
  rw[e]at h;have h1:ee (im p x.2.2)=true:=GH (p:=im p (x.2.2++bL l)) h (by show(p.2.2.2++x.2.2).Sublist (p.2.2.2++(x.2.2++bL l));rw[<-aL];exact List.sublist_append_left _ _);have h0:ee p=true:=GH (p:=im p x.2.2) h1 (List.sublist_append_left _ _);have hg:(IS p x.2.2).1=im p x.2.2:=by unfold IS D2;rw[h0,h1];rfl
  have ea:im (im p x.2.2) (bL l)=im p (x.2.2++bL l):=by simp[im]
  rw[sy,hg,SU l _ (by rw[ea];exact h),ea,e]
theorem amI (h:Jv t)(hr:dz r=true)(hn:r.2.1=t.1.2.1):Jv (r,t.2):=
 ⟨hr,h.next,λx hx=>by show(1<=x.2.1/\x.2.1<=r.2.1)/\_;rw[hn];exact h.sent x hx,h.pool,by show eF t.2.2.1<=r.2.1;rw[hn];exact h.Jo⟩
theorem Z1 (h:Jv t)(n:Int):Jv (mQ t n).1:=by
 unfold mQ;cases hc:Rm t&&db n 0 (t.2.2.1.length:Int);exact h;simp only[ae,aS]at hc;have hs:t.2.2.1.take n.toNat++t.2.2.1.drop n.toNat=t.2.2.1:=cI _ _;have hb:bL t.2.2.1=bL (t.2.2.1.take n.toNat)++bL (t.2.2.1.drop n.toNat):=by rw[<-MC,hs]
 have hp:ee (im t.2.1 (bL (t.2.2.1.take n.toNat)))=true:=GH (p:=im t.2.1 (bL t.2.2.1)) h.pool (by show(t.2.1.2.2.2++_).Sublist (t.2.1.2.2.2++_);rw[hb];exact(List.sublist_append_left _ _).append_left _);have hg:=SU _ _ hp;refine⟨h.ring,h.next,λx hx=>h.sent x (List.mem_of_mem_drop hx),?_,?_⟩;show ee (im (sy t.2.1 (t.2.2.1.take n.toNat)) (bL (t.2.2.1.drop n.toNat)))=true;rw[hg,show im (im t.2.1 (bL (t.2.2.1.take n.toNat))) (bL (t.2.2.1.drop n.toNat))=im t.2.1 (bL t.2.2.1) by rw[hb];simp[im]];exact h.pool;show eF (t.2.2.1.drop n.toNat)<=t.1.2.1;have h1:eF t.2.2.1=eF (t.2.2.1.take n.toNat)+eF (t.2.2.1.drop n.toNat):=by rw[<-Sx,hs]
 have h2:0<=eF (t.2.2.1.take n.toNat):=AP t.1.2.1 _ (by rw[aF];exact λx hx=>KQ.2 (h.sent x (List.mem_of_mem_take hx)));have:=h.Jo;omega
theorem O1 (l:ax aH)(m:bP)(d:Int):∀(n:Nat)(acc:ax Ha)(r:kY),dz r=true->dz (wS l m d n acc r).2.1=true/\(wS l m d n acc r).2.1.2.1=r.2.1
 |0,acc,r,h=>⟨h,rfl⟩
 |n+1,acc,r,h=>by have k:=mJ h;have ht:=TJ h l m d;rw[wS];cases !(bC l m d r).2.2|| !(dx (bC l m d r).1).2 with|true=>exact⟨GL ⟨k.1,k.2.1⟩ k.2.2.1 ⟨k.2.2.2.2.2.1,k.2.2.2.2.2.2⟩ ⟨k.2.2.2.2.2.1,k.2.2.2.2.2.2⟩ (by rw[Int.sub_self,Int.zero_emod];omega),rfl⟩|false=>cases abe (dx (bC l m d r).1).1 with|true=>exact ht|false=>have:=O1 l m d n (acc++[(dx (bC l m d r).1).1]) _ ht.1;exact⟨this.1,this.2.trans ht.2⟩
theorem aaA (h:dz r=true)(l:ax aH)(m:bP)(d:Int):dz (dI l m d r).2.1=true/\(dI l m d r).2.1.2.1=r.2.1:=by unfold dI;cases !dz r||(bV r==0)with|true=>exact⟨h,rfl⟩|false=>exact O1 l m d _ _ _ h
theorem YW (h:dz r=true)(l:ax aH)(m:bP)(d:Int):dz (iX l m d r).1=true/\(iX l m d r).1.2.1=r.2.1:=by
 have hc:=aaA h l m d;unfold iX;cases !dz r||(bV r==0);case true=>exact⟨h,rfl⟩
 cases !(dI l m d r).2.2|| !(gA (dI l m d r).1).2.2.2;case true=>exact hc
 cases !(og l m d (gA (dI l m d r).1).1).2||(!(AJ (og l m d (gA (dI l m d r).1).1).1).2||((jo (AJ (og l m d (gA (dI l m d r).1).1).1).1).2 !=0))with|true=>exact hc|false=>exact hc
theorem G1 (l:ax aH)(m:bP)(d:Int):∀(n:Nat)(fr:bP)(dn bd:Nat)(r:kY),dz r=true->dz (nS l m d n fr dn bd r).1=true/\(nS l m d n fr dn bd r).1.2.1=r.2.1
 |0,fr,dn,bd,r,h=>⟨h,rfl⟩
 |n+1,fr,dn,bd,r,h=>by
  have k:=YW h l m d;rw[nS];cases (iX l m d r).2.2==0;case true=>exact⟨h,rfl⟩
  cases (iX l m d r).2.2==1 with|true=>have:=G1 l m d n (fr++(iX l m d r).2.1) (dn+1) bd _ k.1;exact⟨this.1,this.2.trans k.2⟩|false=>have:=G1 l m d n (fr++(iX l m d r).2.1) dn (bd+1) _ k.1;exact⟨this.1,this.2.trans k.2⟩
theorem KJ (l:ax aH)(d:Int):∀(q:bP)(m:bP)(r:kY){x},tR l d q m r=some x->(dz r=true->dz x.2=true/\x.2.2.1=r.2.1)/\(de m=true->de x.1=true)
 |[],m,r,x,h=>by cases h;exact⟨λh=>⟨h,rfl⟩,λh=>h⟩
 |s::q,m,r,x,h=>by rw[tR]at h;cases hq:(dm l m d r s).2.2 with|false=>rw[hq]at h;cases h|true=>rw[hq]at h;have k:=KJ l d q _ _ h;refine⟨λhr=>?_,λhm=>k.2 (M7 hm ..)⟩;have hp:=Zq hr l m d s;have:=k.1 hp.1;exact⟨this.1,this.2.trans hp.2⟩
theorem Tq (l:ax aH)(d:Int)(p:dB)(z:Nat):∀(q:bW)(s:Bytes)(m:bP)(a:ax iu){x},zW l d p z q s m a=some x->de m=true->de x.2=true
 |[],s,m,a,x,h,hm=>by cases h;exact hm
 |b::q,s,m,a,x,h,hm=>by rw[zW]at h;cases hq:(jb l m d (qx p b) (s.take z) false).2 with|false=>rw[hq]at h;cases h|true=>rw[hq]at h;exact Tq l d p z q _ _ _ h (GC hm ..)
theorem agM {p:dB}(h:ee p=true){l:bW}(hl:l.Perm p.2.2.2):ee (p.1,p.2.1,p.2.2.1,l)=true:=by have k:=Ep.1 h;exact Ep.2 ⟨k.1,k.2.1,k.2.2.1,λx hx=>k.2.2.2.1 x (hl.mem_iff.1 hx),hl.nodup_iff.2 k.2.2.2.2⟩
theorem ag5 (h:Jv t)(hm:de m=true)(l:ax aH)(d c:Int){n:Nat}(hf:MI t n=true)(x:ax iu×bP)(hx:de x.2=true):de (QQ l m d t c n x).1=true/\Jv (QQ l m d t c n x).2.1:=by
 unfold QQ xJ;cases hp:tR l d ((su x.1 c t.2.2.2).map AR) x.2 t.1 with
 |none=>exact⟨hm,h⟩
 |some y=>
  have k:=KJ l d _ _ _ hp;have kr:=k.1 h.ring;refine⟨k.2 hx,?_⟩;unfold MI at hf;simp only[ae,aN,cL]at hf;have ht:lP t.2.1 (n:Int)=((t.2.1.1,t.2.1.2.1,t.2.1.2.2.1,t.2.1.2.2.2.drop n),t.2.1.2.2.2.take n,true):=by have h1:=hf.1;unfold lP at h1⊢;cases hc:ee t.2.1&&db (n:Int) 0 (t.2.1.2.2.2.length:Int)with|false=>rw[hc]at h1;cases h1|true=>simp only[ah,aw]
  have h0:0<=eF t.2.2.1:=AP t.1.2.1 _ (by rw[aF];exact λx hx=>KQ.2 (h.sent x hx));show Jv (y.2,(lP t.2.1 (n:Int)).1,t.2.2.1++[(t.2.2.2,(n:Int)+1,(lP t.2.1 (n:Int)).2.1)],tmod (t.2.2.2+1) 65536);rw[ht];have hn:=h.next
  refine⟨kr.1,?_,?_,?_,?_⟩;have:=Mx (x:=t.2.2.2) (n:=65536);show 0<=tmod (t.2.2.2+1) 65536/\tmod (t.2.2.2+1) 65536<=65535;rw[this];split<;>omega;intro s hs;show(1<=s.2.1/\s.2.1<=y.2.2.1)/\0<=s.1/\s.1<=65535;rw[kr.2];rcases ay.1 hs with hs|hs;exact h.sent s hs;rw[bz.1 hs];show(1<=(n:Int)+1/\(n:Int)+1<=t.1.2.1)/\0<=t.2.2.2/\t.2.2.2<=65535;omega;refine agM (p:=im t.2.1 (bL t.2.2.1)) h.pool ?_;show(t.2.1.2.2.2.drop n++bL (t.2.2.1++[_])).Perm (t.2.1.2.2.2++bL t.2.2.1);rw[MC,show bL [(t.2.2.2,(n:Int)+1,t.2.1.2.2.2.take n)]=t.2.1.2.2.2.take n by simp[bL]];refine(List.perm_append_comm_assoc _ _ _).trans ?_;refine(List.perm_append_comm).trans ?_;exact((List.perm_append_comm.trans (by rw[cI])).append_right _);show eF (t.2.2.1++[_])<=y.2.2.1;rw[Sx,kr.2,show eF [(t.2.2.2,(n:Int)+1,t.2.1.2.2.2.take n)]=(n:Int)+1 by simp[eF]];omega
theorem ag4 (h:Jv t)(hm:de m=true)(l:ax aH)(d:Int)(p:aK)(c z:Int):de (yE l m d t p c z).1=true/\Jv (yE l m d t p c z).2.1:=by unfold yE;cases Rm t&&(dv p&&(db z 1 t.2.1.2.1&&db c 1 128));exact⟨hm,h⟩;cases hf:MI t (B4 p z.toNat);exact⟨hm,h⟩;simp only[ah];cases hw:zW l d t.2.1 z.toNat (lP t.2.1 (B4 p z.toNat:Int)).2.1 (lG p).1 m []with|none=>exact⟨hm,h⟩|some x=>exact ag5 h hm l d c hf x (Tq l d _ _ _ _ _ _ hw hm)
theorem Zw {a b s k f w:Int}(h1:0<=a/\a<=65535)(h2:0<=b/\b<=65535)(h3:0<=s/\s<=4294967295)(h4:0<=k/\k<=4294967295)(h5:0<=f/\f<=31)(h6:0<=w/\w<=65535)(hx:x.length<=320):sT (6,a,b,s,k,f,w,x)=true:=by have DE:decide ((x.length:Int)>320)=false:=cC;simp only[sT,aS.2 h1,aS.2 h2,aS.2 h3,aS.2 h4,aS.2 h5,aS.2 h6,DE];rfl
theorem akl {a b:Int}(h1:0<=a/\a<=65535)(h2:0<=b/\b<=65535)(hx:x.length<=320):sT (17,a,b,0,0,0,0,x)=true:=by have DE:decide ((x.length:Int)>320)=false:=cC;simp only[sT,aS.2 h1,aS.2 h2,DE];rfl
theorem agZ (h:sT g=true)(hx:x.length<=320):sT (g.1,g.2.1,g.2.2.1,g.2.2.2.1,g.2.2.2.2.1,g.2.2.2.2.2.1,g.2.2.2.2.2.2.1,x)=true:=by have e:decide ((x.length:Int)>320)=false:=cC;unfold sT at h⊢;simp only[ae]at h⊢;exact⟨h.1,h.2.1,by rw[e];rfl,h.2.2.2⟩
theorem ai1 {a b v t i l s:Int}(h1:0<=a/\a<=281474976710655)(h2:0<=b/\b<=281474976710655)(h3: -1<=v/\v<=4095)(h4:0<=t/\t<=255)(h5:0<=i/\i<=65535)(h6:0<=l/\l<=255)(h7:0<=s/\s<=4294967295)(h8:0<=d/\d<=4294967295)(hg:sT g=true):oI (a,b,v,t,i,l,s,d,g)=true:=by simp only[oI,aS.2 h1,aS.2 h2,aS.2 h3,aS.2 h4,aS.2 h5,aS.2 h6,aS.2 h7,aS.2 h8,hg];rfl
theorem YX (p:aK):dq p=true↔oI p=true/\p.2.2.2.2.2.2.2.2.2.2.2.2.2.2.2.length<=128:=by unfold dq dv;rw[ae,ae,cY,aE];constructor;rintro⟨⟨h1,_⟩,h2⟩;exact⟨h1,by omega⟩;rintro⟨h1,h2⟩;exact⟨⟨h1,Or.inl (by omega)⟩,by omega⟩
theorem ael (h:sT g=true)(h6:g.1=6):(0<=g.2.1/\g.2.1<=65535)/\(0<=g.2.2.1/\g.2.2.1<=65535)/\(0<=g.2.2.2.1/\g.2.2.2.1<=4294967295)/\(0<=g.2.2.2.2.1/\g.2.2.2.2.1<=4294967295)/\(0<=g.2.2.2.2.2.1/\g.2.2.2.2.2.1<=31)/\(0<=g.2.2.2.2.2.2.1/\g.2.2.2.2.2.2.1<=65535)/\g.2.2.2.2.2.2.2.length<=320:=by have hl:=Eu h;unfold sT at h;rw[h6]at h;simp only[ae,aS,show((6:Int)==17)=false from rfl,af]at h;exact⟨h.1,h.2.1,h.2.2.2.2.1,h.2.2.2.2.2.1,h.2.2.2.2.2.2.1,h.2.2.2.2.2.2.2,hl⟩
theorem QN (h:sT g=true)(h6:g.1=6){s f:Int}(hs:0<=s/\s<=4294967295)(hf:0<=f/\f<=31)(hx:x.length<=320):sT (g.1,g.2.1,g.2.2.1,s,g.2.2.2.2.1,f,g.2.2.2.2.2.2.1,x)=true:=by have k:=ael h h6;rw[h6];exact Zw k.1 k.2.1 hs k.2.2.2.1 hf k.2.2.2.2.2.1 hx
theorem D4 (h:oI p=true){i:Int}(hi:0<=i/\i<=65535)(hg:sT g=true):oI (p.1,p.2.1,p.2.2.1,p.2.2.2.1,i,p.2.2.2.2.2.1,p.2.2.2.2.2.2.1,p.2.2.2.2.2.2.2.1,g)=true:=by unfold oI at h⊢;simp only[ae]at h⊢;exact⟨h.1,h.2.1,h.2.2.1,h.2.2.2.1,h.2.2.2.2.1,aS.2 hi,h.2.2.2.2.2.2.1,h.2.2.2.2.2.2.2.1,hg⟩
theorem PL (h:oI p=true):0<=p.2.2.2.2.1/\p.2.2.2.2.1<=65535:=by unfold oI at h;simp only[ae]at h;exact aS.1 h.2.2.2.2.2.1
theorem amn {i:Int}(h:0<=i/\i<=65535):0<=tmod (au (i+1)) 65536/\tmod (au (i+1)) 65536<=65535:=by rw[ak];have h1:=Int.tmod_nonneg 65536 (a:=i+1) (by omega);have h2:=Int.tmod_lt_of_pos (i+1) (b:=65536) (by omega);omega
theorem ajW {s:Int}{n:Nat}(h:0<=s/\s<=4294967295)(hn:n<=320):0<=tmod (au (s+(n:Int))) 4294967296/\tmod (au (s+(n:Int))) 4294967296<=4294967295:=by rw[ak];have h1:=Int.tmod_nonneg 4294967296 (a:=s+(n:Int)) (by omega);have h2:=Int.tmod_lt_of_pos (s+(n:Int)) (b:=4294967296) (by omega);omega
theorem Hf (v:Vector):F6 v=true↔1<=v.2.2.1/\(v.1<=v.2.2.1\/v.2.1<=v.2.2.2.1):=by unfold F6;by_cases h1:v.2.2.1>=1;rw[ar h1,ah];by_cases h2:v.2.2.1>=v.1;rw[ar h2];simp;omega;rw[aq h2,af,aE];omega;rw[aq h1];simp;omega
theorem apF (v:Vector):fB v=(db v.1 1 64&&(db v.2.1 0 64&&(db v.2.2.1 0 1000000&&(db v.2.2.2.1 0 1000000&&((decide (v.2.2.1>0)||(v.2.2.2.1==0))&&(v.2.2.2.2.2==(F6 v&& !v.2.2.2.2.1))))))):=by have h:=Jf v;unfold nR at h;simp only[dQ,amv,ab]at h;generalize fB v=w at h⊢;revert h;cases db v.1 1 64;(intro h;cases h;rfl);cases db v.2.1 0 64;(intro h;cases h;rfl);cases db v.2.2.1 0 1000000;(intro h;cases h;rfl);cases db v.2.2.2.1 0 1000000;(intro h;cases h;rfl);cases decide (v.2.2.1>0)<;>cases (v.2.2.2.1==0)<;>cases F6 v<;>(intro h;cases h;rfl)
theorem zT (v:Vector):fB v=true↔(1<=v.1/\v.1<=64)/\(0<=v.2.1/\v.2.1<=64)/\(0<=v.2.2.1/\v.2.2.1<=1000000)/\(0<=v.2.2.2.1/\v.2.2.2.1<=1000000)/\(v.2.2.1>0\/v.2.2.2.1=0)/\v.2.2.2.2.2=(F6 v&& !v.2.2.2.2.1):=by rw[apF];simp only[ae,aS,cY,aE,bg]
theorem JC (h1:1<=v.1/\v.1<=64)(h2:0<=v.2.1/\v.2.1<=64)(h3:0<=v.2.2.1/\v.2.2.1<=1000000)(h4:0<=v.2.2.2.1/\v.2.2.2.1<=1000000)(h5:v.2.2.1>0\/v.2.2.2.1=0)(hr:v.2.2.2.2.2=true->F6 v=true/\v.2.2.2.2.1=false):fB (FR v)=true:=by unfold FR;cases hd:F6 v&& !v.2.2.2.2.1 with|true=>exact(zT _).2 ⟨h1,h2,h3,h4,h5,by show true=(F6 v&& !v.2.2.2.2.1);rw[hd]⟩|false=>refine(zT _).2 ⟨h1,h2,h3,h4,h5,?_⟩;rw[af,hd];cases hv:v.2.2.2.2.2 with|false=>rfl|true=>have:=hr hv;rw[this.1,this.2]at hd;cases hd
theorem E6 (h:fB v=true)(hr:v.2.2.2.2.2=true):F6 v=true/\v.2.2.2.2.1=false:=by have:=((zT v).1 h).2.2.2.2.2;rw[hr]at this;cases hd:F6 v with|false=>rw[hd]at this;cases this|true=>rw[hd]at this;cases hm:v.2.2.2.2.1 with|true=>rw[hm]at this;cases this|false=>exact⟨rfl,rfl⟩
theorem ale (h:0<=n/\n<=1000000):n<=upM n/\0<upM n/\upM n<=1000000:=by unfold upM;rw[ak];split<;>omega
theorem apG (h:fB v=true):fB (evV v)=true:=by have k:=(zT v).1 h;have u:=ale k.2.2.1;unfold evV;rw[h,ah];refine JC (v:=(v.1,v.2.1,upM v.2.2.1,v.2.2.2)) k.1 k.2.1 ⟨by show 0<=upM v.2.2.1;omega,u.2.2⟩ k.2.2.2.1 (Or.inl u.2.1) λhr=>?_;have d:=E6 h hr;have d1:=(Hf v).1 d.1;exact⟨(Hf _).2 ⟨by show 1<=upM v.2.2.1;omega,by show v.1<=upM v.2.2.1\/v.2.1<=v.2.2.2.1;omega⟩,d.2⟩
theorem alh (h:fB v=true):fB (ZZ v)=true:=by have k:=(zT v).1 h;have u:=ale k.2.2.2.1;unfold ZZ;rw[h,ah];by_cases h0:v.2.2.1>0;rw[ar h0,ah];refine JC (v:=(v.1,v.2.1,v.2.2.1,upM v.2.2.2.1,v.2.2.2.2)) k.1 k.2.1 k.2.2.1 ⟨by show 0<=upM v.2.2.2.1;omega,u.2.2⟩ (Or.inl h0) λhr=>?_;have d:=E6 h hr;have d1:=(Hf v).1 d.1;exact⟨(Hf _).2 ⟨d1.1,by show v.1<=v.2.2.1\/v.2.1<=upM v.2.2.2.1;omega⟩,d.2⟩;rw[aq h0,af];exact JC k.1 k.2.1 k.2.2.1 k.2.2.2.1 k.2.2.2.2.1 λhr=>E6 h hr
theorem alg (h:fB v=true):fB (Ez v).1=true:=by have k:=(zT v).1 h;unfold Ez;cases fB v&&v.2.2.2.2.2 with|false=>exact h|true=>exact(zT _).2 ⟨k.1,k.2.1,⟨cR _,by show(0:Int)<=1000000;omega⟩,⟨cR _,by show(0:Int)<=1000000;omega⟩,Or.inr rfl,by show false=(_&& !true);simp⟩
theorem adg (h:fB v=true):fB (Lb v)=true:=by have k:=(zT v).1 h;unfold Lb;rw[h,ah];refine JC (v:=(v.1,v.2.1,v.2.2.1,v.2.2.2.1,false,v.2.2.2.2.2)) k.1 k.2.1 k.2.2.1 k.2.2.2.1 k.2.2.2.2.1 λhr=>?_;exact⟨(Hf _).2 ((Hf v).1 (E6 h hr).1),rfl⟩
theorem aht (h:fB v=true):fB (v.1,v.2.1,0,0,false,false)=true:=by have k:=(zT v).1 h;exact(zT _).2 ⟨k.1,k.2.1,⟨cR _,by show(0:Int)<=1000000;omega⟩,⟨cR _,by show(0:Int)<=1000000;omega⟩,Or.inr rfl,by simp[F6]⟩
structure CM (n:Int) (r:cA):Prop where
 ring:dz r.1=true
 dev:gE r.2.1=true
 drv:gE r.2.2.1=true
 base:r.2.1.1=r.2.2.1.1
 size:r.2.1.2.1=r.2.2.1.2.1
 drop:0<=r.2.2.2.2.2/\r.2.2.2.2.2<=n
 held:r.2.2.2.2.1=true->dv r.2.2.2.1.1=true/\(0<=r.2.2.2.1.2.1/\r.2.2.2.1.2.1<=320)/\1<=r.2.2.2.1.2.2/\r.2.2.2.1.2.2<=320
 free:r.2.2.2.2.1=false->r.2.2.2.1=ahp
theorem akk (r:cA):Ju r=true↔CM 1000000000000 r:=by constructor;intro h;unfold Ju at h;rw[ae]at h;simp only[ae,bg,aS]at h;obtain⟨⟨h1,h2,h3,h4,h5,h6⟩,h7⟩:=h;refine⟨h1,h2,h3,h4,h5,h6,λhh=>?_,λhh=>?_⟩;rw[hh,ah]at h7;simp only[ae,aS]at h7;exact⟨h7.1,h7.2.1,h7.2.2⟩;rw[hh,af]at h7;exact(akI _).1 h7;intro h;unfold Ju;rw[ae];simp only[ae,bg,aS];refine⟨⟨h.ring,h.dev,h.drv,h.base,h.size,h.drop⟩,?_⟩;cases hh:r.2.2.2.2.1 with|true=>have:=h.held hh;simp only[ah,ae,aS];exact⟨this.1,this.2.1,this.2.2⟩|false=>rw[af];exact(akI _).2 (h.free hh)
theorem CM.mono {m:Int}{r:cA}(h:CM n r)(hn:n<=m:=by omega):CM m r:=⟨h.ring,h.dev,h.drv,h.base,h.size,⟨h.drop.1,by have:=h.drop.2;omega⟩,h.held,h.free⟩
theorem CM.rx {r:cA}(h:CM n r)(hn:n<=1000000000000):Ju r=true:=(akk r).2 (h.mono hn)
theorem agh (h:de m=true)(l:ax aH)(d:Int)(q:uA)(x:Jn):de (Dh l m d q x).1=true:=by
 unfold Dh;cases !gE q|| !B5 x;case true=>exact h
 cases (jb l m d (uo q) (U0 x (Cs q)) true).2 with|false=>exact h|true=>exact GC h ..
theorem agi (h:de m=true)(l:ax aH)(d:Int)(q:cA)(k s:Bytes):de (je l m d q k s).1=true:=by
 unfold je;cases !(dx s).2||(((dx s).1.1 !=3)||decide ((dx s).1.2.2.1<((dC q.2.2.2.1.1).1.length:Int)));case true=>exact h
 cases (jb l m d (dx s).1.2.2.2.1 (dC q.2.2.2.1.1).1 true).2 with|false=>exact h|true=>exact agh (GC h ..) ..
theorem amE {l:ax aH}{k:Bytes}(hm:de m=true)(hq:gE q.2.1=true):gE (je l m d q k s).2.1=true/\(je l m d q k s).2.1.1=q.2.1.1/\(je l m d q k s).2.1.2.1=q.2.1.2.1:=(T1 (n:=128) (by omega) (TB (by omega) (rh.1 hm)) hq).2.2
theorem IP (hn:n<=900000000000)(h:CM n q)(hm:de m=true)(l:ax aH)(d:Int)(k:Bytes):de (jC l m d q k).1=true/\CM (n+320) (jC l m d q k).2:=by
 unfold jC;cases hc: !Ju q||(!q.2.2.2.2.1||((k.length:Int) !=16));case true=>exact⟨hm,h.mono⟩
 simp only[cn,dM]at hc;have hh:=h.held hc.2.1;have hd:=h.drop;have hr:=TJ h.ring l m d;have hs:=amE (l:=l) (d:=d) (k:=k) (s:=(bC l m d q.1).1) hm h.dev;simp only[af];cases (bC l m d q.1).2.2&&(je l m d q k (bC l m d q.1).1).2.2 with|true=>exact⟨agi hm ..,hr.1,hs.1,h.drv,hs.2.1.trans h.base,hs.2.2.trans h.size,⟨hd.1,by show q.2.2.2.2.2<=n+320;omega⟩,λhf=>(by cases hf),λ_=>rfl⟩|false=>refine⟨hm,hr.1,h.dev,h.drv,h.base,h.size,?_,λhf=>(by cases hf),λ_=>rfl⟩;show 0<=au (q.2.2.2.2.2+q.2.2.2.1.2.2)/\au (q.2.2.2.2.2+q.2.2.2.1.2.2)<=n+320;rw[ak];omega
theorem al8 {s:ug}(h:Ls s p=true):dv (Ig s p).1=true/\(0<=(Ig s p).2.1/\(Ig s p).2.1<=320)/\1<=(Ig s p).2.2/\(Ig s p).2.2<=320:=by
 have hl:=Uu h;unfold Ig;rw[h,ah];simp only[Ls,ai2,aeq,ae,aE,aS,bg]at h;obtain⟨⟨hs,hp,aqJ,h6,h16,hf⟩,⟨hz,hc,hn,Hu,awr⟩,_⟩:=h;have awo:s.2.2+1<=320:=by
  have:s.2.2<=s.2.1*s.2.2:=by have:=Int.mul_le_mul_of_nonneg_right hz (show 0<=s.2.2 by omega);omega
  omega
 have aqS:s.2.1<=320:=by
  have:s.2.1<=s.2.1*s.2.2:=by have:=Int.mul_le_mul_of_nonneg_left hc.1 (show 0<=s.2.1 by omega);omega
  omega
 refine⟨?_,⟨by show 0<=s.2.1;omega,aqS⟩,?_⟩;have hh:oI s.1=true:=by unfold dv at hs;simp only[ae]at hs;exact hs.1
 have hk:s.1.2.2.2.2.2.2.2.2.1=6:=by
  have e:s.1.2.2.2.2.2.2.2.2.1=p.2.2.2.2.2.2.2.2.1:=by have h2:=aqJ;unfold YZ at h2;simp only[ae,bg]at h2;exact h2.2.2.2.2.2.2.2.1
  rw[e];exact h6
 have hsg:=zY hh;have hfl:db p.2.2.2.2.2.2.2.2.2.2.2.2.2.1 0 31=true:=KF hp (by rw[h6];rfl);have hg:=QN hsg hk (ael hsg hk).2.2.1 (aS.1 hfl) (x:=s.1.2.2.2.2.2.2.2.2.2.2.2.2.2.2.2++p.2.2.2.2.2.2.2.2.2.2.2.2.2.2.2) (by rw[ai];omega);unfold dv;rw[ae];refine⟨D4 hh (PL hh) hg,?_⟩;show(_||(s.1.2.2.2.2.2.2.2.2.1==6)&&EL p.2.2.2.2.2.2.2.2.2.2.2.2.2.1)=true;rw[hk,hf];simp;show 1<=au (s.2.2+1)/\au (s.2.2+1)<=320;rw[ak];omega
theorem alQ (h:CM n q){s:ug}(hs:dv s.1=true)(h1:0<=s.2.1/\s.2.1<=320)(h2:1<=s.2.2/\s.2.2<=320):CM n (PM q s):=⟨h.ring,h.dev,h.drv,h.base,h.size,h.drop,λ_=>⟨hs,h1,h2⟩,λhf=>(by cases hf)⟩
theorem ag8 (h:dq p=true):dv (nV p).1=true/\(0<=(nV p).2.1/\(nV p).2.1<=320)/\1<=(nV p).2.2/\(nV p).2.2<=320:=by
 have hl:=Ja h;have hs:dv p=true:=by unfold dq at h;simp only[ae]at h;exact h.1
 refine⟨hs,?_,by show(1:Int)<=1/\(1:Int)<=320;omega⟩;show 0<=(p.2.2.2.2.2.2.2.2.2.2.2.2.2.2.2.length:Int)/\(p.2.2.2.2.2.2.2.2.2.2.2.2.2.2.2.length:Int)<=320;omega
theorem WJ (hn:n<=800000000000)(h:CM n q)(hm:de m=true)(l:ax aH)(d:Int)(k:Bytes)(p:aK)(c:Bool):de (mX l m d q k p c).1=true/\CM (n+640) (mX l m d q k p c).2:=by
 unfold mX;cases hc: !Ju q||(!dq p||((k.length:Int) !=16));case true=>exact⟨hm,h.mono⟩
 simp only[cn,dM]at hc;have hs:=ag8 hc.2.1;have hf:=IP (by omega) h hm l d k;have CN:=alQ hf.2 hs.1 hs.2.1 hs.2.2;simp only[af];cases hj:c&&(q.2.2.2.2.1&&Ls q.2.2.2.1 p)with|true=>simp only[ae]at hj;have j:=al8 hj.2.2;exact⟨hm,h.ring,h.dev,h.drv,h.base,h.size,⟨h.drop.1,by show q.2.2.2.2.2<=n+640;have:=h.drop.2;omega⟩,λ_=>j,λhf=>(by have hf:q.2.2.2.2.1=false:=hf;rw[hj.2.1]at hf;cases hf)⟩|false=>simp only[af];cases c with|true=>exact⟨hf.1,CN.mono⟩|false=>have:=IP (by omega) CN hf.1 l d k;exact⟨this.1,this.2.mono⟩
theorem apo {l:ax aH}{q:uA}(h:gE q=true):gE (uj l m d q).2.1=true/\(uj l m d q).2.1.1=q.1/\(uj l m d q).2.1.2.1=q.2.1:=by unfold uj;cases VQ l m d q with|false=>exact⟨h,rfl,rfl⟩|true=>have k:=xM h;refine⟨?_,rfl,rfl⟩;have e:=Wo (a:=q.2.2+1) (b:=2*q.2.1);simp only[ah,anm,gE,ae,aS]at h⊢;refine⟨h.1,h.2.1,?_⟩;rw[BS h.2.1];omega
theorem acG {s:ax Stream×cA×dB}(h:CM n s.2.1)(hp:ee s.2.2=true)(l:ax aH)(m:bP)(d:Int):CM n (GG l m d s).2.1/\ee (GG l m d s).2.2=true:=by have k:=apo (l:=l) (m:=m) (d:=d) h.drv;exact⟨⟨h.ring,h.dev,k.1,h.base.trans k.2.1.symm,h.size.trans k.2.2.symm,h.drop,h.held,h.free⟩,agL hp _⟩
theorem QA (l:ax aH)(m:bP)(d:Int):∀(k:Nat)(s:ax Stream×cA×dB),CM n s.2.1->ee s.2.2=true->CM n (lj l m d k s).2.2.1/\ee (lj l m d k s).2.2.2=true
 |0,s,h,hp=>⟨h,hp⟩
 |k+1,s,h,hp=>by rw[lj];cases (uj l m d s.2.1.2.2.1).2.2 with|false=>exact⟨h,hp⟩|true=>have e:=acG h hp l m d;exact QA l m d k _ e.1 e.2
theorem Pn (l:ax aH)(d:Int)(p:dB):∀(q:bW)(m:bP)(r:kY),de m=true->dz r=true->de (nX l d p q m r).2.1=true/\dz (nX l d p q m r).2.2=true
 |[],m,r,hm,hr=>⟨hm,hr⟩
 |b::q,m,r,hm,hr=>by rw[nX];cases (dm l m d r (fQ p b)).2.2 with|false=>exact⟨hm,hr⟩|true=>exact Pn l d p q _ _ (M7 hm ..) (Zq hr ..).1
theorem SL (hm:de m=true)(hr:dz r=true){p:dB}(hp:ee p=true)(l:ax aH)(d:Int):de (wv l m d r p).1=true/\dz (wv l m d r p).2.1=true/\ee (wv l m d r p).2.2.1=true:=by unfold wv;rw[hr,hp];have k:=Pn l d p p.2.2.2 m r hm hr;exact⟨k.1,k.2,GH hp (List.drop_sublist _ _)⟩
theorem TG {rx:cA}(h:CM n rx)(hm:de m=true){pl:dB}(hp:ee pl=true)(l:ax aH)(d:Int)(st:ax Stream)(c:Int):de (kL l m d rx pl st c).1=true/\CM n (kL l m d rx pl st c).2.1/\ee (kL l m d rx pl st c).2.2.1=true:=by
 unfold kL;cases !Ju rx||(!ee pl|| !db c 0 1000);case true=>exact⟨hm,h,hp⟩
 have k:=QA l m d c.toNat (st,rx,pl) h hp;have f:=SL hm k.1.ring k.2 l d;exact⟨f.1,⟨f.2.1,k.1.dev,k.1.drv,k.1.base,k.1.size,k.1.drop,k.1.held,k.1.free⟩,f.2.2⟩
structure Good (n:Int) (h:Host):Prop where
 mem:de h.1=true
 maps:gz h.2.1=true
 tx:Jv h.2.2.1
 tj:fj h.2.2.2.2.2.2.2.1=true
 lens:uh h=true
 We:fE h.2.2.2.2.2.2.2.2.1 (h.2.2.2.1.length:Int)=true
 rx:∀r∈h.2.2.2.1,CM n r
 pool:∀p∈h.2.2.2.2.1,ee p=true
 vec:∀v∈h.2.2.2.2.2.1,fB v=true
 Jo:∀x∈jk h,0<=x/\x<=n
theorem Good.mono {m:Int}(g:Good n h)(hn:n<=m:=by omega):Good m h:=⟨g.mem,g.maps,g.tx,g.tj,g.lens,g.We,λr hr=>(g.rx r hr).mono hn,g.pool,g.vec,λx hx=>⟨(g.Jo x hx).1,by have:=(g.Jo x hx).2;omega⟩⟩
theorem ai9 (h:Host):dZ h=true↔Good 1000000000000 h:=by unfold dZ Zr;simp only[ae,aF,aS,apE,akk];constructor;rintro⟨h1,h2,h3,h4,h5,h6,⟨h7,h8,h9⟩,h10⟩;exact⟨h1,h2,h3,h4,h5,h6,h7,h8,h9,h10⟩;intro g;exact⟨g.mem,g.maps,g.tx,g.tj,g.lens,g.We,⟨g.rx,g.pool,g.vec⟩,g.Jo⟩
theorem Good.ok (g:Good n h)(hn:n<=1000000000000):dZ h=true:=(ai9 h).2 (g.mono hn)
theorem vp {P:α->Prop}{l:ax α}{v:α}(h:∀x∈l,P x)(hv:P v):∀x∈l.set i v,P x:=by intro x hx;rcases dw hx with g|g;exact h x g;rw[g];exact hv
theorem alN (g:Good n h)(k:Nat):Good n (evS k h):=by unfold evS;cases hv:h.2.2.2.2.2.1[k]? with|none=>exact g|some v=>exact⟨g.mem,g.maps,g.tx,g.tj,by have:=g.lens;unfold uh at this⊢;rw[aC];exact this,g.We,g.rx,g.pool,vp g.vec (apG (g.vec v (aY hv))),g.Jo⟩
theorem XA (g:Good n h)(k:Nat):∀i,Good n (evH k i h)
 |0=>g
 |i+1=>alN (XA g k i) k
theorem MQ (g:Good n h)(k:Nat)(b:Int){f:bP×cA}(h1:de f.1=true)(h2:CM n f.2):Good n (G3 h k b f):=by refine XA (h:=KL h k f) ⟨h1,g.maps,g.tx,g.tj,?_,?_,vp g.rx h2,g.pool,g.vec,g.Jo⟩ _ _;have:=g.lens;unfold uh KL at*;simp only[aC];exact this;show fE _ ((h.2.2.2.1.set k f.2).length:Int)=true;rw[aC];exact g.We
theorem XC (hn:n<=800000000000)(g:Good n h)(k:Nat):Good (n+320) (oH k h):=by unfold oH;cases hx:h.2.2.2.1[k]? with|none=>exact g.mono|some x=>have f:=IP (by omega) (g.rx x (aY hx)) g.mem h.2.1 0 h.2.2.2.2.2.2.2.2.1.2.2.1;exact MQ (g.mono) k _ f.1 f.2
theorem abu (hn:n<=700000000000)(g:Good n h):Good (n+640) (vW h):=by
 unfold vW;have hl:=tQ g.lens;cases dZ h with
 |false=>exact g.mono
 |true=>
  have key:∀k:Nat,k<=2->Good (n+320*(k:Int)) (mB oH k h):=by intro k;induction k with|zero=>intro _;exact g.mono|succ k ih=>intro hk;exact(XC (by omega) (ih (by omega)) k).mono
  exact(key _ hl.1).mono (by have:=hl.1;omega)
theorem SY (g:Good n h):Good n (uq h):=by
 unfold uq;cases dZ h with
 |false=>exact g
 |true=>
  have key:∀k,Good n (mB yg k h):=by intro k;induction k with|zero=>exact g|succ k ih=>show Good n (yg k (mB yg k h));generalize mB yg k h=s at ih⊢;unfold yg;cases hv:s.2.2.2.2.2.1[k]? with|none=>exact ih|some v=>exact⟨ih.mem,ih.maps,ih.tx,ih.tj,by have:=ih.lens;unfold uh at this⊢;rw[aC];exact this,ih.We,ih.rx,ih.pool,vp ih.vec (alh (ih.vec v (aY hv))),ih.Jo⟩
  exact key _
theorem afr (g:Good n h)(p:aK)(c z:Int):Good n (Am h p c z).1:=by unfold Am;cases dZ h with|false=>exact g|true=>have k:=ag4 g.tx g.mem h.2.1 0 p c z;exact⟨k.1,g.maps,k.2,g.tj,g.lens,g.We,g.rx,g.pool,g.vec,g.Jo⟩
theorem Dz (g:Good n h):Good n (fF h):=by unfold fF;cases dZ h with|false=>exact g|true=>have r:=G1 h.2.1 h.1 0 17 [] 0 0 h.2.2.1.1 g.tx.ring;exact⟨g.mem,g.maps,Z1 (amI g.tx r.1 r.2) _,g.tj,g.lens,g.We,g.rx,g.pool,g.vec,g.Jo⟩
theorem FW {x:Int}(h:0<=x/\x<=n)(hn:n<=800000000000:=by omega):0<=au (x+1)/\au (x+1)<=n+1:=by rw[ak];omega
theorem EP (hn:n<=800000000000)(g:Good n h){a b c:Int}(ha:0<=a/\a<=n+1)(hb:0<=b/\b<=n+1)(hc:0<=c/\c<=n+1)(hd:0<=d/\d<=n+1):Good (n+1) (Dw h a b c d):=by have k:=g.mono (show n<=n+1 by omega);refine⟨k.mem,k.maps,k.tx,k.tj,k.lens,k.We,k.rx,k.pool,k.vec,λx hx=>?_⟩;have h1:=FW (g.Jo _ (List.mem_cons_self ..)) hn;simp only[jk,Dw,bS,List.not_mem_nil,or_false]at hx;rcases hx with rfl|rfl|rfl|rfl|rfl;exact h1;exact ha;exact hb;exact hc;exact hd
theorem JS (hn:n<=700000000000)(g:Good n h)(x:Bytes):Good (n+641) (jH h x):=by
 have c1:=g.Jo h.2.2.2.2.2.2.2.2.2.2.2.2.2.2.2.1 (by simp[jk]);have c2:=g.Jo h.2.2.2.2.2.2.2.2.2.2.2.2.2.2.2.2.1 (by simp[jk]);have c3:=g.Jo h.2.2.2.2.2.2.2.2.2.2.2.2.2.2.2.2.2.1 (by simp[jk]);have c4:=g.Jo h.2.2.2.2.2.2.2.2.2.2.2.2.2.2.2.2.2.2 (by simp[jk]);have u:∀{y:Int},0<=y/\y<=n->0<=y/\y<=n+1:=λhy=>⟨hy.1,by omega⟩
 unfold jH;cases dZ h;exact g.mono;cases (fy x).2 !=0;case true=>exact(EP (by omega) g (FW c1) (u c2) (u c3) (u c4)).mono
 cases !wP h.2.2.2.2.2.2.2.1 (fy x).1;case true=>exact(EP (by omega) g (u c1) (FW c2) (u c3) (u c4)).mono
 cases rr h.2.2.2.2.2.2.2.2.1 (h.2.2.2.1.length:Int) (fy x).1== -1;case true=>exact(EP (by omega) g (u c1) (u c2) (FW c3) (u c4)).mono
 simp only[aj,af];cases hq:h.2.2.2.1[(rr h.2.2.2.2.2.2.2.2.1 (h.2.2.2.1.length:Int) (fy x).1).toNat]? with|none=>exact g.mono|some q=>have a:=WJ (by omega) (g.rx q (aY hq)) g.mem h.2.1 0 h.2.2.2.2.2.2.2.2.1.2.2.1 (fy x).1 h.2.2.2.2.2.2.2.2.2.2.1;exact MQ ((EP (by omega) g (u c1) (u c2) (u c3) (FW c4)).mono) _ _ a.1 (a.2.mono)
theorem XE (g:Good n h)(i:Nat)(c:Int):Good n (we h i c).2:=by unfold we;rcases h1:h.2.2.2.1[i]? with _|rx;exact g;rcases h2:h.2.2.2.2.1[i]? with _|pl;exact g;have k:=TG (g.rx rx (aY h1)) g.mem (g.pool pl (aY h2)) h.2.1 0 h.2.2.2.2.2.2.2.2.2.1 c;refine⟨k.1,g.maps,g.tx,g.tj,?_,?_,vp g.rx k.2.1,vp g.pool k.2.2,g.vec,g.Jo⟩;have:=g.lens;unfold uh at*;simp only[aC];exact this;show fE _ ((h.2.2.2.1.set i _).length:Int)=true;rw[aC];exact g.We
theorem XG (b:Int)(k:Nat){s:Int×Host}(g:Good n s.2):Good n (Cy b k s).2:=by unfold Cy;rcases h1:s.2.2.2.2.2.2.1[k]? with _|v;exact g;rcases h2:s.2.2.2.2.2.2.2.1[k]? with _|p;exact g;rcases h3:s.2.2.2.2.1[k]? with _|x;exact g;rcases h4:s.2.2.2.2.2.1[k]? with _|pl;exact g;have hv:=alg (g.vec v (aY h1));simp only;cases p||(Ez v).2 with|false=>refine⟨g.mem,g.maps,g.tx,g.tj,?_,g.We,g.rx,g.pool,vp g.vec hv,g.Jo⟩;have:=g.lens;unfold uh at*;simp only[af,aC];exact this|true=>have e:=TG (g.rx x (aY h3)) g.mem (g.pool pl (aY h4)) s.2.2.1 0 s.2.2.2.2.2.2.2.2.2.2.1 b;refine⟨e.1,g.maps,g.tx,g.tj,?_,?_,vp g.rx e.2.1,vp g.pool e.2.2,vp g.vec ?_,g.Jo⟩;have:=g.lens;unfold uh at*;simp only[ah,aC];exact this;show fE _ ((s.2.2.2.2.1.set k _).length:Int)=true;rw[aC];exact g.We;cases decide ((kL s.2.2.1 s.2.1 0 x pl s.2.2.2.2.2.2.2.2.2.2.1 b).2.2.2.2<b)with|true=>exact adg hv|false=>exact hv
theorem PH (b:Int)(g:Good n h):∀k,Good n (sV b k h).2
 |0=>g
 |k+1=>XG b k (PH b g k)
theorem Vb (g:Good n h)(b:Int):Good n (mz h b).1:=by unfold mz;cases dZ h&&db b 1 1000 with|false=>exact g|true=>exact PH b g _
theorem JR (g:Good n h):∀k,Good n (rY h k)
 |0=>g
 |k+1=>XE (JR g k) k 1000
theorem afq (g:Good n h)(l:bW):Good n (TI h l):=⟨g.mem,g.maps,g.tx,g.tj,g.lens,g.We,g.rx,g.pool,g.vec,g.Jo⟩
theorem H2 (g:Good n h):∀k,Good n (returned h k)
 |0=>JR g _
 |k+1=>by show Good n (Mj h.2.2.1.2.2.1 k (returned h k));have:=H2 g k;unfold Mj;cases h.2.2.1.2.2.1[k]? with|none=>exact this|some x=>exact afq this _
theorem Ze {a b:Int}(ha:0<=a/\a<=130944:=by omega)(hb:1<=b/\b<=512:=by omega)(hn:0<=n/\n<=16:=by omega):iK a b n=((a,b,n,upto n.toNat),true)/\ee (a,b,n,upto n.toNat)=true:=by have h1:ee (a,b,n,[])=true:=Ep.2 ⟨ha,hb,hn,by simp,List.nodup_nil⟩;refine⟨by unfold iK;rw[h1];rfl,Ep.2 ⟨ha,hb,hn,?_,?_⟩⟩;intro x hx;simp only[upto,eG,bB]at hx;obtain⟨i,hi,rfl⟩:=hx;show 0<=Int.ofNat i/\Int.ofNat i<=n-1;simp only[Int.ofNat_eq_natCast];omega;show(upto n.toNat).Nodup;unfold upto;rw[List.Nodup,List.pairwise_map];exact List.nodup_range.imp λh he=>h (Int.ofNat.inj he)
theorem alc (c:Int)(hc:0<=c/\c<=65535):Jv (yq.1,yq.2.1,yq.2.2.1,c):=by
 have p:=Ze (a:=256) (b:=128) (n:=8);refine⟨GL,hc,λx hx=>(by cases hx),?_,by show(0:Int)<=16;omega⟩;show ee (im (iK 256 128 8).1 [])=true;rw[p.1];have e:im (256,128,8,upto (8:Int).toNat) []=(256,128,8,upto (8:Int).toNat):=by simp[im]
 show ee (im (256,128,8,upto (8:Int).toNat) [])=true;rw[e];exact p.2
theorem Va (g:Good n h):Good n (rD h):=by have k:=H2 g h.2.2.1.2.2.1.length;exact⟨k.mem,k.maps,alc _ k.tx.next,k.tj,k.lens,k.We,k.rx,k.pool,k.vec,k.Jo⟩
theorem ado (h:i<=8):0<=iv i/\iv i<=16000:=by unfold iv;omega
theorem Ty (hm:de m=true)(l:ax aH)(hi:i<=8):de (uk l m i).1=true/\dz (uk l m i).2.1=true/\ee (uk l m i).2.2.1=true:=by have hb:=ado hi;have p:=Ze (a:=iv i+128) (b:=384) (n:=4);unfold uk;rw[p.1];exact SL (GC hm ..) (GL) p.2 l 0
theorem Zv (hi:i<=8)(hr:dz r=true)(hd:0<=d/\d<=n):CM n (r,(iv i+64,4,0),(iv i+64,4,0),((0,0,0,0,0,0,0,0,0,0,0,0,0,0,0,([]:Bytes)),0,0),false,d):=by
 have hb:=ado hi;have hq:gE (iv i+64,4,0)=true:=by have hs:jP 4=true:=iM.2 (by omega);unfold gE;rw[ae,ae];exact⟨aS.2 (by omega),hs,by rw[BS hs];rfl⟩
 exact⟨hr,hq,hq,rfl,rfl,hd,λhf=>(by cases hf),λ_=>rfl⟩
theorem XF (hn:n<=800000000000)(g:Good n h)(hi:i<=8):Good (n+320) (wg i h):=by
 have gm:=g.mono (show n<=n+320 by omega);unfold wg;rcases h1:h.2.2.2.1[i]? with _|x;exact gm;rcases h2:h.2.2.2.2.2.1[i]? with _|v;exact gm;have o:=Ty g.mem h.2.1 hi;have hx:=g.rx x (aY h1);have hd:0<=HX x/\HX x<=n+320:=by have d:=hx.drop;unfold HX;cases hh:x.2.2.2.2.1 with|false=>simp only[af];omega|true=>have:=hx.held hh;rw[ah,ak];omega
 refine⟨o.1,gm.maps,gm.tx,gm.tj,?_,?_,vp gm.rx (Zv hi o.2.1 hd),vp gm.pool o.2.2,vp gm.vec (aht (g.vec v (aY h2))),gm.Jo⟩;have:=g.lens;unfold uh Ik at*;simp only[aC];exact this;show fE _ (((Ik h i (HX x)).2.2.2.1).length:Int)=true;unfold Ik;simp only[aC];exact g.We
theorem H0 (hn:n<=700000000000)(g:Good n h):∀k:Nat,k<=8->Good (n+320*(k:Int)) (iL h k)
 |0,_=>g.mono
 |k+1,hk=>(XF (by omega) (H0 hn g k (by omega)) (i:=k) (by omega)).mono
theorem PC (hn:n<=700000000000)(g:Good n h):Good (n+640) (rp h):=by have hl:=tQ g.lens;unfold rp;cases dZ h with|false=>exact g.mono|true=>exact(H0 hn (Va g) _ (by omega)).mono (by have:=hl.1;omega)
theorem aiX (hn:n<=700000000000)(g:Good n h)(a:Act):Good (n+641) (HO h a).1:=by
 unfold HO;cases !dZ h|| !FN a;case true=>exact g.mono
 simp only[af];cases a.1==0;case true=>exact(afr g _ _ _).mono
 cases a.1==1;case true=>exact(Dz g).mono
 cases a.1==2;case true=>exact JS hn g _
 cases a.1==3;case true=>exact(abu hn g).mono
 cases a.1==4;case true=>exact(SY g).mono
 cases a.1==5 with|true=>exact(Vb g _).mono|false=>exact(PC hn g).mono
structure gv (n:Int) (c:cP):Prop where
 um:(cV c.2.2.1).2=true
 len:c.1.length=c.2.2.1.length/\c.2.1.length=c.2.2.1.length
 fns:iy c.2.1 (cV c.2.2.1).1=true
 NR:¬iH c.2.2.2.1<0
 clock:so c.2.2.2.2.1=true
 host:∀(i:Nat)(h:Host)(b:bE),c.1[i]?=some h->c.2.2.1[i]?=some b->Good n h/\h.2.2.2.2.2.2.2.1=b.1
 place:∀i,i<c.1.length->AB c.2.1 i=true
 RJ:∀b∈c.2.2.1,b.2.1<=n/\b.2.2.2<=n
 fnn:∀f∈c.2.1,f.2.2.2.2.1<=n/\f.2.2.2.2.2<=n
theorem gv.mono {m:Int}(g:gv n c)(h:n<=m:=by omega):gv m c:=⟨g.um,g.len,g.fns,g.NR,g.clock,λi a b h1 h2=>⟨(g.host i a b h1 h2).1.mono h,(g.host i a b h1 h2).2⟩,g.place,λb hb=>⟨by have:=(g.RJ b hb).1;omega,by have:=(g.RJ b hb).2;omega⟩,λf hf=>⟨by have:=(g.fnn f hf).1;omega,by have:=(g.fnn f hf).2;omega⟩⟩
theorem gv.ok (g:gv n c)(hn:n<=1000000000000):lK c=true:=by
 unfold lK;rw[g.um,g.fns,g.clock,aq g.NR];simp only[bt,bn];rw[ae,ae,aF,aF];refine⟨?_,?_,?_⟩;unfold Qj;rw[g.len.1,g.len.2];simp;intro i hi;have hi:=bB.1 hi;have hj:i<c.2.2.1.length:=by have:=g.len.1;omega
 rw[OY i hi hj];have q:=g.host i _ _ (al hi) (al hj);rw[q.1.ok hn,W8 q.2];rfl;intro i hi;exact g.place i (bB.1 hi)
theorem TZ:∀(ms:ax bE)(s:bW×ax Port),(ms.foldl Ey s).2.length=s.2.length+ms.length
 |[],s=>rfl
 |m::ms,s=>by rw[du,TZ ms];show(s.2++[_]).length+_=_;rw[ai,ba,aU];omega
theorem jO (h:(cV ms).2=true):(cV ms).1=lC ms/\(lC ms).length=ms.length+1/\hY (lC ms)=true/\(∀m∈ms,jV m=true)/\1<=ms.length/\ms.length<=3:=by unfold cV at h⊢;cases hq:db (ms.length:Int) 1 3&&(ms.all jV&&hY (lC ms))with|false=>rw[hq]at h;cases h|true=>simp only[ae,aS,aF]at hq;refine⟨rfl,?_,hq.2.2,hq.2.1,by omega,by omega⟩;unfold lC;rw[aU,TZ];simp
theorem map_take {β:Type}(f:α->β)(l:ax α)(i:Nat)(hi:i<l.length):(l.take i).map f++[f l[i]]=(l.take (i+1)).map f:=by rw[bc hi,dF];rfl
theorem Ax (m:bE)(h:m.1.2.2.length<=10^9):lV m=some m:=by simp only[lV,oJ _ h,ab]
theorem N9 (m:bE)(h:m.1.2.2.length<=10^9):BB m=some m:=by simp only[BB,CA _ h,ab]
theorem H9 (l:ax bE)(h:l.length<=10^9)(hx:∀m∈l,m.1.2.2.length<=10^9):sH l=some l:=by unfold sH;refine(dE (λi=>(l.take i,(i:Int))) l.length (by omega) (λi nx hi=>?_) (λnx=>?_));simp only[rT];rw[jI,br hi,ak];simp only[ah,ab,Ax _ (hx _ (aM hi))];rw[aR (by simp;omega),<-bc hi];rfl;simp only[rT];rw[cC,cE];rfl
theorem wY (l:ax aX)(h:l.length<=10^9):jM l=some l:=by simp only[jM,my h,cd]
theorem aaw (h:lK c=true):c.1.length=c.2.2.1.length/\c.2.1.length=c.2.2.1.length:=by unfold lK at h;simp only[ae]at h;exact HA h.2.1
theorem Vr {l:ax α}(h:k<l.length)(x:α):idx (l.set k x) (k:Int)=some x:=by rw[J3,cW h]
theorem aeo (l:ax α)(k:Nat)(x:α):(l.set k x).length=l.length:=aC ..
def zU (f:Filter)(v:Int):Filter×Bool:=bif fj f&&(!hasB f.2.2 v&&fj (f.1,f.2.1,ins v f.2.2)) then((f.1,f.2.1,ins v f.2.2),true) else(f,false)
theorem XZ (f:Filter)(v:Int)(h:f.2.2.length<=100000000):Ba f v=some (zU f v):=by have hi:=VF v f.2.2;simp only[Ba,oJ f (by omega),sC f (by omega),AX f.2.2 v (by omega),Vu f.2.2 v (by omega),sC (f.1,f.2.1,ins v f.2.2) (show(ins v f.2.2).length<=10^9 by omega),ab,zU];cases fj f<;>cases hasB f.2.2 v<;>cases fj (f.1,f.2.1,ins v f.2.2)<;>rfl
theorem Ul (f:Filter)(v:Int){n:Nat}(h:f.2.2.length<=n)(hn:8<=n):(zU f v).1.2.2.length<=n:=by unfold zU;cases hc:fj f&&(!hasB f.2.2 v&&fj (f.1,f.2.1,ins v f.2.2))with|false=>exact h|true=>simp only[ae]at hc;have:=hc.2.2;simp only[fj,ae,aE]at this;show(ins v f.2.2).length<=n;omega
def wu (f:Filter)(v:Int):Filter×Bool:=bif fj f&&hasB f.2.2 v then((f.1,f.2.1,f.2.2.filter (λx=>x !=v)),true) else(f,false)
theorem Xf (p:Int->Bool)(l:bW)(i:Nat)(hi:i<l.length):(l.take (i+1)).filter p=bif p l[i] then(l.take i).filter p++[l[i]] else(l.take i).filter p:=by rw[bc hi,List.filter_append];cases hp:p l[i]<;>simp[hp]
theorem NU (p:Int->Bool)(l:bW)(i:Nat):((l.take i).filter p).length<=l.length:=bp (List.length_filter_le _ _) (by simp;omega)
theorem Vx (f:Filter)(v:Int)(h:f.2.2.length<=10^9):yW f v=some (wu f v):=by simp only[yW,oJ f h,sC f h,AX f.2.2 v h,ab,wu];cases fj f;rfl;cases hasB f.2.2 v;rfl;simp only[aj,af,ab,bR,ah];refine(dE (λi=>((i:Int),f.1,f.2.1,(f.2.2.take i).filter (λx=>x !=v))) f.2.2.length (by omega) (λi nx hi=>?_) (λnx=>?_));have hl:=NU (λx=>x !=v) f.2.2 i;simp only[tp];rw[jI,br hi,ak,Xf _ _ i hi];simp only[ah,ab];rw[aR (by simp only[ba];omega)];cases f.2.2[i] !=v<;>rfl;simp only[tp];rw[cC,cE];rfl
def na (f:Filter)(m:uA):Filter×Int:=
 bif m.2.1==1 then(bif fj (m.2.2,f.2) then((m.2.2,f.2),1) else(f,0))
 else bif m.2.1==2 then(bif (zU f m.2.2).2 then((zU f m.2.2).1,1) else(f,0))
 else bif m.2.1==3 then(bif (wu f m.2.2).2 then((wu f m.2.2).1,1) else(f,0))
 else bif m.2.1==4 then(f,f.1) else(f,0)
theorem X2 (f:Filter)(m:uA)(h:f.2.2.length<=100000000):Bh f m=some (na f m):=by simp only[Bh,oJ f (by omega),sC (m.2.2,f.2) (show f.2.2.length<=10^9 by omega),XZ f _ h,Vx f _ (show f.2.2.length<=10^9 by omega),ab,na];cases m.2.1==1<;>cases m.2.1==2<;>cases m.2.1==3<;>cases m.2.1==4<;>cases fj (m.2.2,f.2)<;>cases (zU f m.2.2).2<;>cases (wu f m.2.2).2<;>rfl
theorem Uw (f:Filter)(m:uA){n:Nat}(h:f.2.2.length<=n)(hn:8<=n):(na f m).1.2.2.length<=n:=by
 have ha:=Ul f m.2.2 h hn;have hd:(wu f m.2.2).1.2.2.length<=n:=by unfold wu;cases fj f&&hasB f.2.2 m.2.2 with|false=>exact h|true=>exact bp (List.length_filter_le _ _) h
 unfold na;cases m.2.1==1<;>cases m.2.1==2<;>cases m.2.1==3<;>cases m.2.1==4<;>cases fj (m.2.2,f.2)<;>cases (zU f m.2.2).2<;>cases (wu f m.2.2).2<;>first|exact h|exact ha|exact hd
def nh (b:bE)(m:uA):bE×Int:=
 bif jV b then(bif m.1==b.2.1 then(b,b.2.2.1) else bif m.1==b.2.1+1 then(((na b.1 m).1,m.1,(na b.1 m).2,b.2.2.2+1),(na b.1 m).2) else(b, -1)) else(b, -1)
theorem YI (h:jV b=true):0<=b.2.1/\b.2.1<=1000000000000/\0<=b.2.2.2/\b.2.2.2<=1000000000000:=by simp only[jV,ae,aS]at h;omega
theorem abL (b:bE)(m:uA)(h:b.1.2.2.length<=100000000):pW b m=some (nh b m):=by simp only[pW,Ax b (by omega),X7 b (by omega),X2 b.1 m h,ab,nh,bne];cases hm:jV b with|false=>rfl|true=>have uB:=YI hm;rw[ak (n:=b.2.1+1),ak (n:=b.2.2.2+1)];cases m.1==b.2.1<;>cases m.1==b.2.1+1<;>rfl
def pS (ms:ax bE)(k:Nat)(m:uA):ax bE×Int:=
 match ms[k]? with
 |none=>(ms, -1)
 |some b=>bif (cV (ms.set k (nh b m).1)).2 then(ms.set k (nh b m).1,(nh b m).2)
  else(ms.set k (b.1,m.1,0,au (b.2.2.2+1)),0)
theorem MR (b:bE)(m:uA){n:Nat}(h:b.1.2.2.length<=n)(hn:8<=n):(nh b m).1.1.2.2.length<=n:=by have:=Uw b.1 m h hn;unfold nh;cases jV b<;>cases m.1==b.2.1<;>cases m.1==b.2.1+1<;>first|exact h|exact this
theorem I7 {l:ax α}{x y:α}(h:y∈l.set k x):y∈l\/y=x:=dw h
theorem LG (ms:ax bE)(k:Nat)(m:uA)(hk:k<ms.length)(hl:ms.length<=10^9)(h:∀b∈ms,b.1.2.2.length<=100000000):rR ms (k:Int) m=some (pS ms k m):=by
 have hb:=h _ (aM hk);have hp:∀b∈ms.set k (nh ms[k] m).1,b.1.2.2.length<=10^9:=by intro b iI;rcases I7 iI with h1|rfl;have:=h b h1;omega;have:=MR ms[k] m hb (by omega);omega
 unfold rR pS;simp only[H9 ms hl (λb hb=>by have:=h b hb;omega),br hk,abL _ m hb,ab,al hk,aw,C9 _ hp,Ax ms[k] (by omega)];have hs:∀x:bE,k<(ms.set k x).length:=λx=>by rw[aeo];exact hk
 simp only[Vr hk,ab,List.set_set];cases (cV (ms.set k (nh ms[k] m).1)).2<;>rfl
theorem RI (ms:ax bE)(k:Nat)(m:uA):(pS ms k m).1.length=ms.length:=by unfold pS;split;rfl;rename_i b _;cases (cV (ms.set k (nh b m).1)).2<;>exact aeo ..
theorem aap (ms:ax bE)(k:Nat)(m:uA){n:Nat}(hn:8<=n)(h:∀b∈ms,b.1.2.2.length<=n):∀b∈(pS ms k m).1,b.1.2.2.length<=n:=by
 intro b hb;unfold pS at hb;split at hb;exact h b hb;rename_i b0 Ve;have h0:=h b0 (aY Ve);cases hp:(cV (ms.set k (nh b0 m).1)).2 with
 |true=>rw[hp]at hb;rcases I7 hb with h1|rfl;exact h b h1;exact MR b0 m h0 hn
 |false=>rw[hp]at hb;rcases I7 hb with h1|rfl;exact h b h1;exact h0
theorem pT (c:cP)(z:dj 1000000000 wj c):kj c=some c:=by have h0:c.1.length<=10^9:=z.1.1;unfold kj;simp only[wY _ z.2.1.1,H9 _ z.2.2.1.1 (λm hm=>(z.2.2.1.2 m hm).1.2.2.1),mu,mR _ z.2.2.2.1.1,lL _ z.2.2.2.2.2.1.1,mR _ z.2.2.2.2.2.2.1,ab];refine(dE (λi=>((i:Int),c.1.take i,c.2)) c.1.length (by omega) (λi nx hi=>?_) (λnx=>?_));simp only[tN];rw[jI,br hi,ak];simp only[ah,ab,kc _ (z.1.2 _ (aM hi))];rw[aR (by simp;omega),<-bc hi];rfl;simp only[tN];rw[cC,cE];rfl
def wh (h:Host)(f:Filter):Host:=(h.1,h.2.1,h.2.2.1,h.2.2.2.1,h.2.2.2.2.1,h.2.2.2.2.2.1,h.2.2.2.2.2.2.1,f,h.2.2.2.2.2.2.2.2)
def tf (c:cP)(a:Int)(m:uA):cP×Int:=
 bif lK c&&db a 0 ((c.2.2.1.length:Int)-1) then
  (match c.1[a.toNat]?,(pS c.2.2.1 a.toNat m).1[a.toNat]? with
  |some h,some b=>((c.1.set a.toNat (wh h b.1),c.2.1,(pS c.2.2.1 a.toNat m).1,c.2.2.2),(pS c.2.2.1 a.toNat m).2)
  |_,_=>(c, -1))
 else(c, -1)
theorem NZ (c:cP)(a:Int)(m:uA)(z:dj 100000000 wj c)(k:aaa c):pU c a m=some (tf c a m):=by
 have z9:dj 1000000000 wj c:=z.mono;have hl:c.2.2.1.length<=100000000:=z.2.2.1.1;unfold pU tf;simp only[pT c z9,Ch c k,cm,ab,bM];rw[ak (n:=(c.2.2.1.length:Int)-1)];cases hc:lK c;rfl;cases ha:db a 0 ((c.2.2.1.length:Int)-1);rfl;have hL:=aaw hc;have uB:=aS.1 ha;obtain⟨n,rfl⟩:=aD uB.1;have hn:n<c.2.2.1.length:=by omega
 have Js:n<c.1.length:=by omega
 have hb:=LG c.2.2.1 n m hn (by omega) (λb hb=>(z.2.2.1.2 b hb).1.2.2.1);have hbl:=RI c.2.2.1 n m;have Hq:=aap c.2.2.1 n m (n:=100000000) (by omega) (λb hb=>(z.2.2.1.2 b hb).1.2.2.1);have BL:n<(pS c.2.2.1 n m).1.length:=by omega
 have:=Hq _ (aM BL);simp only[aj,af,bR,ah,hb,ab,br BL,br Js,oJ (pS c.2.2.1 n m).1[n].1 (by omega),aw,al Js,al BL];rfl
structure CQ (ps:List Port):Prop where
 n:ps.length<=10^9
 v:∀p∈ps,p.2.1.length<=10^9
def Xz (ps:ax Port)(e:Int)(p:aK):Bool:=hY ps&&(dv p&&db e 0 ((ps.length:Int)-1))
def adh (x:Port)(p:aK):Int:=bif p.2.2.1== -1 then x.2.2.1 else p.2.2.1
def mN (ps:ax Port)(e:Int)(p:aK):Int:=
 bif !Xz ps e p then-1 else
 bif !hasB (ps.getD e.toNat jA).2.1 (adh (ps.getD e.toNat jA) p)||((e !=0)&&((ps.getD e.toNat jA).2.2.2&&((ps.getD e.toNat jA).1 !=p.2.1))) then-1 else adh (ps.getD e.toNat jA) p
theorem IZ (ps:ax Port)(e:Int)(p:aK)(z:CQ ps):oK ps e p=some (mN ps e p):=by
 have hn:=z.n;unfold oK mN Xz;rw[Hx ps hn z.v,ab];cases hp:hY ps;rfl;rw[mS,ab];cases hs:dv p;rfl;rw[ak (n:=(ps.length:Int)-1),cm];cases he:db e 0 ((ps.length:Int)-1);rfl;have h1:=aS.1 he;obtain⟨e,rfl⟩:=aD h1.1;have hl:e<ps.length:=by omega
 have hv:=z.v _ (aM hl);simp only[aj,af,ab,bR,br hl,aw,cu hl,AX _ _ hv,adh];cases p.2.2.1== -1<;>simp only[ah,af]<;>cases hasB ps[e].2.1 p.2.2.1<;>cases hasB ps[e].2.1 ps[e].2.2.1<;>cases (e:Int) !=0<;>cases ps[e].2.2.2<;>cases ps[e].1 !=p.2.1<;>rfl
def sN (ps:ax Port)(o v:Int)(p:aK):aK:=
 bif hY ps&&(db o 0 ((ps.length:Int)-1)&&(hasB (ps.getD o.toNat jA).2.1 v&&dv p)) then
  (bif v==(ps.getD o.toNat jA).2.2.1 then(p.1,p.2.1, -1,p.2.2.2) else(p.1,p.2.1,v,p.2.2.2)) else pk0
theorem afK (ps:ax Port)(o v:Int)(p:aK)(z:CQ ps):tz ps o v p=some (sN ps o v p):=by
 have hn:=z.n;unfold tz sN;rw[Hx ps hn z.v,ab];cases hp:hY ps;rfl;rw[ak (n:=(ps.length:Int)-1),cm];cases he:db o 0 ((ps.length:Int)-1);rfl;have h1:=aS.1 he;obtain⟨o,rfl⟩:=aD h1.1;have hl:o<ps.length:=by omega
 have hv:=z.v _ (aM hl);simp only[aj,af,ab,bn,br hl,aw,cu hl,AX _ _ hv,mS];cases hasB ps[o].2.1 v<;>cases dv p<;>cases v==ps[o].2.2.1<;>rfl
def M4 (ps:ax Port)(e v:Int)(j:Nat):Bool:=((j:Int) !=e)&&hasB (ps.getD j jA).2.1 v
def qy (l:fK):bW:=l.map Int.ofNat
def bcB (p:aK):Bool:=p.1==281474976710655
theorem Xe {q:Nat->Bool}(l:fK)(i:Nat)(hi:i<l.length):(l.take (i+1)).filter q=bif q l[i] then(l.take i).filter q++[l[i]] else(l.take i).filter q:=by rw[bc hi,List.filter_append];cases hq:q l[i]<;>simp[hq]
theorem abj {q:Nat->Bool}(l:fK)(i:Nat):((l.take i).filter q).length<=l.length:=bp (List.length_filter_le _ _) (by simp;omega)
theorem P4 (ps:ax Port)(e v:Int)(l:fK)(hl:l.length<=10^9)(hb:∀j∈l,j<ps.length)(z:CQ ps): bl (gS (λ(y7:bW) (y8:Int)=>some y7) ps e v (qy l) ((qy l).length:Int)) fuel (([]:bW),0)=some (qy (l.filter (M4 ps e v))):=by
 refine dE (λi=>(qy ((l.take i).filter (M4 ps e v)),(i:Int))) l.length (by omega) (λi nx hi=>?_) (λnx=>?_);have hj:=hb _ (aM hi);have hv:=z.v _ (aM hj);have hi2:i<(qy l).length:=by simpa[qy]using hi
 have e1:(qy l)[i]'hi2=(l[i]:Int):=by simp[qy]
 have hf:=abj (q:=M4 ps e v) l i;simp only[gS];rw[ar (by simpa[qy]using hi),br hi2,e1,ak];simp only[ah,ab,br hj,AX _ _ hv];rw[Xe l i hi,M4,cu hj];have hr:∀k:az bW,room (List.length (qy ((l.take i).filter (M4 ps e v)))+List.length ([(l[i]:Int)])) k=k:=λk=>aR (by simp only[qy,bH,ba];omega);cases (l[i]:Int) !=e with|false=>rfl|true=>cases hasB ps[l[i]].2.1 v with|false=>rfl|true=>simp only[ah,ab,bR];rw[hr];simp[qy]
 simp only[gS];rw[aq (by simp[qy]),cE];rfl
def JW (ps:ax Port)(p:aK):Nat->Nat
 |0=>0
 |i+1=>bif (ps.getD (i+1) jA).1==p.1 then i+1 else JW ps p i
def Ds (ps:ax Port)(e:Int)(p:aK):fK:=
 (range ps.length).filter λj=>M4 ps e (mN ps e p) j&&((j==JW ps p (ps.length-1))||bcB p)
def Oz (ps:ax Port)(e:Int)(p:aK):bW:=bif decide (mN ps e p<0) then [] else qy (Ds ps e p)
theorem SN (q:Nat->Bool):∀l:fK,(EK q l= -1/\∀j∈l,q j=false)\/∃j∈l,q j=true/\EK q l=(j:Int)
 |[]=> .inl ⟨rfl,by simp⟩
 |j::l=>by rw[EK];cases hj:q j with|true=>exact .inr ⟨j,by simp,hj,rfl⟩|false=>simp only[af];rcases SN q l with⟨h1,h2⟩|⟨k,h1,h2,h3⟩;exact .inl ⟨h1,by intro k hk;rcases bS.1 hk with rfl|hk;exact hj;exact h2 k hk⟩;exact .inr ⟨k,by simp[h1],h2,h3⟩
theorem PQ:∀i,(∀j,1<=j->j<=i->((ps.getD j jA).1==p.1)=false)->JW ps p i=0
 |0,_=>rfl
 |i+1,h=>by rw[JW,h (i+1) (by omega) (by omega)];exact PQ i λj h1 h2=>h j h1 (by omega)
theorem S0 (hk:1<=k)(h:((ps.getD k jA).1==p.1)=true):∀i,k<=i->(∀j,1<=j->j<=i->((ps.getD j jA).1==p.1)=true->j=k)->JW ps p i=k
 |0,hi,_=>by omega
 |i+1,hi,hu=>by rw[JW];by_cases he:k=i+1;rw[<-he,h];rfl;cases hq:(ps.getD (i+1) jA).1==p.1 with|true=>have:=hu (i+1) (by omega) (by omega) hq;omega|false=>exact S0 hk h i (by omega) λj h1 h2=>hu j h1 (by omega)
theorem ad4 (hp:hY ps=true){j:Nat}(h1:1<=i)(hij:i<j)(hj:j<ps.length):((ps.getD i jA).1==(ps.getD j jA).1)=false:=by simp only[hY,ae,aF,bB,Im,aN]at hp;have:=(hp.2 j hj).2 i hij;simp only[Bool.and_eq_false_iff,bne_eq_false_iff_eq]at this;rcases this with h|h;omega;exact h
theorem filter_one {q:Nat->Bool}{n:Nat}(hk:k<n):(range n).filter (λj=>q j&&(j==k))=[k].filter q:=by
 have h1:(range n).filter (λj=>j==k)=[k]:=by
  induction n with
  |zero=>omega
  |succ n ih=>
   rw[gZ,List.filter_append];by_cases he:k=n;subst he;have:(range k).filter (λj=>j==k)=[]:=by rw[List.filter_eq_nil_iff];intro j hj;have:=bB.1 hj;simp;omega
   rw[this];simp;rw[ih (by omega)];have:([n]:fK).filter (λj=>j==k)=[]:=by simp;omega
   rw[this];rfl
 have h2:(λj=>q j&&(j==k))=λj=>q j&&(λj=>j==k) j:=rfl;rw[h2,<-List.filter_filter,h1]
theorem Gv (ps:ax Port)(e:Int)(p:aK)(z:CQ ps):nt ps e p=some (Oz ps e p):=by
 have hn:=z.n;unfold nt Oz;rw[IZ ps e p z,ab];cases hd:decide (mN ps e p<0);case true=>rfl
 have hp:hY ps=true:=by cases hp:hY ps with|true=>rfl|false=>unfold mN Xz at hd;rw[hp]at hd;simp at hd
 have h1:1<=ps.length/\ps.length<=8:=by simp only[hY,ae,aS]at hp;omega
 have avD:∀j,j<ps.length->(ps.getD j jA).1<=281474976710654:=by intro j hj;simp only[hY,ae,aF,bB,Im,KH,fj,aS]at hp;exact(hp.2 j hj).1.1.2.1.2
 simp only[af,Yh ps p.1 hn,ab];generalize hv:mN ps e p=v;have hsw:Ds ps e p=(range ps.length).filter λj=>M4 ps e v j&&((j==JW ps p (ps.length-1))||bcB p):=by rw[Ds,hv]
 rw[hsw];have aod:bcB p=true->∀j,j<ps.length->((ps.getD j jA).1==p.1)=false:=by
  intro hb j hj;have:=avD j hj;have hb:p.1=281474976710655:=by simpa[bcB]using hb
  rw[hb,cv];omega
 rcases SN (λj=>(j !=0)&&((ps.getD j jA).1==p.1)) (List.range' 0 ps.length)with⟨hf,Ht⟩|⟨k,hk,hq,hf⟩;have Ht:∀j,1<=j->j<ps.length->((ps.getD j jA).1==p.1)=false:=by intro j h2 h3;have:=Ht j (by simp;omega);simp only[Bool.and_eq_false_iff,bne_eq_false_iff_eq]at this;rcases this with h|h;omega;exact h
 have hh:JW ps p (ps.length-1)=0:=PQ _ λj h2 h3=>Ht j h2 (by omega);rw[hf,show decide ((-1:Int)>=0)=false from rfl,af,hh];rw[show(p.1==281474976710655)=bcB p from rfl];cases hb:bcB p with|true=>simp only[ah,hZ,gw];refine dE (λi=>(qy (range i),(i:Int))) ps.length (by omega) (λi nx hi=>?_) (λnx=>?_);simp only[mG];rw[jI,aR (by simp only[qy,bH,List.length_range,ba];omega),ak,gZ];simp only[ah,qy,dF];rfl;simp only[mG];rw[cC,af];exact P4 ps e v (range ps.length) (by simp;omega) (λj hj=>bB.1 hj) z|false=>simp only[af,Bool.or_false];rw[filter_one (by omega)];exact P4 ps e v [0] (by simp) (by simp;omega) z
 have Ry:k<ps.length:=by simp at hk;omega
 simp only[ae,bne_iff_ne]at hq;have hb:bcB p=false:=by cases hb:bcB p with|false=>rfl|true=>rw[aod hb k Ry]at hq;cases hq.2
 have hh:JW ps p (ps.length-1)=k:=S0 (by omega) hq.2 _ (by omega) λj h2 h3 h4=>by rcases Nat.lt_trichotomy j k with g|g|g;have:=ad4 hp h2 g Ry;have a:=bg.1 h4;have b:=bg.1 hq.2;rw[a,b]at this;simp at this;exact g;have:=ad4 hp (show 1<=k by omega) g (show j<ps.length by omega);have a:=bg.1 h4;have b:=bg.1 hq.2;rw[a,b]at this;simp at this
 rw[hf,jI,ah,hh,hb];simp only[Bool.or_false];rw[filter_one Ry];exact P4 ps e v [k] (by simp) (by simp;omega) z
theorem ZT {e:Int}:∀j∈Ds ps e p,j<ps.length:=λj hj=>bB.1 (List.mem_filter.1 hj).1
theorem GV (ps:ax Port)(e:Int)(p:aK):(Ds ps e p).length<=ps.length:=bp (List.length_filter_le _ _) (by simp)
theorem aef (ms:ax bE):CQ (cV ms).1:=⟨(Ma ms).1,(Ma ms).2⟩
structure CI (n:Nat) (c:cP):Prop where
 z:dj n wj c
 h:∀x∈c.1,BW n x
theorem CI.mono {n m:Nat}(k:CI n c)(hn:n<=m:=by omega):CI m c:=⟨k.z.mono hn,λx hx=>(k.h x hx).mono hn⟩
theorem CI.sz {n:Nat}(k:CI n c)(hn:n<=10^9:=by omega):aaa c:=by have z:dj 1000000000 wj c:=k.z.mono hn;exact⟨z.1.1,z.2.1.1,λm hm=>(z.2.2.1.2 m hm).1.2.2.1,λx hx=>(k.h x hx).sz hn⟩
theorem CI.of (k:So wj c<=1048576):CI 1048576 c:=by
 refine⟨K5 k,λh hh=>BW.of ?_⟩;have h1:=I8 (So dL) c.1 h hh;have h2:(c.1.map (So dL)).sum<=So wj c:=by show _<=(c.1.length+(c.1.map (So dL)).sum)+_;omega
 omega
theorem OZ (h:lK c=true):(cV c.2.2.1).1.length=c.1.length+1/\(cV c.2.2.1).1.length<=8/\c.1.length<=3:=by unfold lK at h;simp only[ae]at h;have hl:=(HA h.2.1).1;have h2:=h.1;have h3:=Nh h2;unfold cV at h2⊢;cases hc:db (c.2.2.1.length:Int) 1 3&&(c.2.2.1.all jV&&hY (lC c.2.2.1))with|false=>rw[hc]at h2;cases h2|true=>simp only[ae]at hc;have:=(JO c.2.2.1 0 ([0],[]) ⟨by simp,rfl,by simp⟩ hc.2.1).2.1;have h8:=hc.2.2;simp only[hY,ae,aS]at h8;simp only[ah];refine⟨?_,by omega,by omega⟩;simp only[lC,aU];rw[this,hl];omega
def aeM (c:cP)(f:Bytes):cP:=(c.1,c.2.1,c.2.2.1,c.2.2.2.1,c.2.2.2.2.1,c.2.2.2.2.2.1,c.2.2.2.2.2.2++[f])
def QS (c:cP)(k:Nat)(h:Host):cP:=(c.1.set k h,c.2)
def cX (ps:ax Port)(v:Int)(p:aK)(c:cP)(j:Nat):cP:=
 bif j==0 then aeM c (ly (sN ps (j:Int) v p)).1 else
 match c.1[j-1]? with
 |some h=>QS c (j-1) (jH h (ly (sN ps (j:Int) v p)).1)
 |none=>c
theorem KR {n:Nat}(z:CI n c)(zh:BW n h):CI n (QS c k h):=by refine⟨⟨nw z.z.1 zh.z,z.z.2⟩,λx hx=>?_⟩;rcases dw hx with g|g;exact z.h x g;rw[g];exact zh
theorem alj {n:Nat}{f:Bytes}(z:CI n c)(hf:f.length<=n):CI (n+1) (aeM c f):=by have z':=z.mono (show n<=n+1 by omega);refine⟨⟨z'.z.1,z'.z.2.1,z'.z.2.2.1,z'.z.2.2.2.1,z'.z.2.2.2.2.1,z'.z.2.2.2.2.2.1,?_⟩,z'.h⟩;exact Eg (t:=.str) (k:=1) z.z.2.2.2.2.2.2 (λy hy=>by rw[bz.1 hy];exact hf) (by simp)
theorem akE {n:Nat}(hn:1000<=n){v:Int}{j:Nat}(z:CI n c):CI (n+1) (cX ps v p c j)/\(cX ps v p c j).1.length=c.1.length:=by have hf:=Hn (sN ps (j:Int) v p);unfold cX;cases j==0 with|true=>exact⟨alj z (by omega),rfl⟩|false=>simp only[af];cases hx:c.1[j-1]? with|none=>exact⟨z.mono,rfl⟩|some h=>have hr:=GK hn (ly (sN ps (j:Int) v p)).1 (z.h h (aY hx));exact⟨(KR z hr.1).mono,aC ..⟩
def Ml (ps:ax Port)(v:Int)(p:aK)(c:cP)(l:fK):cP:=l.foldl (cX ps v p) c
theorem V3 {ps:ax Port}{v:Int}{p:aK}:∀(l:fK){c:cP}{n:Nat},1000<=n->CI n c->CI (n+l.length) (Ml ps v p c l)/\(Ml ps v p c l).1.length=c.1.length
 |[],c,n,_,z=>⟨z,rfl⟩
 |j::l,c,n,hn,z=>by have h1:=akE (ps:=ps) (v:=v) (p:=p) (j:=j) hn z;have:=V3 (ps:=ps) (v:=v) (p:=p) l (show 1000<=n+1 by omega) h1.1;exact⟨this.1.mono (by simp only[aU];omega),this.2.trans h1.2⟩
theorem agW (ps:ax Port)(v:Int)(p:aK)(c:cP)(l:fK)(i:Nat)(hi:i<l.length):Ml ps v p c (l.take (i+1))=cX ps v p (Ml ps v p c (l.take i)) l[i]:=by rw[bc hi,Ml,List.foldl_append];rfl
theorem MX (K:cP->az R)(ps:ax Port)(v:Int)(p:aK)(c B:cP)(l:fK)(hl:l.length<=8)(hj:∀j∈l,j<=c.1.length)(z:CI 800000000 c)(zp:CQ ps): bl (mi (λ(_:Int) (HM:cP)=>K HM) ps v (qy l) ((qy l).length:Int) p B) fuel (0,c)=K (Ml ps v p c l):=by
 refine dE (λi=>((i:Int),Ml ps v p c (l.take i))) l.length (by omega) (λi nx hi=>?_) (λnx=>?_);have hi2:i<(qy l).length:=by simpa[qy]using hi
 have e1:(qy l)[i]'hi2=(l[i]:Int):=by simp[qy]
 have hz:=V3 (ps:=ps) (v:=v) (p:=p) (l.take i) (by omega) z;have hzz:=hz.1.mono (show 800000000+(l.take i).length<=900000000 by rw[aV];omega);have hji:=hj _ (aM hi);have kb:=Hn (sN ps (l[i]:Int) v p);rw[agW ps v p c l i hi];have hn:=hz.2;generalize Ml ps v p c (l.take i)=W at hn hzz⊢;have hw:W.2.2.2.2.2.2.length<=900000000:=hzz.z.2.2.2.2.2.2.1;simp only[mi];rw[ar (by simpa[qy]using hi),br hi2,e1,ak (n:=(i:Int)+1)];simp only[ah,ab,afK ps _ v p zp,S8,cX];have hcl:c.1.length<=800000000:=z.z.1.1;by_cases h0:l[i]=0;rw[show((l[i]:Int)==0)=true from by simp[h0],show(l[i]==0)=true from by simp[h0]];simp only[ah];rw[aR (by simp only[ba];omega)];rfl;rw[show((l[i]:Int)==0)=false from by simp[h0],show(l[i]==0)=false from by simp[h0]];have hk:l[i]-1<W.1.length:=by omega
 rw[ak (n:=(l[i]:Int)-1),show(l[i]:Int)-1=((l[i]-1:Nat):Int) by omega];simp only[af,br hk,ab,Kc _ _ (hzz.h _ (aM hk)) (bp kb (by omega)),aw,al hk];rfl;simp only[mi];rw[aq (by simp[qy]),af,cE]
def nJ (c:cP)(e:Int)(p:aK):cP:=
 bif decide (mN (cV c.2.2.1).1 e p<0) then c else Ml (cV c.2.2.1).1 (mN (cV c.2.2.1).1 e p) p c (Ds (cV c.2.2.1).1 e p)
def qt (c:cP)(e:Int)(p:aK):cP:=bif lK c&&dq p then nJ c e p else c
theorem Gs (c:cP)(e:Int)(p:aK)(k:CI 800000000 c):mT c e p=some (qt c e p):=by have z9:dj 1000000000 wj c:=k.z.mono;unfold mT qt;simp only[pT c z9,Ch c (k.sz),yz,ab];cases h:lK c;rfl;cases dq p;rfl;have hn:=OZ h;have zp:=aef c.2.2.1;unfold nJ;simp only[aj,af,ab,bR,ah,C9 _ (λm hm=>(z9.2.2.1.2 m hm).1.2.2.1),IZ _ e p zp,Gv _ e p zp];generalize (cV c.2.2.1).1=ps at hn zp⊢;unfold Oz;cases decide (mN ps e p<0)with|true=>exact MX (λc=>some c) ps (mN ps e p) p c _ [] (by simp) (by simp) k zp|false=>exact MX (λc=>some c) ps (mN ps e p) p c _ (Ds ps e p) (by have:=GV ps e p;omega) (λj hj=>by have:=ZT j hj;omega) k zp
theorem Nt {n:Nat}(hn:1000<=n){e:Int}(z:CI n c)(h:lK c=true):CI (n+8) (nJ c e p)/\(nJ c e p).1.length=c.1.length:=by have h3:=OZ h;unfold nJ;generalize (cV c.2.2.1).1=ps at h3⊢;cases decide (mN ps e p<0)with|true=>exact⟨z.mono,rfl⟩|false=>have h8:=GV ps e p;have:=V3 (ps:=ps) (v:=mN ps e p) (p:=p) (Ds ps e p) hn z;exact⟨this.1.mono,this.2⟩
def Fe (c:cP):cP:=(c.1,c.2.1,c.2.2.1,c.2.2.2.1,c.2.2.2.2.1,c.2.2.2.2.2.1++[c.2.2.2.2.1.1],c.2.2.2.2.2.2)
def sS (c:cP)(x:Bytes):cP:=bif !lK c then c else bif (fy x).2==0 then nJ (Fe c) 0 (fy x).1 else Fe c
theorem TV {n:Nat}(z:CI n c):CI (n+1) (Fe c):=by have z':=z.mono (show n<=n+1 by omega);refine⟨⟨z'.z.1,z'.z.2.1,z'.z.2.2.1,z'.z.2.2.2.1,z'.z.2.2.2.2.1,?_,z'.z.2.2.2.2.2.2⟩,z'.h⟩;exact Eg (t:=.int .i64) (k:=1) z.z.2.2.2.2.2.1 (λ_ _=>trivial) (by simp)
theorem KM (h:((fy x).2==0)=true):dq (fy x).1=true:=by
 unfold fy at h⊢;simp only at h⊢;cases h1:(sn x).2 with|false=>rw[h1]at h;cases h|true=>?_
 rw[h1]at h;simp only[aj,af]at h⊢;cases h2:(jo (sn x).1).2 !=0 with|true=>rw[h2]at h;simp only[bne,ah]at h h2;rw[h]at h2;cases h2|false=>rw[h2]at h;simp only[af]at h⊢;cases h3:dq (jo (sn x).1).1 with|false=>rw[h3]at h;cases h|true=>exact h3
theorem N0 (c:cP)(x:Bytes)(k:CI 700000000 c)(hx:x.length<=10^9):tn c x=some (sS c x):=by have hl:c.2.2.2.2.2.1.length<=700000000:=k.z.2.2.2.2.2.1.1;have ks:=(TV k).mono (show 700000000+1<=800000000 by omega);unfold tn sS;rw[pT c (k.z.mono),ab,Ch c (k.sz),ab];cases h:lK c;rfl;have hs:lK (Fe c)=true:=h;simp only[aj,af];rw[aR (by rw[ba];omega),LL x hx,ab];have hp:=KM (x:=x);generalize fy x=f at hp⊢;cases hf:f.2==0;rfl;have e:=Gs (Fe c) 0 f.1 ks;unfold qt at e;rw[hs,hp hf]at e;simp only[bR,ah]at e⊢;rw[show mT (c.1,c.2.1,c.2.2.1,c.2.2.2.1,c.2.2.2.2.1,c.2.2.2.2.2.1++[c.2.2.2.2.1.1],c.2.2.2.2.2.2) 0 f.1=_ from e,ab]
theorem Zo {n:Nat}(hn:1000<=n)(x:Bytes)(z:CI n c):CI (n+9) (sS c x)/\(sS c x).1.length=c.1.length:=by unfold sS;cases h:lK c;exact⟨z.mono,rfl⟩;have zs:=TV z;simp only[aj,af];cases (fy x).2==0 with|true=>have:=Nt (show 1000<=n+1 by omega) (e:=0) (p:=(fy x).1) zs (show lK (Fe c)=true from h);exact⟨this.1,this.2⟩|false=>exact⟨zs.mono,rfl⟩
theorem adb {n:Nat}(hn:1000<=n)(e:Int)(p:aK)(z:CI n c):CI (n+8) (qt c e p)/\(qt c e p).1.length=c.1.length:=by unfold qt;cases h:lK c;exact⟨z.mono,rfl⟩;cases dq p with|false=>exact⟨z.mono,rfl⟩|true=>exact Nt hn z h
theorem XB (g:Good n h){f:Filter}(hf:fj f=true):Good n (wh h f):=⟨g.mem,g.maps,g.tx,hf,g.lens,g.We,g.rx,g.pool,g.vec,g.Jo⟩
def arl (s:bW×ax Port)(f:Filter):bW×ax Port:=(f.2.2.foldl yt s.1,s.2++[(f.1,f.2.2.foldl yt [0],0,true)])
theorem Q8 (ms:ax bE)(s:bW×ax Port):ms.foldl Ey s=(ms.map (·.1)).foldl arl s:=by rw[List.foldl_map];rfl
theorem Zf {ns:ax bE}(h:ms.map (·.1)=ns.map (·.1)):lC ms=lC ns:=by unfold lC;rw[Q8,Q8,h]
theorem amu {b':bE}(hk:ms[k]?=some b)(h:b'.1=b.1):(ms.set k b').map (·.1)=ms.map (·.1):=by obtain⟨gH,e⟩:=aA.1 hk;rw[List.map_set,h,<-e,<-List.getElem_map (f:=λx:bE=>x.1) (h:=by rw[bH];exact gH),List.set_getElem_self]
theorem acI (h:(cV ms).2=true){b':bE}(hk:ms[k]?=some b)(hf:b'.1=b.1)(hm:jV b'=true):(cV (ms.set k b')).2=true:=by
 have p:=jO h;unfold cV;rw[Zf (amu hk hf),aC,p.2.2.1,aS.2 ⟨by omega,by omega⟩];have:(ms.set k b').all jV=true:=by rw[aF];intro x hx;rcases dw hx with g|g;exact p.2.2.2.1 x g;rw[g];exact hm
 rw[this];rfl
theorem aaq (h:(cV ms).2=true)(hk:ms[k]?=some b){m:uA}(hm:m.1=b.2.1+1)(hn:b.2.1<=n/\b.2.2.2<=n)(BL:n<=100000000000):∃b',pS ms k m=(ms.set k b',b'.2.2.1)/\b'.2.1=m.1/\b'.2.2.2=b.2.2.2+1/\(cV (ms.set k b')).2=true:=by
 have p:=jO h;have hb:jV b=true:=p.2.2.2.1 b (aY hk);have hi:=YI hb;have hh:nh b m=(((na b.1 m).1,m.1,(na b.1 m).2,b.2.2.2+1),(na b.1 m).2):=by unfold nh;rw[hb,ah,show(m.1==b.2.1)=false from by rw[cv];omega,af,show(m.1==b.2.1+1)=true from by rw[bg];exact hm,ah]
 unfold pS;rw[hk];simp only[hh];cases hp:(cV (ms.set k ((na b.1 m).1,m.1,(na b.1 m).2,b.2.2.2+1))).2 with|true=>exact⟨((na b.1 m).1,m.1,(na b.1 m).2,b.2.2.2+1),rfl,rfl,rfl,hp⟩|false=>refine⟨(b.1,m.1,0,b.2.2.2+1),?_,rfl,rfl,?_⟩;rw[af,ak];refine acI h hk rfl ?_;unfold jV at hb⊢;simp only[ae,aS]at hb⊢;refine⟨hb.1,⟨?_,?_⟩,?_,?_⟩;show 0<=m.1;omega;show m.1<=_;omega;show 0<=b.2.2.2+1;omega;show b.2.2.2+1<=_;omega
theorem aar (h:(cV ms).2=true)(hk:ms[k]?=some b){m:uA}(hm:m.1=b.2.1):pS ms k m=(ms,b.2.2.1):=by
 have p:=jO h;have hb:jV b=true:=p.2.2.2.1 b (aY hk);have hh:nh b m=(b,b.2.2.1):=by unfold nh;rw[hb,ah,show(m.1==b.2.1)=true from by rw[bg];exact hm,ah]
 have hs:ms.set k b=ms:=by obtain⟨gH,e⟩:=aA.1 hk;rw[<-e,List.set_getElem_self]
 unfold pS;rw[hk];simp only[hh];rw[hs,h,ah]
theorem WN (h:(cV ms).2=true)(hk:ms[k]?=some b){m:uA}(h1:m.1≠b.2.1)(h2:m.1≠b.2.1+1):pS ms k m=(ms, -1):=by
 have p:=jO h;have hb:jV b=true:=p.2.2.2.1 b (aY hk);have hh:nh b m=(b, -1):=by unfold nh;rw[hb,ah,show(m.1==b.2.1)=false from by rw[cv];exact h1,af,show(m.1==b.2.1+1)=false from by rw[cv];exact h2,af]
 have hs:ms.set k b=ms:=by obtain⟨gH,e⟩:=aA.1 hk;rw[<-e,List.set_getElem_self]
 unfold pS;rw[hk];simp only[hh];rw[hs,h,ah]
def OC (c:cP)(k:Nat)(h:Host)(b:bE):cP:=(c.1.set k (wh h b.1),c.2.1,c.2.2.1.set k b,c.2.2.2)
theorem aiY {m:Int}(g:gv n c)(hm:n<=m)(hh:c.1[k]?=some h)(hp:(cV (c.2.2.1.set k b)).2=true)(h1:b.2.1<=m/\b.2.2.2<=m):gv m (OC c k h b):=by
 have p:=jO hp;have q:=jO g.um;obtain⟨gH,_⟩:=aA.1 hh;have hk:k<c.2.2.1.length:=by have:=g.len.1;omega
 have hb:jV b=true:=p.2.2.2.1 b (aY (cW hk));have hf:fj b.1=true:=by unfold jV at hb;simp only[ae]at hb;exact hb.1
 have gh:∀h0,c.1[k]?=some h0->Good n h0:=λh0 e=>(g.host k h0 _ e (al hk)).1;refine⟨hp,⟨?_,?_⟩,?_,g.NR,g.clock,λi h' b' e1 e2=>?_,λi hi=>g.place i ?_,λx hx=>?_,λf hf=>⟨by have:=(g.fnn f hf).1;omega,by have:=(g.fnn f hf).2;omega⟩⟩;show(c.1.set k _).length=(c.2.2.1.set k b).length;rw[aC,aC];exact g.len.1;show c.2.1.length=(c.2.2.1.set k b).length;rw[aC];exact g.len.2;have e:=g.fns;unfold iy at e⊢;rw[q.1,q.2.2.1,q.2.1,bn]at e;show(hY (cV (c.2.2.1.set k b)).1&&(range c.2.1.length).all (fnB c.2.1 ((cV (c.2.2.1.set k b)).1.length:Int)))=true;rw[p.1,p.2.2.1,bn,p.2.1,aC];exact e;have e1:(c.1.set k (wh h b.1))[i]?=some h':=e1;have e2:(c.2.2.1.set k b)[i]?=some b':=e2;by_cases hi:i=k;subst hi;rw[cW gH]at e1;rw[cW hk]at e2;rw[<-bN e1,<-bN e2];exact⟨XB ((gh h hh).mono hm) hf,rfl⟩;rw[aP (cZ hi)]at e1 e2;exact⟨(g.host i h' b' e1 e2).1.mono hm,(g.host i h' b' e1 e2).2⟩;have hi:i<(c.1.set k (wh h b.1)).length:=hi;rw[aC]at hi;exact hi;rcases dw hx with e|e;have:=g.RJ x e;omega;rw[e];exact h1
theorem apA {n:Nat}(hn:8<=n)(z:CI n c)(hh:c.1[k]?=some h)(hb:b.1.2.2.length<=8):CI n (OC c k h b):=by
 have zh:=z.h h (aY hh);have zl:dj n pR b.1:=⟨cB,cB,bp hb hn,λ_ _=>trivial⟩
 have y:=zh.z;have zf:BW n (wh h b.1):=⟨⟨y.1,y.2.1,y.2.2.1,y.2.2.2.1,y.2.2.2.2.1,y.2.2.2.2.2.1,y.2.2.2.2.2.2.1,zl,y.2.2.2.2.2.2.2.2⟩,zh.t⟩
 have s:=KR (k:=k) z zf;exact⟨⟨s.z.1,z.z.2.1,nw z.z.2.2.1 ⟨zl,cB,cB,cB⟩,z.z.2.2.2⟩,s.h⟩
theorem WV (g:gv n c)(hn:n<=100000000000)(hk:c.2.2.1[k]?=some b){m:uA}(hm:m.1=b.2.1+1):∃h b',c.1[k]?=some h/\tf c (k:Int) m=(OC c k h b',b'.2.2.1)/\b'.2.1=m.1/\b'.2.2.2=b.2.2.2+1/\(cV (c.2.2.1.set k b')).2=true/\gv (n+1) (OC c k h b'):=by
 obtain⟨gH,_⟩:=aA.1 hk;have hx:k<c.1.length:=by have:=g.len.1;omega
 have hbn:=g.RJ b (aY hk);obtain⟨b',e1,e2,e3,e4⟩:=aaq g.um hk hm hbn hn;refine⟨c.1[k],b',al hx,?_,e2,e3,e4,aiY g (by omega) (al hx) e4 ⟨by omega,by omega⟩⟩;unfold tf;rw[g.ok (by omega),aS.2 ⟨by omega,by omega⟩];simp only[bR,ah,aw,e1];rw[al hx,cW gH];rfl
theorem WW (g:gv n c)(hn:n<=100000000000)(hk:c.2.2.1[k]?=some b){m:uA}{a:Int}(he:pS c.2.2.1 k m=(c.2.2.1,a)):tf c (k:Int) m=(c,a):=by
 obtain⟨gH,eb⟩:=aA.1 hk;have hx:k<c.1.length:=by have:=g.len.1;omega
 have hf:=(g.host k _ b (al hx) hk).2;unfold tf;rw[g.ok (by omega),aS.2 ⟨by omega,by omega⟩];simp only[bR,ah,aw,he];rw[al hx,hk];simp only;have e:wh c.1[k] b.1=c.1[k]:=by rw[<-hf];rfl
 rw[e,List.set_getElem_self]
def Jg (b:uA)(n:Int):uA×Bool:=bif iQ b&&db n 0 b.2.2 then((b.1,b.2.1,au (b.2.2-n)),true) else(b,false)
theorem afS (b:uA)(n:Int):tC b n=some (Jg b n):=by unfold tC Jg;simp only[IX,ab,cm];cases iQ b<;>cases db n 0 b.2.2<;>rfl
def adE (f:aX):aX:=(f.1,f.2.1,f.2.2.1,f.2.2.2.1,f.2.2.2.2.1,au (f.2.2.2.2.2+1))
def anp (f:aX)(b:uA):aX:=(f.1,f.2.1,b,f.2.2.2.1,au (f.2.2.2.2.1+1),f.2.2.2.2.2)
def ajO (ps:ax Port)(f:aX)(p:aK):Bool:=f.2.2.2.1&&(!decide (mN ps f.2.1 p<0)&&(Jg f.2.2.1 ((dC p).1.length:Int)).2)
def sU (l:ax aX)(ps:ax Port)(a:Int)(p:aK):ax aX×bW×Bool:=
 bif iy l ps&&(dq p&&(!decide (a<0)&& !decide (a>=(l.length:Int)))) then
  match l[a.toNat]? with
  |some f=>bif ajO ps f p then(l.set a.toNat (anp f (Jg f.2.2.1 ((dC p).1.length:Int)).1),Oz ps f.2.1 p,true) else(l.set a.toNat (adE f),[],false)
  |none=>(l,[],false)
 else(l,[],false)
theorem afQ (l:ax aX)(ps:ax Port)(a:Int)(p:aK)(h:l.length<=10^9)(z:CQ ps):zi l ps a p=some (sU l ps a p):=by
 unfold zi sU;rw[wY l h,ab,ak (n:=(l.length:Int)-1)];simp only[Ib l ps h z.1 z.2,yz,ab,cm];cases iy l ps;rfl;cases dq p;rfl;rw[show db a 0 ((l.length:Int)-1)=(!decide (a<0)&& !decide (a>=(l.length:Int))) from by rw[cH,aS];simp;omega];by_cases h0:a<0;rw[ar h0];rfl;by_cases h1:a>=(l.length:Int)
 rw[aq h0,ar h1];rfl;obtain⟨a,rfl⟩:=aD (by omega:0<=a);have ha:a<l.length:=by omega
 rw[aq h0,aq h1];simp only[aw,al ha,br ha,ab,aj,bt,af,ah,bR,Ea,afS,IZ _ _ p z,Gv _ _ p z,ajO];generalize l[a]=f;cases h3:f.2.2.2.1 with|false=>simp only[bt,ah,af,dJ,ab,adE,h3]|true=>simp only[aj,af,bn,Vr ha,ab,List.set_set];cases decide (mN ps f.2.1 p<0)with|true=>simp only[aj,ah,dJ,af,ab,adE,h3]|false=>simp only[bt,af,bn,ab,Gv _ _ p z];cases (Jg f.2.2.1 ((dC p).1.length:Int)).2 with|false=>simp only[bt,ah,af,adE,h3]|true=>simp only[aj,ah,af,anp,h3]
theorem TN (l:ax aX)(ps:ax Port)(a:Int)(p:aK):(sU l ps a p).1.length=l.length:=by unfold sU;cases iy l ps&&(dq p&&(!decide (a<0)&& !decide (a>=(l.length:Int))));rfl;simp only[ah];cases l[a.toNat]? with|none=>rfl|some f=>cases h:ajO ps f p<;>simp only[h,ah,af,aC]
theorem aks {a:Int}(h:dq p=false):sU l ps a p=(l,[],false):=by unfold sU;rw[h,dJ,fG,af]
theorem acD:dq pk0=false:=by decide
theorem ake (h:((fy x).2==0)=false):dq (fy x).1=false:=by
 unfold fy at h⊢;simp only at h⊢;cases h1:(sn x).2;exact acD;rw[h1]at h;simp only[aj,af]at h⊢;cases h2:(jo (sn x).1).2 !=0;case true=>exact acD
 rw[h2]at h;simp only[af]at h⊢;cases h3:dq (jo (sn x).1).1 with|false=>exact acD|true=>rw[h3]at h;cases h
def jq (h:Host):bP:=h.2.2.2.2.2.2.2.2.2.2.2.1
theorem My (h:Host):(jq h).length<=(jq (fF h)).length/\(jq (fF h)).length<=(jq h).length+5440:=by have hA:=EB h.2.1 h.1 0 17 [] 0 0 h.2.2.1.1 (λx hx=>by cases hx);unfold fF;cases dZ h;exact⟨bj _,Nat.le_add_right _ _⟩;rw[show nS h.2.1 h.1 0 17 [] 0 0 h.2.2.1.1=kX h.2.1 h.1 0 h.2.2.1.1 from rfl]at hA;generalize kX h.2.1 h.1 0 h.2.2.1.1=x at hA⊢;simp only[dg]at hA;generalize (if(h.2.2.1.2.2.1.length:Int)<au (x.2.2.1+x.2.2.2) then(h.2.2.1.2.2.1.length:Int) else au (x.2.2.1+x.2.2.2))=q;show _<=(jq h++x.2.1).length/\(jq h++x.2.1).length<=_;rw[ai];have:=hA.1;omega
def Em (h:Host):bP:=(jq (fF h)).drop (jq h).length
theorem HC (h:Host):(Em h).length<=5440:=by have:=My h;unfold Em;rw[aJ];omega
def AM (ps:ax Port)(k:Int)(c:cP)(x:Bytes):cP:=
 bif (sU c.2.1 ps k (fy x).1).2.2 then qt (c.1,(sU c.2.1 ps k (fy x).1).1,c.2.2) (au (k+1)) (fy x).1 else(c.1,(sU c.2.1 ps k (fy x).1).1,c.2.2)
theorem aen {n:Nat}(h:l.length=c.2.1.length)(z:CI n c):CI n (c.1,l,c.2.2):=by refine⟨⟨z.z.1,⟨?_,λ_ _=>⟨cB,cB,⟨cB,cB,cB⟩,cB,cB,cB⟩⟩,z.z.2.2⟩,z.h⟩;have:=z.z.2.1.1;show l.length<=n;rw[h];exact this
theorem akp {n:Nat}(hn:1000<=n){k:Int}(z:CI n c):CI (n+8) (AM ps k c x)/\(AM ps k c x).1.length=c.1.length:=by have zs:=aen (l:=(sU c.2.1 ps k (fy x).1).1) (TN ..) z;unfold AM;cases (sU c.2.1 ps k (fy x).1).2.2 with|false=>exact⟨zs.mono,rfl⟩|true=>exact adb hn _ _ zs
theorem ako {k:Int}(h:((fy x).2==0)=false):AM ps k c x=c:=by unfold AM;rw[aks (ake h)];rfl
def Ev (ps:ax Port)(k:Int)(c:cP)(l:bP):cP:=l.foldl (AM ps k) c
theorem QP {ps:ax Port}{k:Int}:∀(l:bP){c:cP}{n:Nat},1000<=n->CI n c->CI (n+8*l.length) (Ev ps k c l)/\(Ev ps k c l).1.length=c.1.length
 |[],c,n,_,z=>⟨z,rfl⟩
 |x::l,c,n,hn,z=>by have h1:=akp hn (ps:=ps) (k:=k) (x:=x) z;have:=QP (ps:=ps) (k:=k) l (show 1000<=n+8 by omega) h1.1;exact⟨this.1.mono (by simp only[aU];omega),this.2.trans h1.2⟩
theorem acU (ps:ax Port)(k:Int)(c:cP)(l:bP)(i:Nat)(hi:i<l.length):Ev ps k c (l.take (i+1))=AM ps k (Ev ps k c (l.take i)) l[i]:=by rw[bc hi,Ev,List.foldl_append];rfl
theorem X1 (K:Int->cP->az R)(ps:ax Port)(k:Int)(l:bP)(c B:cP)(hl:l.length<=5440)(hx:∀x∈l,x.length<=10^9)(z:CI 700000000 c)(zp:CQ ps): bl (ky K k ps l (l.length:Int) B) fuel (0,c)=K (l.length:Int) (Ev ps k c l):=by
 have D5:=eS;refine dE (λi=>((i:Int),Ev ps k c (l.take i))) l.length (by omega) (λi nx hi=>?_) (λnx=>?_);have hz:=(QP (ps:=ps) (k:=k) (l.take i) (by omega) z).1.mono (show 700000000+8*(l.take i).length<=800000000 by rw[aV];omega);rw[acU ps k c l i hi];generalize Ev ps k c (l.take i)=W at hz⊢;simp only[ky];rw[jI,ah,br hi,ab,LL _ (hx _ (aM hi)),ab,ak (n:=(i:Int)+1)];cases hf:(fy l[i]).2==0 with|false=>rw[ako hf];simp only[bne,hf,bt,ah];rfl|true=>have zs:=aen (l:=(sU W.2.1 ps k (fy l[i]).1).1) (TN ..) hz;simp only[bne,hf,aj,af];rw[afQ _ _ _ _ (bp hz.z.2.1.1 (by omega)) zp,ab,Gs _ _ _ zs,ab,AM];cases (sU W.2.1 ps k (fy l[i]).1).2.2<;>rfl
 simp only[ky];rw[cC,af,cE]
def rC (c:cP)(k:Int):cP:=
 bif lK c&&(!decide (k<0)&& !decide (k>=(c.1.length:Int))) then
  match c.1[k.toNat]? with
  |some h=>Ev (cV c.2.2.1).1 k (QS c k.toNat (fF h)) (Em h)
  |none=>c
 else c
theorem P0 (c:cP)(k:Int)(z:CI 600000000 c):rF c k=some (rC c k):=by
 have z9:dj 1000000000 wj c:=z.z.mono;have hl:c.2.1.length<=600000000:=z.z.2.1.1;unfold rF rC;rw[pT c z9,ab,Ch c (z.sz),ab,cm,ak (n:=(c.2.1.length:Int)-1)];cases hb:lK c;rfl;have h2:c.1.length=c.2.1.length:=by unfold lK at hb;simp only[ae]at hb;have:=HA hb.2.1;omega
 rw[show db k 0 ((c.2.1.length:Int)-1)=(!decide (k<0)&& !decide (k>=(c.1.length:Int))) from by rw[cH,aS];simp;omega];by_cases h0:k<0;rw[ar h0];rfl;by_cases h1:k>=(c.1.length:Int)
 rw[aq h0,ar h1];rfl;obtain⟨k,rfl⟩:=aD (by omega:0<=k);have hk:k<c.1.length:=by omega
 rw[aq h0,aq h1];have hz:=z.h _ (aM hk);have zt:=Fk (by omega) hz;have zc:CI 700000000 (QS c k (fF c.1[k])):=(KR (z.mono (show 600000000<=600005440 by omega)) zt).mono;have hg:=My c.1[k];have hw:∀x∈Em c.1[k],x.length<=10^9:=λx hx=>bp (zt.z.2.2.2.2.2.2.2.2.2.2.2.1.2 x (List.mem_of_mem_drop hx)) (by omega);have hn:=HC c.1[k];have zp:=aef c.2.2.1;simp only[aw,al hk,br hk,Vr hk,ab,aj,bt,af,ah,bR,C9 _ (λm hm=>(z9.2.2.1.2 m hm).1.2.2.1),Kh _ (hz.mono)];rw[show sub (fF c.1[k]).2.2.2.2.2.2.2.2.2.2.2.1 ((c.1[k].2.2.2.2.2.2.2.2.2.2.2.1).length:Int) (((fF c.1[k]).2.2.2.2.2.2.2.2.2.2.2.1).length:Int)=some (Em c.1[k]) from K4 _ _ hg.1];simp only[ab,mR _ (bp hn (by omega:5440<=10^9))];exact X1 (λ_ y=>some y) (cV c.2.2.1).1 (k:Int) (Em c.1[k]) (QS c k (fF c.1[k])) _ hn hw zc zp
theorem aax {n:Nat}(hn:1000<=n)(k:Int)(z:CI n c):CI (n+48960) (rC c k)/\(rC c k).1.length=c.1.length:=by unfold rC;cases lK c&&(!decide (k<0)&& !decide (k>=(c.1.length:Int)));exact⟨z.mono,rfl⟩;simp only[ah];cases hx:c.1[k.toNat]? with|none=>exact⟨z.mono,rfl⟩|some h=>have zt:=Fk (by omega) (z.h h (aY hx));have zc:=KR (k:=k.toNat) (z.mono (show n<=n+5440 by omega)) zt;have:=QP (ps:=(cV c.2.2.1).1) (k:=k) (Em h) (by omega) zc;have hl:=HC h;refine⟨this.1.mono,this.2.trans ?_⟩;show(c.1.set _ _).length=_;rw[aC]
structure mc (a b:Host):Prop where
 maps:b.2.1=a.2.1
 mem:b.1.length=a.1.length
theorem mc.refl (a:Host):mc a a:=⟨rfl,rfl⟩
theorem mc.trans {a b c:Host}(h:mc a b)(g:mc b c):mc a c:=⟨g.maps.trans h.maps,g.mem.trans h.mem⟩
theorem mc.of {a b:Host}(h:ma k a b):mc a b:=⟨h.maps,h.mem⟩
theorem amD (l:ax aH)(m:bP)(d:Int)(q:cA)(k s:Bytes):(je l m d q k s).1.length=m.length:=by
 unfold je;cases !(dx s).2||(((dx s).1.1 !=3)||decide ((dx s).1.2.2.1<((dC q.2.2.2.1.1).1.length:Int)));case true=>rfl
 cases (jb l m d (dx s).1.2.2.2.1 (dC q.2.2.2.1.1).1 true).2 with
 |false=>rfl
 |true=>
  simp only[af,aj];unfold Dh;cases !gE q.2.1|| !B5 _;case true=>exact ll ..
  cases (jb l (jb l m d (dx s).1.2.2.2.1 (dC q.2.2.2.1.1).1 true).1 d (uo q.2.1) _ true).2 with|false=>exact ll ..|true=>exact(ll ..).trans (ll ..)
theorem U9 (l:ax aH)(m:bP)(d:Int)(q:cA)(k:Bytes):(jC l m d q k).1.length=m.length:=by
 unfold jC;cases !Ju q||(!q.2.2.2.2.1||((k.length:Int) !=16));case true=>rfl
 cases (bC l m d q.1).2.2&&(je l m d q k (bC l m d q.1).1).2.2 with|true=>exact amD ..|false=>rfl
theorem ahP (l:ax aH)(m:bP)(d:Int)(q:cA)(k:Bytes)(p:aK)(c:Bool):(mX l m d q k p c).1.length=m.length:=by
 unfold mX;cases !Ju q||(!dq p||((k.length:Int) !=16));case true=>rfl
 cases c&&(q.2.2.2.2.1&&Ls q.2.2.2.1 p);case true=>rfl
 cases c with|true=>exact U9 ..|false=>exact(U9 ..).trans (U9 ..)
theorem akr (l:ax aH)(m:bP)(d:Int)(t:eD)(p:aK)(c z:Int):(yE l m d t p c z).1.length=m.length:=by unfold yE;cases Rm t&&(dv p&&(db z 1 t.2.1.2.1&&db c 1 128));rfl;cases MI t (B4 p z.toNat);rfl;simp only[ah];cases hw:zW l d t.2.1 z.toNat (lP t.2.1 (B4 p z.toNat:Int)).2.1 (lG p).1 m []with|none=>rfl|some x=>have hx:=(JL _ _ _ _ _ _ _ _ hw).1;simp only;unfold QQ xJ;cases hp:tR l d ((su x.1 c t.2.2.2).map AR) x.2 t.1 with|none=>rfl|some y=>exact(Ni _ _ _ _ _ hp).trans hx
theorem ahj (h:Host)(p:aK)(c z:Int):mc h (Am h p c z).1:=by unfold Am;cases dZ h with|false=>exact mc.refl h|true=>exact⟨rfl,akr ..⟩
theorem Iw (h:Host):mc h (fF h):=by unfold fF;cases dZ h with|false=>exact mc.refl h|true=>exact⟨rfl,rfl⟩
theorem ac3 (h:Host):mc h (vW h):=by unfold vW;cases dZ h with|false=>exact mc.refl h|true=>exact mc.of (pH zX h _)
theorem TX (h:Host):mc h (uq h):=by unfold uq;cases dZ h with|false=>exact mc.refl h|true=>exact mc.of (pH CF h _)
theorem Wc (h:Host)(b:Int):mc h (mz h b).1:=by unfold mz;cases dZ h&&db b 1 1000 with|false=>exact mc.refl h|true=>exact mc.of (BR b h _)
theorem K2 (h:Host)(x:Bytes):mc h (jH h x):=by
 unfold jH;cases dZ h;exact mc.refl h;cases (fy x).2 !=0;case true=>exact⟨rfl,rfl⟩
 cases !wP h.2.2.2.2.2.2.2.1 (fy x).1;case true=>exact⟨rfl,rfl⟩
 cases rr h.2.2.2.2.2.2.2.2.1 (h.2.2.2.1.length:Int) (fy x).1== -1;case true=>exact⟨rfl,rfl⟩
 simp only[aj,af];cases hq:h.2.2.2.1[(rr h.2.2.2.2.2.2.2.2.1 (h.2.2.2.1.length:Int) (fy x).1).toNat]? with|none=>exact mc.refl h|some q=>exact mc.trans (b:=Dw h _ _ _ _) ⟨rfl,rfl⟩ (mc.of (G4 (ahP ..)))
theorem K1 (h:Host):∀k,mc h (rY h k)
 |0=>mc.refl h
 |k+1=>by refine(K1 h k).trans ?_;show mc (rY h k) (we (rY h k) k 1000).2;generalize rY h k=s;unfold we;rcases s.2.2.2.1[k]? with _|rx;exact mc.refl s;rcases s.2.2.2.2.1[k]? with _|pl;exact mc.refl s;exact⟨rfl,aee ..⟩
theorem Iu (h:Host):∀k,mc h (returned h k)
 |0=>K1 h _
 |k+1=>by refine(Iu h k).trans ?_;show mc (returned h k) (Mj h.2.2.1.2.2.1 k (returned h k));unfold Mj;cases h.2.2.1.2.2.1[k]? with|none=>exact mc.refl _|some x=>exact⟨rfl,rfl⟩
theorem Q5 (h:Host):mc h (rp h):=by unfold rp;cases dZ h with|false=>exact mc.refl h|true=>have k:=zA (rD h) h.2.2.2.1.length;have r:=Iu h h.2.2.1.2.2.1.length;exact⟨k.maps.trans r.maps,k.mem.trans r.mem⟩
theorem akD (h:Host)(a:Act):mc h (HO h a).1:=by
 unfold HO;cases !dZ h|| !FN a;case true=>exact mc.refl h
 simp only[af];cases a.1==0;case true=>exact ahj ..
 cases a.1==1;case true=>exact Iw h
 cases a.1==2;case true=>exact K2 ..
 cases a.1==3;case true=>exact ac3 h
 cases a.1==4;case true=>exact TX h
 cases a.1==5 with|true=>exact Wc ..|false=>exact Q5 h
def tj (h:Host):Filter:=h.2.2.2.2.2.2.2.1
theorem alM (k:Nat)(h:Host):tj (evS k h)=tj h:=by unfold evS;cases h.2.2.2.2.2.1[k]?<;>rfl
theorem adM (k:Nat)(h:Host):∀i,tj (evH k i h)=tj h
 |0=>rfl
 |i+1=>(alM k _).trans (adM k h i)
theorem abp (h:Host)(k:Nat)(b:Int)(f:bP×cA):tj (G3 h k b f)=tj h:=(adM k _ _).trans rfl
theorem MK (h:Host)(x:Bytes):tj (jH h x)=tj h:=by
 unfold jH;cases dZ h;rfl;cases (fy x).2 !=0;case true=>rfl
 cases !wP h.2.2.2.2.2.2.2.1 (fy x).1;case true=>rfl
 cases rr h.2.2.2.2.2.2.2.2.1 (h.2.2.2.1.length:Int) (fy x).1== -1;case true=>rfl
 simp only[aj,af];cases h.2.2.2.1[(rr h.2.2.2.2.2.2.2.2.1 (h.2.2.2.1.length:Int) (fy x).1).toNat]? with|none=>rfl|some q=>exact abp ..
theorem afl (h:Host):tj (vW h)=tj h:=by unfold vW;cases dZ h with|false=>rfl|true=>exact(pH zX h _).tj
theorem Xp (h:Host):tj (uq h)=tj h:=by unfold uq;cases dZ h with|false=>rfl|true=>exact(pH CF h _).tj
theorem Xo (h:Host)(b:Int):tj (mz h b).1=tj h:=by unfold mz;cases dZ h&&db b 1 1000 with|false=>rfl|true=>exact(BR b h _).tj
theorem EN (h:Host):tj (fF h)=tj h:=by unfold fF;cases dZ h<;>rfl
theorem aiS (h:Host)(p:aK)(c z:Int):tj (Am h p c z).1=tj h:=by unfold Am;cases dZ h<;>rfl
theorem abn (h:Host)(i:Nat)(c:Int):tj (we h i c).2=tj h:=by unfold we;rcases h.2.2.2.1[i]? with _|rx;rfl;cases h.2.2.2.2.1[i]? with|none=>rfl|some pl=>rfl
theorem MJ (h:Host):∀k,tj (rY h k)=tj h
 |0=>rfl
 |k+1=>(abn _ k 1000).trans (MJ h k)
theorem EM (h:Host):∀k,tj (returned h k)=tj h
 |0=>MJ h _
 |k+1=>by have e:returned h (k+1)=Mj h.2.2.1.2.2.1 k (returned h k):=rfl;rw[e];unfold Mj;cases h.2.2.1.2.2.1[k]? with|none=>exact EM h k|some x=>exact(show tj (TI (returned h k) [x.1])=tj (returned h k) from rfl).trans (EM h k)
theorem abo (k:Nat)(h:Host):tj (wg k h)=tj h:=by unfold wg;rcases h.2.2.2.1[k]? with _|x;rfl;cases h.2.2.2.2.2.1[k]? with|none=>rfl|some v=>rfl
theorem JM (h:Host):∀k,tj (iL h k)=tj h
 |0=>rfl
 |k+1=>(abo k _).trans (JM h k)
theorem SR (h:Host):tj (rp h)=tj h:=by unfold rp;cases dZ h with|false=>rfl|true=>exact(JM _ _).trans ((show tj (rD h)=tj (returned h h.2.2.1.2.2.1.length) from rfl).trans (EM h _))
theorem alL (h:Host)(a:Act):tj (HO h a).1=tj h:=by
 unfold HO;cases !dZ h|| !FN a;case true=>rfl
 simp only[af];cases a.1==0;case true=>exact aiS ..
 cases a.1==1;case true=>exact EN h
 cases a.1==2;case true=>exact MK ..
 cases a.1==3;case true=>exact afl h
 cases a.1==4;case true=>exact Xp h
 cases a.1==5 with|true=>exact Xo ..|false=>exact SR h
theorem gv.at (g:gv n c)(hi:c.1[i]?=some h):Good n h:=by obtain⟨gH,_⟩:=aA.1 hi;exact(g.host i h _ hi (al (by have:=g.len.1;omega))).1
theorem PB {m:Int}(g:gv n c)(hm:n<=m){hs:ax Host}(hl:hs.length=c.1.length)(h:∀(i:Nat)(h':Host),hs[i]?=some h'->∃h0,c.1[i]?=some h0/\Good m h'/\tj h'=tj h0):gv m (hs,c.2):=by have q:=g.mono hm;refine⟨q.um,⟨hl.trans q.len.1,q.len.2⟩,q.fns,q.NR,q.clock,λi h' b e1 e2=>?_,λi hi=>q.place i (by rw[<-hl];exact hi),q.RJ,q.fnn⟩;obtain⟨h0,a,b',e⟩:=h i h' e1;exact⟨b',e.trans (q.host i h0 b a e2).2⟩
theorem Hp {m:Int}(g:gv n c)(hm:n<=m){h0:Host}(hk:c.1[k]?=some h0)(gh:Good m h)(e:tj h=tj h0):gv m (QS c k h):=by refine PB g hm (aC ..) λi h' hi=>?_;by_cases hik:i=k;subst hik;obtain⟨gH,_⟩:=aA.1 hk;rw[cW gH]at hi;rw[<-bN hi];exact⟨h0,hk,gh,e⟩;rw[aP (cZ hik)]at hi;exact⟨h',hi,(g.at hi).mono hm,rfl⟩
theorem SW {m:Int}(g:gv n c)(hm:n<=m){f:Host->Host}(hf:∀h,Good n h->Good m (f h))(he:∀h,tj (f h)=tj h):gv m (c.1.map f,c.2):=by refine PB g hm (bH ..) λi h' hi=>?_;rw[eU]at hi;cases hc:c.1[i]? with|none=>rw[hc]at hi;cases hi|some h0=>rw[hc]at hi;rw[<-bN hi];exact⟨h0,rfl,hf h0 (g.at hc),he h0⟩
theorem abx (g:gv n c)(f:Bytes):gv n (aeM c f):=⟨g.um,g.len,g.fns,g.NR,g.clock,g.host,g.place,g.RJ,g.fnn⟩
theorem MP (g:gv n c):gv n (Fe c):=⟨g.um,g.len,g.fns,g.NR,g.clock,g.host,g.place,g.RJ,g.fnn⟩
theorem abv (hn:n<=600000000000)(g:gv n c)(ps:ax Port)(v:Int)(p:aK)(j:Nat):gv (n+641) (cX ps v p c j):=by unfold cX;cases j==0 with|true=>exact(abx g _).mono|false=>simp only[af];cases hc:c.1[j-1]? with|none=>exact g.mono|some h=>exact Hp g (by omega) hc (JS (by omega) (g.at hc) _) (MK ..)
theorem SX (ps:ax Port)(v:Int)(p:aK):∀(l:fK){n:Int}{c:cP},n+641*(l.length:Int)<=600000000000->gv n c->gv (n+641*(l.length:Int)) (Ml ps v p c l)
 |[],n,c,_,g=>g.mono (by simp)
 |j::l,n,c,hn,g=>by simp only[aU]at hn;have i:=SX ps v p l (n:=n+641) (by omega) (abv (by omega) g ps v p j);exact i.mono (by simp only[aU];push_cast;omega)
theorem H3 (hn:n<=500000000000)(g:gv n c)(e:Int)(p:aK):gv (n+2564) (nJ c e p):=by unfold nJ;cases decide (mN (cV c.2.2.1).1 e p<0)with|true=>exact g.mono|false=>have h1:=GV (cV c.2.2.1).1 e p;have h2:=(agN c.2.2.1).1;exact(SX _ _ _ _ (by omega) g).mono
theorem Vc (hn:n<=500000000000)(g:gv n c)(e:Int)(p:aK):gv (n+2564) (qt c e p):=by unfold qt;cases lK c&&dq p with|true=>exact H3 hn g e p|false=>exact g.mono
theorem RO (hn:n<=500000000000)(g:gv n c)(x:Bytes):gv (n+2564) (sS c x):=by
 unfold sS;cases !lK c;case true=>exact g.mono
 cases (fy x).2==0 with|true=>exact H3 hn (MP g) 0 _|false=>exact(MP g).mono
theorem Xw {f:aX}(hk:k<l.length):(l.set k f).getD i HR=if i=k then f else l.getD i HR:=by rw[bG,bG];by_cases h:i=k;subst h;rw[aI rfl,cW hk];rfl;rw[aG h,aP (cZ h)]
theorem JN:iy l ps=true↔hY ps=true/\∀i,i<l.length->FB (ps.length:Int) (l.getD i HR)=true/\∀j,j<i->afn (l.getD i HR) (l.getD j HR)=false:=by unfold iy fnB;simp only[ae,aF,bB,aN]
theorem aiU {l':ax aX}(h:iy l ps=true)(hl:l'.length=l.length)(hx:∀i,i<l.length->(l'.getD i HR).1=(l.getD i HR).1/\(l'.getD i HR).2.1=(l.getD i HR).2.1/\FB (ps.length:Int) (l'.getD i HR)=true):iy l' ps=true:=by rw[JN]at h⊢;refine⟨h.1,λi hi=>⟨(hx i (by omega)).2.2,λj hj=>?_⟩⟩;have q:=(h.2 i (by omega)).2 j hj;have a:=hx i (by omega);have b:=hx j (by omega);unfold afn at q⊢;rw[a.1,a.2.1,b.1,b.2.1];exact q
theorem acE {l':ax aX}(h:AB l i=true)(hx:(l'.getD i HR).1=(l.getD i HR).1/\(l'.getD i HR).2.1=(l.getD i HR).2.1):AB l' i=true:=by unfold AB at h⊢;rw[hx.1,hx.2];exact h
theorem XD {m:Int}(g:gv n c)(hm:n<=m)(hl:l.length=c.2.1.length)(hx:∀i,i<c.2.1.length->(l.getD i HR).1=(c.2.1.getD i HR).1/\(l.getD i HR).2.1=(c.2.1.getD i HR).2.1/\FB ((cV c.2.2.1).1.length:Int) (l.getD i HR)=true)(hc:∀f∈l,f.2.2.2.2.1<=m/\f.2.2.2.2.2<=m):gv m (c.1,l,c.2.2):=by
 have q:=g.mono hm;refine⟨q.um,⟨q.len.1,hl.trans q.len.2⟩,aiU q.fns hl hx,q.NR,q.clock,q.host,λi hi=>?_,q.RJ,hc⟩;have hi:i<c.1.length:=hi;have gH:i<c.2.1.length:=by have:=q.len;omega
 exact acE (q.place i hi) ⟨(hx i gH).1,(hx i gH).2.1⟩
theorem B9 {f:aX}:FB n f=true↔(0<=f.1/\f.1<=7)/\(1<=f.2.1/\f.2.1<=au (n-1))/\iQ f.2.2.1=true/\(0<=f.2.2.2.2.1/\f.2.2.2.2.1<=1000000000000)/\0<=f.2.2.2.2.2/\f.2.2.2.2.2<=1000000000000:=by unfold FB;simp only[ae,aS]
theorem Us {b:uA}(h:iQ b=true)(n:Int):iQ (Jg b n).1=true:=by unfold Jg;cases hq:iQ b&&db n 0 b.2.2 with|false=>exact h|true=>simp only[ae,aS]at hq;unfold iQ at h⊢;simp only[ae,aS,ah]at h⊢;rw[ak];exact⟨h.1,h.2.1,by omega,by omega⟩
theorem PG (hn:n<=500000000000)(g:gv n c)(k:Int)(p:aK):gv (n+1) (c.1,(sU c.2.1 (cV c.2.2.1).1 k p).1,c.2.2):=by
 have same:gv (n+1) (c.1,c.2.1,c.2.2):=g.mono;unfold sU;cases hq:iy c.2.1 (cV c.2.2.1).1&&(dq p&&(!decide (k<0)&& !decide (k>=(c.2.1.length:Int))));exact same;simp only[ah];rcases hf:c.2.1[k.toNat]? with _|f;exact same;simp only;obtain⟨gH,ef⟩:=aA.1 hf;have hF:=(JN.1 g.fns).2;have Rv:=g.fnn f (aY hf);have fin:FB ((cV c.2.2.1).1.length:Int) f=true:=by have:=(hF k.toNat gH).1;rw[cu gH,ef]at this;exact this
 have hi:=B9.1 fin;have go:∀f':aX,f'.1=f.1->f'.2.1=f.2.1->FB ((cV c.2.2.1).1.length:Int) f'=true->(f'.2.2.2.2.1<=n+1/\f'.2.2.2.2.2<=n+1)->gv (n+1) (c.1,c.2.1.set k.toNat f',c.2.2):=by intro f' e1 e2 e3 e4;refine XD g (by omega) (aC ..) (λi hi=>?_) λx hx=>?_;rw[Xw gH];by_cases hik:i=k.toNat;rw[aI hik,hik,cu gH,ef];exact⟨e1,e2,e3⟩;rw[aG hik];exact⟨rfl,rfl,(hF i hi).1⟩;rcases dw hx with e|e;have:=g.fnn x e;omega;rw[e];exact e4
 cases ajO (cV c.2.2.1).1 f p with|true=>refine go _ rfl rfl (B9.2 ⟨hi.1,hi.2.1,Us hi.2.2.1 _,?_,hi.2.2.2.2⟩) ?_;show 0<=au (f.2.2.2.2.1+1)/\_;show 0<=au (f.2.2.2.2.1+1)/\au (f.2.2.2.2.1+1)<=1000000000000;rw[ak];omega;show au (f.2.2.2.2.1+1)<=n+1/\f.2.2.2.2.2<=n+1;rw[ak];omega|false=>refine go _ rfl rfl (B9.2 ⟨hi.1,hi.2.1,hi.2.2.1,hi.2.2.2.1,?_⟩) ?_;show 0<=au (f.2.2.2.2.2+1)/\au (f.2.2.2.2.2+1)<=1000000000000;rw[ak];omega;show f.2.2.2.2.1<=n+1/\au (f.2.2.2.2.2+1)<=n+1;rw[ak];omega
structure rA (a b:cP):Prop where
 boxes:b.2.2.1=a.2.2.1
 flash:b.2.2.2.1=a.2.2.2.1
 clock:b.2.2.2.2.1=a.2.2.2.2.1
 stamps:b.2.2.2.2.2.1=a.2.2.2.2.2.1
 len:b.1.length=a.1.length
 up:∃w,b.2.2.2.2.2.2=a.2.2.2.2.2.2++w
theorem rA.refl (a:cP):rA a a:=⟨rfl,rfl,rfl,rfl,rfl,⟨[],(bD _).symm⟩⟩
theorem rA.trans {a b:cP}(h:rA a b)(g:rA b c):rA a c:=by obtain⟨w,hw⟩:=h.up;obtain⟨u,hu⟩:=g.up;exact⟨g.boxes.trans h.boxes,g.flash.trans h.flash,g.clock.trans h.clock,g.stamps.trans h.stamps,g.len.trans h.len,⟨w++u,by rw[hu,hw,aL]⟩⟩
theorem ab2 (ps:ax Port)(v:Int)(p:aK)(c:cP)(j:Nat):rA c (cX ps v p c j):=by unfold cX;cases j==0 with|true=>exact⟨rfl,rfl,rfl,rfl,rfl,⟨_,rfl⟩⟩|false=>simp only[af];cases hc:c.1[j-1]? with|none=>exact rA.refl c|some h=>exact⟨rfl,rfl,rfl,rfl,aC ..,⟨[],(bD _).symm⟩⟩
theorem Tk (ps:ax Port)(v:Int)(p:aK):∀(l:fK)(c:cP),rA c (Ml ps v p c l)
 |[],c=>rA.refl c
 |j::l,c=>(ab2 ps v p c j).trans (Tk ps v p l _)
theorem Ih (c:cP)(e:Int)(p:aK):rA c (nJ c e p):=by unfold nJ;cases decide (mN (cV c.2.2.1).1 e p<0)with|true=>exact rA.refl c|false=>exact Tk ..
theorem VI (c:cP)(e:Int)(p:aK):rA c (qt c e p):=by unfold qt;cases lK c&&dq p with|true=>exact Ih ..|false=>exact rA.refl c
theorem I2 (ps:ax Port)(k:Int)(c:cP)(x:Bytes):rA c (AM ps k c x):=by
 unfold AM;have e:rA c (c.1,(sU c.2.1 ps k (fy x).1).1,c.2.2):=⟨rfl,rfl,rfl,rfl,rfl,⟨[],(bD _).symm⟩⟩
 cases (sU c.2.1 ps k (fy x).1).2.2 with|true=>exact e.trans (VI ..)|false=>exact e
theorem Qc (ps:ax Port)(k:Int):∀(l:bP)(c:cP),rA c (Ev ps k c l)
 |[],c=>rA.refl c
 |x::l,c=>(I2 ps k c x).trans (Qc ps k l _)
theorem ad0 (c:cP)(k:Int):rA c (rC c k):=by unfold rC;cases lK c&&(!decide (k<0)&& !decide (k>=(c.1.length:Int)));exact rA.refl c;simp only[ah];cases c.1[k.toNat]? with|none=>exact rA.refl c|some h=>exact(show rA c (QS c k.toNat (fF h)) from⟨rfl,rfl,rfl,rfl,aC ..,⟨[],(bD _).symm⟩⟩).trans (Qc ..)
theorem PE (hn:n<=400000000000)(g:gv n c)(k:Int)(x:Bytes):gv (n+2565) (AM (cV c.2.2.1).1 k c x):=by have q:=PG (by omega) g k (fy x).1;unfold AM;cases (sU c.2.1 (cV c.2.2.1).1 k (fy x).1).2.2 with|true=>exact(Vc (by omega) q _ _).mono|false=>exact q.mono
theorem PF (k:Int)(ps:ax Port):∀(l:bP){n:Int}{c:cP},n+2565*(l.length:Int)<=400000000000->ps=(cV c.2.2.1).1->gv n c->gv (n+2565*(l.length:Int)) (Ev ps k c l)
 |[],n,c,_,_,g=>g.mono (by simp)
 |x::l,n,c,hn,hp,g=>by simp only[aU]at hn;have s:=PE (by omega) g k x;rw[<-hp]at s;have i:=PF k ps l (n:=n+2565) (by omega) (by rw[(I2 ps k c x).boxes];exact hp) s;exact i.mono (by simp only[aU];push_cast;omega)
theorem adO (hn:n<=300000000000)(g:gv n c)(k:Int):gv (n+14000000) (rC c k):=by unfold rC;cases lK c&&(!decide (k<0)&& !decide (k>=(c.1.length:Int)));exact g.mono;simp only[ah];cases hc:c.1[k.toNat]? with|none=>exact g.mono|some h=>have q:=Hp g (cR n) hc (Dz (g.at hc)) (EN h);have hl:=HC h;exact(PF k (cV c.2.2.1).1 (Em h) (c:=QS c k.toNat (fF h)) (by omega) rfl q).mono
def IC (s:Bytes):Prop:=∀x∈s,x=0
theorem WC (h:IC s):s=List.replicate s.length 0:=List.eq_replicate_iff.2 ⟨rfl,h⟩
theorem Rq (n:Nat):IC (yr n):=by intro x hx;simp only[yr,aO,List.map_replicate]at hx;exact(List.mem_replicate.1 hx).2
theorem aly {t:Bytes}(h:IC s)(k:IC t)(e:s.length=t.length):s=t:=by rw[WC h,WC k,e]
theorem arf {o:Nat}{t:Bytes}(hx:IC x)(ht:IC t)(h:o+t.length<=x.length):En x o t=x:=by refine aly (λy hy=>?_) hx (TA h);unfold En at hy;rcases ay.1 hy with g|g;exact hx y (List.mem_of_mem_take g);rcases ay.1 g with g|g;exact ht y g;exact hx y (List.mem_of_mem_drop g)
theorem alm:∀(n:Nat){m:bP}{a:Nat}{s:Bytes},DP m->(∀x∈m,IC x)->IC s->a+s.length<=128*m.length->yR n m a s=m
 |0,m,a,s,_,_,_,_=>rfl
 |n+1,m,a,s,hp,hm,hs,hl=>by rw[yR];by_cases h0:s.length=0;rw[aI h0];rw[aG h0];obtain⟨h1,h2,_⟩:=Fp hp h0 hl;have ho:En (m[a/128]'h1) (a%128) (s.take (128-a%128))=m[a/128]'h1:=arf (hm _ (aM h1)) (λy hy=>hs y (List.mem_of_mem_take hy)) (by rw[h2,aV];omega);rw[cu h1,ho,List.set_getElem_self];exact alm n hp hm (λy hy=>hs y (List.mem_of_mem_drop hy)) (by rw[aJ];omega)
theorem amP (a:Int)(hm:∀x∈m,IC x)(hs:IC s):(qu m a s).1=m:=by unfold qu;cases hw:gX m a (s.length:Int);rfl;simp only[gX,ae,aE]at hw;exact alm s.length (rh.1 hw.1) hm hs (by omega)
theorem ano:∀(q:ax (Int×Int)){m:bP}{s:Bytes},(∀x∈m,IC x)->IC s->Md q m s=m
 |[],m,s,_,_=>rfl
 |p::q,m,s,hm,hs=>by rw[Md,amP _ hm (λy hy=>hs y (List.mem_of_mem_take hy))];exact ano q hm (λy hy=>hs y (List.mem_of_mem_drop hy))
theorem ari (hm:∀x∈m,IC x)(hs:IC s)(l:ax aH)(d a:Int)(w:Bool):(jb l m d a s w).1=m:=by unfold jb;cases (lO l m d a (s.length:Int) w).2 with|false=>rfl|true=>exact ano _ hm hs
def CP (n:Nat):bP:=List.replicate n (yr 128)
theorem ao8 {n:Nat}:∀x∈CP n,IC x:=λx hx=>by rw[(List.mem_replicate.1 hx).2];exact Rq 128
theorem agf (n:Nat):CP (n+1)=CP n++[yr 128]:=List.replicate_succ'
theorem QX (n:Nat)(h:n<=64:=by omega):pA (n:Int)=some (CP n):=by have hz:gK 128 0=some (yr 128):=QV 128;unfold pA;refine dE (λi=>((i:Int),CP i)) n (by omega) (λi nx hi=>?_) (λnx=>?_);simp only[sa];rw[ar (show(i:Int)<n by omega),ah,jI,ab,ah,hz,ab,aR (by simp[CP];omega),ak,agf];rfl;simp only[sa];rw[aq (show¬(n:Int)<n by omega),af,ab,af]
def sP (a b:Int):Vector×Bool:=bif fB (a,b,0,0,false,false) then((a,b,0,0,false,false),true) else((0,0,0,0,false,false),false)
theorem QY (a b:Int):xS a b=some (sP a b):=by unfold xS sP;rw[Jf,ab];cases fB (a,b,0,0,false,false)<;>rfl
def ui (i:Nat):ax aH:=(range i).map λ(p:Nat)=>(0,(p:Int),37-(p:Int), !db (p:Int) 2 9)
theorem Qn (i:Nat):ui (i+1)=ui i++[(0,(i:Int),37-(i:Int), !db (i:Int) 2 9)]:=by simp[ui,gZ]
theorem Ej (i:Nat):(ui i).length=i:=by simp[ui]
def aqH:Host:=(([]:bP),([]:ax aH),((0,0,0,0),(0,0,0,([]:bW)),([]:ax pQ),0),([]:ax cA),([]:ax dB),([]:ax Vector),([]:ax Bool),(0,false,([]:bW)),(([]:ax nK),([]:ax Slot),([]:Bytes),([]:bW)),([]:ax Stream),false,([]:bP),([]:bW),([]:bW),0,0,0,0,0)
def S1 (f:Filter)(s:dT)(c:Bool)(i:Nat):Host:=(CP 38,ui i,yq,([]:ax cA),([]:ax dB),([]:ax Vector),([]:ax Bool),f,s,([]:ax Stream),c,([]:bP),([]:bW),([]:bW),0,0,0,0,0)
def SH:bP×kY×dB×Int:=wv (ui 38) (CP 38) 0 (GN 0).1 (iK (iv 0+128) 384 4).1
def anh (f:Filter)(s:dT)(c:Bool)(v:Vector):Host:=(SH.1,ui 38,yq,[(SH.2.1,(GN 0).2)],[SH.2.2.1],[v],[false],f,s,([]:ax Stream),c,([]:bP),([]:bW),([]:bW),0,0,0,0,0)
def pj (f:Filter)(s:dT)(c:Bool)(a b:Int):Host×Bool:=
 bif fj f&&(fE s 1&&(sP a b).2) then(anh f s c (sP a b).1,true) else(aqH,false)
theorem Nn (f:Filter)(s:dT)(c:Bool)(a b:Int)(hf:f.2.2.length<=10^9)(h1:s.1.length<=10^9)(h2:s.2.1.length<=10^9)(h3:s.2.2.2.length<=10^9):tW 1 f s c a b=some (pj f s c a b):=by
 have D5:=eS;unfold tW pj;rw[QY,ab,dQ,ab,show db (1:Int) 1 2=true from aS.2 (by omega),Fb f hf,KX s 1 h1 h2 h3];simp only[aj,af,ab];cases fj f;rfl;cases fE s 1;rfl;generalize sP a b=v;cases hv:v.2;rfl;have hm:pA 38=some (CP 38):=QX 38;simp only[aj,af,ab,gw,ah,hm,TT,CA f hf,Ir s h1 h2 h3];refine dE (λi=>((i:Int),S1 f s c i)) 38 (by omega) (λi nx hi=>?_) (λnx=>?_);have hl:=Ej i;simp only[qM];rw[jI,ah,dQ,ab,aR (by show(ui i).length+1<=_;omega),ak (n:=(i:Int)+1),ak (n:=37-(i:Int))];show nx ((i:Int)+1,CP 38,ui i++_,_)=nx (((i+1:Nat):Int),CP 38,ui (i+1),_);rw[Qn];rfl;simp only[qM];rw[cC,af];have h38:=Ej 38;have DD:(CP 38).length<=10^9:=by rw[CP,List.length_replicate];omega
 have ho:uk (ui 38) (CP 38) 0=SH:=by unfold uk SH;rw[ari ao8 (Rq 128)];rfl
 have e1:(GN 0).2=((iv 0+64,4,0),(iv 0+64,4,0),((0,0,0,0,0,0,0,0,0,0,0,0,0,0,0,([]:Bytes)),0,0),false,0):=rfl;have hop:=ZH (CP 38,ui 38,yq,[((0,0,0,0),(0,0,0),(0,0,0),((0,0,0,0,0,0,0,0,0,0,0,0,0,0,0,([]:Bytes)),0,0),false,0)],[(0,0,0,([]:bW))],[v.1],[false],f,s,([]:ax Stream),c,([]:bP),([]:bW),([]:bW),0,0,0,0,0) 0 (by omega) (Nat.lt_succ_self 0) (Nat.lt_succ_self 0) (by show(ui 38).length<=_;omega) DD;unfold Tx at hop;simp only[ho,List.set_cons_zero,cD,show((0:Nat):Int)=0 from rfl]at hop;obtain⟨g,hg⟩:∃g,fuel=g+2:=⟨fuel-2,by omega⟩
 unfold S1 anh;rw[e1];generalize iv 0=bb at hop⊢;generalize SH=o at hop⊢;generalize CP 38=m at hop⊢;generalize ui 38=l at hop⊢;rw[hg,bl,py];rw[jI,ah];simp only;rw[aR (by simp),aR (by simp),aR (by simp),aR (by simp)];simp only[cd];rw[hop,ab,bl,py,ak,cC,af]
def ahX:cP:=(([]:ax Host),([]:ax aX),([]:ax bE),([]:bP),(0,0,0,0),([]:bW),([]:bP))
def R9 (st:dT)(c:Bool)(bk:uA)(x:bE)(s:ax Host×ax aX):Except (az (cP×Bool)) (ax Host×ax aX):=
 if(pj x.1 st c 1 2).2=true then .ok (s.1++[(pj x.1 st c 1 2).1],s.2++[((s.2.length:Int),(s.2.length:Int)+1,bk,true,0,0)]) else .error (some (ahX,false))
def xF (ms:ax bE)(st:dT)(c:Bool)(bk:uA)(f:bP)(t:Int):az (cP×Bool):=
 bif (cV ms).2&&(iQ bk&&(!decide (iH f<0)&&so (0,0,t,0))) then
  DR (R9 st c bk) (λs=>some ((s.1,s.2,ms,f,(0,0,t,0),([]:bW),([]:bP)),true)) ms ([],[])
 else some (ahX,false)
theorem ZG (ms:ax bE)(st:dT)(c:Bool)(bk:uA)(f:bP)(t:Int)(hm:ms.length<=10^9)(hx:∀m∈ms,m.1.2.2.length<=10^9)(hf:f.length<=10^9)(h1:st.1.length<=10^9)(h2:st.2.1.length<=10^9)(h3:st.2.2.2.length<=10^9):tV ms st c bk f t=xF ms st c bk f t:=by
 have D5:=eS;unfold tV xF;rw[ZJ ms hx,ab,my];simp only[QU,aku,TP,ab];cases hp:(cV ms).2;rfl;cases iQ bk;rfl;cases decide (iH f<0);case true=>rfl
 cases so (0,0,t,0);rfl;have h3':=Nh hp;simp only[aj,af,ab,gw,bt,ah,cd];refine uY ms (λs i=>(((i:Int),s.1,s.2,ms.take i,f,(0,0,t,0),([]:bW),([]:bP)):Int×cP)) (λi s=>s.1.length=i/\s.2.length=i) (R9 st c bk) _ (by omega) (λi hi s nx hI=>?_) (λi hi s s' hI he=>?_) (λs nx hI=>?_) ([],[]) ⟨rfl,rfl⟩;simp only[vK];rw[jI,ah,br hi,ab,Nn _ st c 1 2 (hx _ (aM hi)) h1 h2 h3,ab];unfold R9;cases hb:(pj ms[i].1 st c 1 2).2 with|false=>rfl|true=>rw[aI rfl];simp only[aj,af];rw[aR (by rw[ba];omega),aR (by rw[ba];omega),ab,N9 _ (hx _ (aM hi)),ab,aR (by rw[ba,aV];omega),ak,hI.2,bc hi];rfl
 unfold R9 at he;split at he;injection he with he;rw[<-he];simp[hI.1,hI.2];cases he;simp only[vK];rw[cC,af,cE]
def Ends (o:az α)(P:α->Prop):Prop:=∃x,o=some x/\P x
theorem Ends.pure {x:α}{P:α->Prop}(h:P x):Ends (some x) P:=⟨x,rfl,h⟩
theorem Ends.bind {o:az α}{P:α->Prop}{k:α->az R}{Q:R->Prop}(h:Ends o P)(hk:∀x,P x->Ends (k x) Q):Ends (aa o k) Q:=by obtain⟨x,rfl,hx⟩:=h;exact hk x hx
theorem Ends.mono {o:az α}{P Q:α->Prop}(h:Ends o P)(hq:∀x,P x->Q x):Ends o Q:=by obtain⟨x,hx,hp⟩:=h;exact⟨x,hx,hq x hp⟩
theorem Ends.cond {c:Bool}{a b:az α}{P:α->Prop}(h1:c=true->Ends a P)(h2:c=false->Ends b P):Ends (cond c a b) P:=by cases c with|true=>exact h1 rfl|false=>exact h2 rfl
theorem Ends.ifn {p:Prop}[Decidable p]{a:az α}{P:α->Prop}(h:¬p)(ha:Ends a P):Ends (if p then none else a) P:=by rw[aG h];exact ha
theorem Ends.room {n:Nat}{k:az α}{P:α->Prop}(h:n<=1073741824)(hk:Ends k P):Ends (room n k) P:=by rw[aR h];exact hk
theorem Ends.of {o:az α}{x:α}{P:α->Prop}(h:o=some x)(hp:P x):Ends o P:=⟨x,h,hp⟩
theorem Ends.iter {σ:Type}{T:(σ->az R)->σ->az R}{Q:R->Prop}(I:σ->Prop)(m:σ->Nat)(hs:∀x nx,I x->(∀y,I y->m y<m x->Ends (nx y) Q)->Ends (T nx x) Q): ∀n x,I x->m x<n->Ends (bl T n x) Q:=by intro n;induction n with|zero=>intro x _ h;omega|succ n ih=>intro x hx hm;rw[bl];exact hs x _ hx λy hy gH=>ih y hy (by omega)
theorem Ends.wC {σ:Type}{T:(σ->az R)->σ->az R}{Q:R->Prop}(I:σ->Prop)(m:σ->Nat){x:σ}(hx:I x)(hm:m x<=1000000000000)(hs:∀x nx,I x->(∀y,I y->m y<m x->Ends (nx y) Q)->Ends (T nx x) Q):Ends (bl T fuel x) Q:=Ends.iter I m hs fuel x hx (by have:=eS;omega)
theorem Ends.idx {xs:ax α}{i:Int}{k:α->az R}{Q:R->Prop}(h0:0<=i)(h1:i<(xs.length:Int))(hk:∀(h:i.toNat<xs.length),Ends (k xs[i.toNat]) Q):Ends (aa (idx xs i) k) Q:=by
 obtain⟨n,rfl⟩:=aD h0;have hn:n<xs.length:=by omega
 rw[br hn,ab];exact hk (by simpa using hn)
abbrev AN:=bW×Int×Int
def Cu (c:AN):Prop:=0<=c.2.1/\c.2.1<=(c.1.length:Int)/\c.1.length<=1048576
theorem ahO (x y:Int)(n:Nat)(hy:(ir y).toNat=n)(hn:n<9223372036854775808):0<=au (BitVec.toNat (ir x&&&ir y))/\au (BitVec.toNat (ir x&&&ir y))<=n:=by
 have h:(ir x&&&ir y).toNat<=n:=by rw[BitVec.toNat_and,hy];exact Nat.and_le_right
 generalize (ir x&&&ir y).toNat=k at h;rw[ak];omega
theorem apm {a:bW}(ha:a.length<=1048576):Ends (Dm a) Cu:=by
 unfold Dm;refine Ends.wC (λx=>0<=x.2/\x.2<=4000) (λx=>(4000-x.2).toNat) ⟨by omega,by omega⟩ (by simp) λx nx hx hn=>?_;unfold CC;refine Ends.bind (P:=λb=>b=true->x.2<(a.length:Int)/\x.2<4000) (Ends.cond (λh=>Ends.pure λh2=>⟨bu h,bu h2⟩) λh=>Ends.pure λh2=>by cases h2) λq hq=>?_;refine Ends.cond (λh=>?_) (λh=>Ends.pure ⟨cR _,by simp,ha⟩);have hq:=hq h;refine Ends.idx hx.1 hq.1 λ_=>hn _ ⟨?_,?_⟩ ?_;all_goals simp only[ak (n:=x.2+1) (by omega) (by omega)]
 all_goals omega
theorem He {c:AN}(h:Cu c):Ends (lE c) λr=>(0<=r.1/\r.1<=255)/\Cu r.2:=by
 unfold lE;refine Ends.ifn (by decide) (Ends.ifn (by decide) (Ends.cond (λh1=>?_) λh1=>?_))
 ·have h1:=bu h1;refine Ends.idx h.1 h1 λ_=>Ends.pure ⟨ahO _ 255 255 rfl (by decide),?_⟩;refine⟨?_,?_,h.2.2⟩;all_goals simp only[ak (n:=c.2.1+1) (by have:=h.1;omega) (by have:=h.2.2;omega)]
  have:=h.1;omega;omega
 exact Ends.pure ⟨ahO _ 255 255 rfl (by decide),h.1,h.2.1,h.2.2⟩
theorem hG {c:AN}(h:Cu c)(hn:0<n:=by omega):Ends (da c n) λr=>(0<=r.1/\r.1<n)/\Cu r.2:=by unfold da;rw[cC];simp only[af];refine Ends.cond (λh1=>?_) λh1=>?_;refine(He h).bind λr hr=>Ends.ifn (by omega) (Ends.pure ⟨⟨Int.tmod_nonneg _ hr.1.1,Int.tmod_lt_of_pos _ hn⟩,hr.2⟩);refine(He h).bind λr2 h2=>(He h2.2).bind λr3 h3=>(He h3.2).bind λr4 h4=>(He h4.2).bind λr5 h5=>Ends.ifn (by omega) (Ends.pure ⟨⟨Int.tmod_nonneg _ ?_,Int.tmod_lt_of_pos _ hn⟩,h5.2⟩);have a2:=h2.1;have a3:=h3.1;have a4:=h4.1;have a5:=h5.1;rw[ak (n:=r2.1*16777216),ak (n:=r3.1*65536),ak (n:=r4.1*256)];rw[ak (n:=r2.1*16777216+r3.1*65536)];rw[ak (n:=r2.1*16777216+r3.1*65536+r4.1*256)];rw[ak];omega
theorem ahQ {c:AN}(h:Cu c)(n:Int):Ends (da c n) λr=>(0<=r.1/\(r.1<n\/r.1=0))/\Cu r.2:=by
 rcases Int.lt_or_le 0 n with hn|hn;exact(hG h hn).mono λr hr=>⟨⟨hr.1.1,Or.inl hr.1.2⟩,hr.2⟩
 unfold da;rw[ar hn];exact Ends.pure ⟨⟨cR _,Or.inr rfl⟩,h⟩
theorem vE {c:AN}(h:Cu c)(n:Int):Ends (gL c n) λr=>Cu r.2:=by unfold gL;exact(ahQ h n).bind λr hr=>Ends.pure hr.2
theorem kK {c:AN}(h:Cu c){l:bW}{P:Int->Prop}(hl:0<l.length)(hp:∀x∈l,P x):Ends (dc c l) λr=>P r.1/\Cu r.2:=by unfold dc;exact(hG h).bind λr hr=>Ends.idx hr.1.1 hr.1.2 λhi=>Ends.pure ⟨hp _ (aM hi),hr.2⟩
theorem HL {c:AN}(h:Cu c)(n:Int):Ends (lF c n) λr=>(r.1.length<=5000/\(0<=n->n<=5000->(r.1.length:Int)=n)/\(n<=0->r.1=[]))/\Cu r.2:=by
 have key:∀v:Int,v<=5000->∀Q:(Bytes×AN)->Prop,(∀x c,((x.length:Int)=v\/(v<=0/\x=[]))->Cu c->Q (aO x,c))->Ends (bl (qQ (λy _ z=>some (aO y,z)) v) fuel (([]:bW),0,c)) Q:=by
  intro v hv Q hQ;refine Ends.wC (λx=>(x.1.length:Int)=x.2.1/\(x.2.1<=v\/x.2.1=0)/\Cu x.2.2) (λx=>(v-x.2.1).toNat) ⟨rfl,Or.inr rfl,h⟩ (by simp;omega) λx nx hx hn=>?_;unfold qQ;refine Ends.cond (λh1=>?_) λh1=>Ends.pure (hQ _ _ ?_ hx.2.2)
  ·have h1:=bu h1;refine(He hx.2.2).bind λr hr=>Ends.room (by simp;omega) (hn _ ⟨?_,?_,hr.2⟩ ?_);all_goals simp only[ak (n:=x.2.1+1) (by omega) (by omega)]
   simp;omega;omega;omega
  have h1:=dN h1;rcases hx.2.1 with h2|h2;exact Or.inl (by omega);rcases Int.lt_or_le 0 v with h3|h3;omega;exact Or.inr ⟨h3,cq (by omega)⟩
 have hb:∀x:bW,(aO x).length=x.length:=λx=>by simp[aO]
 unfold lF;refine Ends.cond (λh1=>?_) λh1=>?_;have h1:=bu h1;refine key 5000 (by omega) _ λx c hx hc=>⟨⟨by rw[hb];rcases hx with hx|hx<;>omega,λ_ _=>by omega,λ_=>by omega⟩,hc⟩
 have h1:=dN h1;refine key n (by omega) _ λx c hx hc=>⟨⟨?_,λh0 _=>?_,λh0=>?_⟩,hc⟩
 rw[hb];rcases hx with hx|hx;omega;rw[hx.2];simp;rw[hb];rcases hx with hx|hx;omega;rw[hx.2];simp;omega;rcases hx with hx|hx;have:x=[]:=cq (by omega);rw[this];rfl;rw[hx.2];rfl
theorem ai8 {c:AN}(h:Cu c):Ends (Bs c) λr=>(167772161<=r.1/\r.1<=167772163)/\Cu r.2:=by unfold Bs;refine(hG h (by decide)).bind λr hr=>Ends.pure ⟨?_,hr.2⟩;have:=hr.1;simp only[ak (n:=167772161+r.1) (by omega) (by omega)];omega
theorem afk {c:AN}(h:Cu c):Ends (zN c) λr=>(0<=r.1/\r.1<=31)/\Cu r.2:=by unfold zN;exact(kK (P:=λx=>0<=x/\x<=31) h (by decide) (by decide)).bind λr hr=>Ends.pure hr
theorem apx {c:AN}(h:Cu c){m:Int}(h0:0<=m)(h1:m<=320):Ends (vQ c m) λr=>(sT r.1=true/\(r.1.2.2.2.2.2.2.2.length:Int)<=m)/\Cu r.2:=by
 unfold vQ;refine(hG h (by decide)).bind λr1 p1=>(hG p1.2 (by decide)).bind λr2 p2=>?_;refine(kK (P:=λx=>0<=x/\x<=4294967295) p2.2 (by simp) ?_).bind λr3 p3=>?_;have:=p2.1;intro x hx;simp only[bS,List.not_mem_nil,or_false]at hx;omega;refine(kK (P:=λx=>0<=x/\x<=4294967295) p3.2 (by decide) (by decide)).bind λr4 p4=>(afk p4.2).bind λr5 p5=>?_;refine(kK (P:=λx=>0<=x/\x<=65535) p5.2 (by decide) (by decide)).bind λr6 p6=>?_;rw[ak (n:=m+1)];refine(hG p6.2).bind λr7 p7=>(HL p7.2 r7.1).bind λr8 p8=>(vE p8.2 4).bind λr9 p9=>?_;have a1:=p1.1;have a7:=p7.1;have a8:=p8.1.2.1 a7.1 (by omega);rw[ak (n:=1000+r1.1)];refine Ends.cond (λ_=>Ends.pure ⟨⟨akl (by omega) (by omega) (by omega),?_⟩,p9⟩) λ_=>Ends.pure ⟨⟨Zw (by omega) (by omega) p3.1 p4.1 p5.1 p6.1 (by omega),?_⟩,p9⟩;all_goals show(r8.1.length:Int)<=m
 all_goals omega
theorem agF {c:AN}(h:Cu c){m:Int}(h0:0<=m)(h1:m<=320):Ends (pC c m) λr=>(dv r.1=true/\(r.1.2.2.2.2.2.2.2.2.2.2.2.2.2.2.2.length:Int)<=m/\(r.1.2.2.2.2.2.2.2.2.1=6\/r.1.2.2.2.2.2.2.2.2.1=17))/\Cu r.2:=by
 unfold pC;refine(kK (P:=λx=>0<=x/\x<=281474976710655) h (by decide) (by decide)).bind λr1 p1=>?_;refine(kK (P:=λx=>0<=x/\x<=281474976710655) p1.2 (by decide) (by decide)).bind λr2 p2=>?_;refine(kK (P:=λx=> -1<=x/\x<=4095) p2.2 (by decide) (by decide)).bind λr3 p3=>?_;refine(kK (P:=λx=>0<=x/\x<=255) p3.2 (by decide) (by decide)).bind λr4 p4=>?_;refine(kK (P:=λx=>0<=x/\x<=65535) p4.2 (by decide) (by decide)).bind λr5 p5=>?_;refine(kK (P:=λx=>0<=x/\x<=255) p5.2 (by decide) (by decide)).bind λr6 p6=>?_;refine(ai8 p6.2).bind λr7 p7=>?_;refine(apx p7.2 (m:=if 128<m then 128 else m) (by split<;>omega) (by split<;>omega)).bind λr8 p8=>?_;have hh:∀g:eX,sT g=true->oI (r1.1,r2.1,r3.1,r4.1,r5.1,r6.1,r7.1,167772161,g)=true:=λg hg=>ai1 p1.1 p2.1 p3.1 p4.1 p5.1 p6.1 (by have:=p7.1;omega) (by omega) hg;have hk:∀g:eX,sT g=true->g.1=6\/g.1=17:=by intro g hg;unfold sT at hg;simp only[ae]at hg;have h2:=hg.2.2.2;cases h17:g.1==17 with|true=>exact Or.inr (by simpa using h17)|false=>rw[h17]at h2;simp only[af,ae]at h2;exact Or.inl (by simpa using h2.1)
 have hl:(r8.1.2.2.2.2.2.2.2.length:Int)<=128/\(r8.1.2.2.2.2.2.2.2.length:Int)<=m:=by have:=p8.1.2;split at this<;>omega
 have short:∀c':AN,Cu c'->Ends (some ((r1.1,r2.1,r3.1,r4.1,r5.1,r6.1,r7.1,(167772161:Int),r8.1),c')) λr:aK×AN=>(dv r.1=true/\(r.1.2.2.2.2.2.2.2.2.2.2.2.2.2.2.2.length:Int)<=m/\(r.1.2.2.2.2.2.2.2.2.1=6\/r.1.2.2.2.2.2.2.2.2.1=17))/\Cu r.2:=by intro c' CJ;refine Ends.pure ⟨⟨?_,hl.2,hk _ p8.1.1⟩,CJ⟩;unfold dv;rw[hh _ p8.1.1,bn];have:decide ((r8.1.2.2.2.2.2.2.2.length:Int)<=128)=true:=ar hl.1;show(decide ((r8.1.2.2.2.2.2.2.2.length:Int)<=128)||_)=true;rw[this,iO]
 refine Ends.cond (λk1=>Ends.cond (λk2=>Ends.cond (λk3=>?_) λ_=>short _ p8.2) λ_=>short _ p8.2) λ_=>short _ p8.2;have k3:=bu k3;refine(vE p8.2 2).bind λr9 p9=>Ends.cond (λ_=>?_) λ_=>short _ p9;rw[ak (n:=m-128),ak (n:=m-128+1)];refine(hG p9).bind λuX p10=>?_;have a10:=p10.1;rw[ak (n:=128+uX.1)];refine(HL p10.2 _).bind λzy p11=>?_;have a11:=p11.1.2.1 (by omega) (by omega);have hs:=agZ p8.1.1 (x:=zy.1) (by omega);refine Ends.pure ⟨⟨?_,by show(zy.1.length:Int)<=m;omega,Or.inl (by simpa using k1)⟩,p11.2⟩;unfold dv;rw[hh _ hs,bn];rw[Pp _ (HG p8.1.1 k1)]at k2;show(_||(r8.1.1==6)&&EL r8.1.2.2.2.2.2.1)=true;rw[k1,k2,bR,hZ]
def Plain (p:aK):Prop:=oI p=true/\p.2.2.2.2.2.2.2.2.2.2.2.2.2.2.2.length<=40
theorem Plain.ok (h:Plain p):dq p=true:=(YX p).2 ⟨h.1,by have:=h.2;omega⟩
theorem KG {c:AN}(h:Cu c):Ends (pC c 40) λr=>Plain r.1/\Cu r.2:=(agF h (by omega) (by omega)).mono λr hr=>⟨⟨by have:=hr.1.1;unfold dv at this;simp only[ae]at this;exact this.1,by have:=hr.1.2.1;omega⟩,hr.2⟩
theorem ajJ {Q:R->Prop}{k0:ax aK->AN->aK->az R}{l:ax aK}{c:AN}(hl:l.length<=1000)(hc:Cu c)(hp:Plain p)(hk:∀c' p',Cu c'->Plain p'->Ends (k0 (l++[p]) c' p') Q):Ends (pE k0 l z n c p) Q:=by
 unfold pE;have hi:=amn (PL hp.1);have hs:=zY hp.1;refine Ends.room (by simp;omega) (Ends.ifn (by decide) (Ends.cond (λh6=>?_) λ_=>hk _ _ hc ⟨D4 (p:=p) hp.1 hi hs,hp.2⟩));have h6:p.2.2.2.2.2.2.2.2.1=6:=by simpa using h6
 refine(vE hc 8).bind λr hr=>Ends.cond (λ_=>Ends.ifn (by decide) (hk _ _ hr ⟨D4 (p:=p) hp.1 hi ?_,hp.2⟩)) λ_=>hk _ _ hr ⟨D4 (p:=p) hp.1 hi hs,hp.2⟩;have k:=ael hs h6;have hlen:p.2.2.2.2.2.2.2.2.2.2.2.2.2.2.2.length<=320:=by have:=hp.2;omega
 exact QN hs h6 (ajW k.2.2.1 hlen) k.2.2.2.2.1 hlen
theorem ajI {Q:R->Prop}{k0:ax aK->AN->aK->az R}{l:ax aK}{c:AN}(hl:l.length<=1000)(hz:1<=z/\z<=40)(hc:Cu c)(hp:Plain p)(hk:∀q c' p',Plain q->Cu c'->Plain p'->Ends (k0 (l++[q]) c' p') Q):Ends (pD k0 l z n c p) Q:=by
 unfold pD;refine Ends.cond (λh6=>?_) λ_=>ajJ hl hc hp λc' p' h1 h2=>hk _ _ _ hp h1 h2;have h6:p.2.2.2.2.2.2.2.2.1=6:=by simpa using h6
 refine(kK (P:=λx=>0<=x/\x<=31) hc (by decide) (by decide)).bind λr8 p8=>(HL p8.2 z).bind λr9 p9=>?_;have a9:=p9.1.2.1 (by omega) (by omega);have hs:=zY hp.1;have hq:Plain (p.1,p.2.1,p.2.2.1,p.2.2.2.1,p.2.2.2.2.1,p.2.2.2.2.2.1,p.2.2.2.2.2.2.1,p.2.2.2.2.2.2.2.1,p.2.2.2.2.2.2.2.2.1,p.2.2.2.2.2.2.2.2.2.1,p.2.2.2.2.2.2.2.2.2.2.1,p.2.2.2.2.2.2.2.2.2.2.2.1,p.2.2.2.2.2.2.2.2.2.2.2.2.1,r8.1,p.2.2.2.2.2.2.2.2.2.2.2.2.2.2.1,r9.1):=⟨D4 hp.1 (PL hp.1) (QN hs h6 (ael hs h6).2.2.1 p8.1 (by omega)),by show r9.1.length<=40;omega⟩
 exact ajJ hl p9.2 hq λc' p' h1 h2=>hk _ _ _ hq h1 h2
theorem anl {Q:R->Prop}{k0:ax aK->Int->AN->aK->az R}{l:ax aK}{c:AN}(hl:l.length<=1000)(hz:1<=z/\z<=40)(hc:Cu c)(hp:Plain p)(hk:∀q z' c' p',Plain q->(1<=z'/\z'<=40)->Cu c'->Plain p'->Ends (k0 (l++[q]) z' c' p') Q):Ends (qS k0 l z n c p) Q:=by unfold qS;refine(vE hc 6).bind λr6 p6=>Ends.cond (λ_=>?_) λ_=>ajI hl hz p6 hp λq c' p' h1 h2 h3=>hk _ _ _ _ h1 hz h2 h3;refine(hG p6 (by decide)).bind λr7 p7=>?_;have a7:=p7.1;rw[ak (n:=1+r7.1)];exact ajI hl (by omega) p7.2 hp λq c' p' h1 h2 h3=>hk _ _ _ _ h1 (by omega) h2 h3
theorem aq8 {Q:R->Prop}{k0:ax aK->Int->Int->AN->aK->az R}{l:ax aK}{c:AN}(hl:l.length<=1000)(hz:1<=z/\z<=40)(hn:0<n/\n<=1000)(hc:Cu c)(hp:Plain p)(hk:∀q z' c' p',Plain q->(1<=z'/\z'<=40)->Cu c'->Plain p'->Ends (k0 (l++[q]) z' (n-1) c' p') Q):Ends (vR k0 l z n c p) Q:=by unfold vR;have e:au (n-1)=n-1:=ak;refine(vE hc 5).bind λr4 p4=>Ends.cond (λ_=>?_) λ_=>?_;refine(KG p4).bind λr5 p5=>anl hl hz p5.2 p5.1 λq z' c' p' h1 h2 h3 h4=>?_;unfold qR;rw[e];exact hk _ _ _ _ h1 h2 h3 h4;refine anl hl hz p4 hp λq z' c' p' h1 h2 h3 h4=>?_;unfold qR;rw[e];exact hk _ _ _ _ h1 h2 h3 h4
theorem amk {c:AN}(h:Cu c){m:Int}(h0:0<m)(h1:m<=100):Ends (Bt c m) λr=>((∀p∈r.1,Plain p)/\0<r.1.length/\(r.1.length:Int)<=m)/\Cu r.2:=by unfold Bt;refine(KG h).bind λr1 p1=>(hG p1.2 (by decide)).bind λr2 p2=>(hG p2.2 h0).bind λr3 p3=>?_;have a2:=p2.1;have a3:=p3.1;rw[ak (n:=r2.1*8),ak (n:=8+r2.1*8),ak (n:=1+r3.1)];refine Ends.wC (λx=>(∀p∈x.1,Plain p)/\(1<=x.2.1/\x.2.1<=40)/\0<=x.2.2.1/\(x.1.length:Int)+x.2.2.1=1+r3.1/\Cu x.2.2.2.1/\Plain x.2.2.2.2) (λx=>x.2.2.1.toNat) ⟨by simp,(by dsimp only;omega),(by dsimp only;omega),by simp,p3.2,p1.1⟩ (by simp;omega) λx nx hx hn=>?_;unfold AF;refine Ends.cond (λk=>?_) λk=>?_;have k:=bu k;refine aq8 (by omega) hx.2.1 (by omega) hx.2.2.2.2.1 hx.2.2.2.2.2 λq z' c' p' h1 h2 h3 h4=>hn _ ⟨?_,h2,?_,?_,h3,h4⟩ ?_;intro y hy;rcases ay.1 hy with hy|hy;exact hx.1 y hy;simp only[bz]at hy;rw[hy];exact h1;show 0<=x.2.2.1-1;omega;show((x.1++[q]).length:Int)+(x.2.2.1-1)=1+r3.1;have:=hx.2.2.2.1;simp;omega;show(x.2.2.1-1).toNat<x.2.2.1.toNat;omega;have k:=dN k;have:=hx.2.2.2.1;have:=hx.2.2.1;exact Ends.pure ⟨⟨hx.1,(by dsimp only;omega),(by dsimp only;omega)⟩,hx.2.2.2.2.1⟩
theorem ao5 {c:AN}(h:Cu c):Ends (Dp c) λr=>r.1.length=16/\Cu r.2:=by unfold Dp;exact(HL h 16).bind λr hr=>Ends.pure ⟨by have:=hr.1.2.1 (by omega) (by omega);omega,hr.2⟩
structure CR (s:dT):Prop where
 r:s.1.length<=100
 t:s.2.1.length<=100
 k:s.2.2.1.length=16
 p:s.2.2.2.length<=100
theorem Xd {c:AN}(h:Cu c):Ends (ya c) λr=>(r.1.1=2/\(r.1.2.2=[7]\/r.1.2.2=[]))/\Cu r.2:=by unfold ya;exact(vE h 4).bind λr1 p1=>(vE p1 2).bind λr2 p2=>Ends.cond (λ_=>Ends.pure ⟨⟨rfl,Or.inl rfl⟩,p2⟩) λ_=>Ends.pure ⟨⟨rfl,Or.inr rfl⟩,p2⟩
theorem ao6:gz (ui 38)=true:=by decide+kernel
def FF (f:Filter)(s:dT)(c:Bool):ax Vector->Host
 |[]=>S1 f s c 38
 |v::vs=>Tx ((FF f s c vs).1,(FF f s c vs).2.1,(FF f s c vs).2.2.1,(FF f s c vs).2.2.2.1++[((0,0,0,0),(0,0,0),(0,0,0),((0,0,0,0,0,0,0,0,0,0,0,0,0,0,0,([]:Bytes)),0,0),false,0)],(FF f s c vs).2.2.2.2.1++[(0,0,0,([]:bW))],(FF f s c vs).2.2.2.2.2.1++[v],(FF f s c vs).2.2.2.2.2.2.1++[false],(FF f s c vs).2.2.2.2.2.2.2) vs.length
def ah0 (h:Host):=(h.1,h.2.1,h.2.2.1,h.2.2.2.1,h.2.2.2.2.1,h.2.2.2.2.2.1,h.2.2.2.2.2.2.1)
structure Made (f:Filter) (s:dT) (c:Bool) (k:Nat) (h:Host):Prop where
 mem:de h.1=true
 ml:h.1.length=38
 maps:h.2.1=ui 38
 tx:h.2.2.1=yq
 rx:h.2.2.2.1.length=k
 rxs:∀r∈h.2.2.2.1,CM 0 r/\r.2.2.2.2.1=false
 pl:h.2.2.2.2.1.length=k
 pls:∀p∈h.2.2.2.2.1,ee p=true/\p.2.2.2.length<=1000
 vec:h.2.2.2.2.2.1.length=k
 Z5:∀v∈h.2.2.2.2.2.1,fB v=true
 pol:h.2.2.2.2.2.2.1.length=k
 rest:h.2.2.2.2.2.2.2=(f,s,([]:List Stream),c,([]:List Bytes),([]:List Int),([]:List Int),0,0,0,0,0)
 is:∃vs,vs.length=k/\h=FF f s c vs/\∀v∈vs,v.2.1<=3/\v.2.2.2.2.1=false
theorem ZB (l:ax α)(x y:α):(l++[x]).set l.length y=l++[y]:=by simp
theorem aml {n:Nat}(h:n<=64):de (CP n)=true:=rh.2 ⟨λx hx=>by rw[(List.mem_replicate.1 hx).2];exact HN 128,by simp[CP];exact h⟩
theorem agc {f:Filter}{s:dT}{c:Bool}(m:Made f s c k h)(hk:k<=8)(hv:fB v=true)(h3:v.2.1<=3/\v.2.2.2.2.1=false):Ends (yc (h.1,h.2.1,h.2.2.1,h.2.2.2.1++[((0,0,0,0),(0,0,0),(0,0,0),((0,0,0,0,0,0,0,0,0,0,0,0,0,0,0,([]:Bytes)),0,0),false,0)],h.2.2.2.2.1++[(0,0,0,([]:bW))],h.2.2.2.2.2.1++[v],h.2.2.2.2.2.2.1++[false],h.2.2.2.2.2.2.2) (k:Int)) λr=>Made f s c (k+1) r.2:=by
 refine Ends.of (ZH _ k hk (by simp[m.rx]) (by simp[m.pl]) (by show h.2.1.length<=_;rw[m.maps,Ej];omega) (by show h.1.length<=_;rw[m.ml];omega)) ?_;have o:=Ty m.mem h.2.1 hk;have e1:(h.2.2.2.1++[(((0,0,0,0),(0,0,0),(0,0,0),((0,0,0,0,0,0,0,0,0,0,0,0,0,0,0,([]:Bytes)),0,0),false,0):cA)])[k]?=some ((0,0,0,0),(0,0,0),(0,0,0),((0,0,0,0,0,0,0,0,0,0,0,0,0,0,0,([]:Bytes)),0,0),false,0):=by rw[<-m.rx];simp
 have e2:∀y:cA,(h.2.2.2.1++[(((0,0,0,0),(0,0,0),(0,0,0),((0,0,0,0,0,0,0,0,0,0,0,0,0,0,0,([]:Bytes)),0,0),false,0):cA)]).set k y=h.2.2.2.1++[y]:=λy=>by rw[<-m.rx];exact ZB _ _ _
 have e3:∀y:dB,(h.2.2.2.2.1++[(((0,0,0,([]:bW))):dB)]).set k y=h.2.2.2.2.1++[y]:=λy=>by rw[<-m.pl];exact ZB _ _ _
 obtain⟨vs,vl,ve,vb⟩:=m.is;have is0:Tx (h.1,h.2.1,h.2.2.1,h.2.2.2.1++[((0,0,0,0),(0,0,0),(0,0,0),((0,0,0,0,0,0,0,0,0,0,0,0,0,0,0,([]:Bytes)),0,0),false,0)],h.2.2.2.2.1++[(0,0,0,([]:bW))],h.2.2.2.2.2.1++[v],h.2.2.2.2.2.2.1++[false],h.2.2.2.2.2.2.2) k=FF f s c (v::vs):=by rw[FF,<-ve,vl]
 unfold Tx at is0⊢;simp only[e1,e2,e3]at is0⊢;have hp:(uk h.2.1 h.1 k).2.2.1.2.2.2.length<=1000:=by unfold uk;exact bp (IL ..) (ql _ _ _)
 refine⟨o.1,?_,m.maps,m.tx,by show(_++[_]).length=_;rw[ai,m.rx];rfl,?_,by show(_++[_]).length=_;rw[ai,m.pl];rfl,?_,by show(_++[_]).length=_;rw[ai,m.vec];rfl,?_,by show(_++[_]).length=_;rw[ai,m.pol];rfl,m.rest,⟨v::vs,by simp[vl],is0,λw hw=>?_⟩⟩;show(uk h.2.1 h.1 k).1.length=38;rw[Tw,m.ml];intro r hr;rcases ay.1 hr with hr|hr;exact m.rxs r hr;rw[bz.1 hr];exact⟨Zv hk o.2.1 ⟨cR _,cR _⟩,rfl⟩;intro p hp';rcases ay.1 hp' with hp'|hp';exact m.pls p hp';rw[bz.1 hp'];exact⟨o.2.2,hp⟩;intro w hw;rcases ay.1 hw with hw|hw;exact m.Z5 w hw;rw[bz.1 hw];exact hv;rcases bS.1 hw with e|e;rw[e];exact h3;exact vb w e
def awc (h:Host):dT:=h.2.2.2.2.2.2.2.2.1
structure Mz (h:Host):Prop where
 PA:Good 0 h
 sz:BW 2000 h
 maps:∀m∈h.2.1,m.2.2.1<(h.1.length:Int)
 xE:h.2.2.1.2.2.1=[]/\h.2.2.2.2.2.2.2.2.2.2.2.1=[]/\h.2.2.2.2.2.2.2.2.2.2.2.2.1=[]/\h.2.2.2.2.2.2.2.2.2.2.2.2.2.1=[]
 is:∃f s c vs,vs.length<=2/\ah0 h=ah0 (FF f s c vs)/\∀v∈vs,v.2.1<=3/\v.2.2.2.2.1=false
theorem acg {f:Filter}{s:dT}{c:Bool}(m:Made f s c k h)(hk:1<=k/\k<=2)(hf:fj f=true)(CN:f.2.2.length<=1000)(hs:fE s (k:Int)=true)(hz:CR s):Mz h:=by have h4:=ql 256 128 8;obtain⟨vs,vl,ve,vb⟩:=m.is;obtain⟨m1,m2,m3,m4,m5,m6,m7,m8,m9,m10,m11,m12,_⟩:=m;obtain⟨mem,maps,tx,rx,pl,vec,pol,rest⟩:=h;simp only at m1 m2 m3 m4 m5 m6 m7 m8 m9 m10 m11 m12;subst m12 m3 m4;refine⟨⟨m1,ao6,alc 0 (by omega),hf,?_,by show fE s (rx.length:Int)=true;rw[m5];exact hs,λr hr=>(m6 r hr).1,λp hp=>(m8 p hp).1,m10,?_⟩,⟨?_,?_⟩,?_,⟨rfl,rfl,rfl,rfl⟩,⟨f,s,c,vs,by omega,congrArg ah0 ve,vb⟩⟩;unfold uh;simp only[ae,aS,bg];omega;intro x hx;simp only[jk,bS,List.not_mem_nil,or_false,or_self]at hx;omega;have hm:=(rh.1 m1).1;refine⟨⟨by show mem.length<=2000;omega,λx hx=>by show x.length<=2000;rw[hm x hx];omega⟩,⟨by show(ui 38).length<=2000;rw[Ej];omega,λ_ _=>⟨cB,cB,cB,cB⟩⟩,?_,?_,?_,?_,?_,⟨cB,cB,by show f.2.2.length<=2000;omega,λ_ _=>trivial⟩,?_,⟨cg _,λx hx=>by cases hx⟩,cB,⟨cg _,λx hx=>by cases hx⟩,⟨cg _,λx hx=>by cases hx⟩,⟨cg _,λx hx=>by cases hx⟩,cB,cB,cB,cB,cB⟩;exact⟨⟨cB,cB,cB,cB⟩,⟨cB,cB,cB,by show List.length (iK 256 128 8).1.2.2.2<=2000;omega,λ_ _=>trivial⟩,⟨cg _,λx hx=>by cases hx⟩,cB⟩;refine⟨by show rx.length<=2000;omega,λx hx=>?_⟩;have e:=(m6 x hx).1.free (m6 x hx).2;refine⟨⟨cB,cB,cB,cB⟩,⟨cB,cB,cB⟩,⟨cB,cB,cB⟩,?_,cB,cB⟩;rw[e];exact⟨⟨cB,cB,cB,cB,cB,cB,cB,cB,cB,cB,cB,cB,cB,cB,cB,cg _⟩,cB,cB⟩;exact⟨by show pl.length<=2000;omega,λx hx=>⟨cB,cB,cB,by have:=(m8 x hx).2;show x.2.2.2.length<=2000;omega,λ_ _=>trivial⟩⟩;exact⟨by show vec.length<=2000;omega,λx hx=>⟨cB,cB,cB,cB,cB,cB⟩⟩;exact⟨by show pol.length<=2000;omega,λx hx=>trivial⟩;exact⟨⟨by have:=hz.r;show s.1.length<=2000;omega,λ_ _=>⟨cB,cB,cB,cB,cB,cB,cB,cB,cB⟩⟩,⟨by have:=hz.t;show s.2.1.length<=2000;omega,λ_ _=>⟨cB,⟨cB,cB,cB,cB,cB⟩,cB⟩⟩,by have:=hz.k;show s.2.2.1.length<=2000;omega,by have:=hz.p;show s.2.2.2.length<=2000;omega,λ_ _=>trivial⟩;show List.length (iK 256 128 8).1.2.2.2+0<=2000;omega;intro m hm;have hm:m∈ui 38:=hm;simp only[ui,eG,bB]at hm;obtain⟨i,hi,rfl⟩:=hm;show 37-(i:Int)<(mem.length:Int);omega
theorem agv {a b:Int}(h:(sP a b).2=true):fB (sP a b).1=true:=by unfold sP at h⊢;cases hv:fB (a,b,0,0,false,false)with|false=>rw[hv]at h;cases h|true=>exact hv
theorem ajV {a b:Int}(h:(sP a b).2=true)(hb:b<=3):(sP a b).1.2.1<=3/\(sP a b).1.2.2.2.2.1=false:=by unfold sP at h⊢;cases hv:fB (a,b,0,0,false,false)with|false=>rw[hv]at h;cases h|true=>exact⟨hb,rfl⟩
theorem acu (q:Int)(f:Filter)(s:dT)(c:Bool)(a b:Int)(hf:f.2.2.length<=1000)(hs:CR s)(hb3:b<=3):Ends (tW q f s c a b) λr=>(r.2=true->Mz r.1/\awc r.1=s)/\((1<=q/\q<=2)->fj f=true->fE s q=true->(sP a b).2=true->r.2=true):=by
 have z1:=hs.r;have z2:=hs.t;have z3:=hs.p;unfold tW;rw[QY,ab,dQ,ab];refine Ends.bind (P:=λx=>(x=false->(1<=q/\q<=2)/\fj f=true/\fE s q=true/\(sP a b).2=true)/\(x=true->(1<=q/\q<=2)->fj f=true->fE s q=true->(sP a b).2=true->False)) ?_ λx hx=>Ends.cond (λhx2=>Ends.pure ⟨(λh=>by cases h),λg1 g2 g3 g4=>(hx.2 hx2 g1 g2 g3 g4).elim⟩) λh=>?_;refine Ends.cond (λk=>Ends.pure ⟨(λh=>by cases h),λ_ g1 _ _ _=>by rw[aS.2 g1]at k;cases k⟩) λh1=>?_;rw[Fb f (by omega),ab];refine Ends.cond (λk=>Ends.pure ⟨(λh=>by cases h),λ_ _ g2 _ _=>by rw[g2]at k;cases k⟩) λh2=>?_;rw[KX s q (by omega) (by omega) (by omega),ab];refine Ends.cond (λk=>Ends.pure ⟨(λh=>by cases h),λ_ _ _ g3 _=>by rw[g3]at k;cases k⟩) λh3=>Ends.pure ⟨λh4=>?_,λk _ _ _ g4=>by rw[g4]at k;cases k⟩;exact⟨aS.1 (by simpa using h1),by simpa using h2,by simpa using h3,by simpa using h4⟩;obtain⟨hq,h1,h2,h3⟩:=hx.1 h;have hm:pA 38=some (CP 38):=QX 38;rw[hm,ab,TT,ab,CA f (by omega),ab,Ir s (by omega) (by omega) (by omega),ab];have hv:=agv h3;refine Ends.wC (λx=>0<=x.1/\x.1<=38/\x.2=S1 f s c x.1.toNat) (λx=>(38-x.1).toNat) ⟨by simp,by simp,rfl⟩ (by simp) λx nx hx hn=>?_;obtain⟨i,y⟩:=x;obtain⟨x1,x2,x3⟩:=hx;simp only at x1 x2 x3;unfold qM;refine Ends.cond (λk=>?_) λk=>?_;have k:=bu k;have hl:=Ej i.toNat;simp only at k;rw[dQ,ab];simp only;rw[ak (n:=i+1),ak (n:=37-i)];subst x3;refine Ends.room (by show(ui i.toNat).length+1<=_;omega) (hn _ ⟨by show 0<=i+1;omega,by show i+1<=38;omega,?_⟩ (by show(38-(i+1)).toNat<(38-i).toNat;omega));have e:(i+1).toNat=i.toNat+1:=by omega
 show(CP 38,ui i.toNat++_,_)=S1 f s c (i+1).toNat;rw[e];unfold S1;rw[Qn,show((i.toNat:Nat):Int)=i by omega];have k:=dN k;simp only at k;have e:i.toNat=38:=by omega
 rw[e]at x3;have hm0:Made f s c 0 y:=by rw[x3];exact⟨aml (by omega),by show(CP 38).length=38;simp[CP],rfl,rfl,rfl,(λ_ hr=>by cases hr),rfl,(λ_ hr=>by cases hr),rfl,(λ_ hr=>by cases hr),rfl,rfl,⟨[],rfl,rfl,λ_ hv=>by cases hv⟩⟩
 simp only;refine Ends.wC (λx=>0<=x.1/\x.1<=q/\Made f s c x.1.toNat x.2) (λx=>(q-x.1).toNat) ⟨by simp,by show(0:Int)<=q;omega,hm0⟩ (by simp;omega) λx nx hx hn=>?_;obtain⟨i,y⟩:=x;obtain⟨x1,x2,m⟩:=hx;simp only at x1 x2 m;unfold py;refine Ends.cond (λk=>?_) λk=>Ends.pure ⟨λ_=>?_,λ_ _ _ _=>rfl⟩;have k:=bu k;simp only at k;have l1:=m.rx;have l2:=m.pl;have l3:=m.vec;have l4:=m.pol;refine Ends.room (by simp;omega) (Ends.room (by simp;omega) (Ends.room (by simp;omega) (Ends.room (by simp;omega) ?_)));have ho:=agc m (by omega) hv (ajV h3 hb3);rw[show((i.toNat:Nat):Int)=i by omega]at ho;refine ho.bind λr hr=>?_;simp only;rw[ak (n:=i+1)];refine hn _ ⟨by show 0<=i+1;omega,by show i+1<=q;omega,?_⟩ (by show(q-(i+1)).toNat<(q-i).toNat;omega);show Made f s c (i+1).toNat r.2;rw[show(i+1).toNat=i.toNat+1 by omega];exact hr;have k:=dN k;simp only at k;have hi:i=q:=by omega
 subst hi;exact⟨acg m (by omega) h1 hf (by rw[show((i.toNat:Nat):Int)=i by omega];exact h2) hs,congrArg (λx=>x.2.1) m.rest⟩
def anG (a:Act):Prop:=a.2.1.2.2.2.2.2.2.2.2.2.2.2.2.2.2.2.length<=1000/\a.2.2.2.2.1.length<=382/\0<=a.1/\a.1<=6
theorem Kw (n x:Int)(h0:0<=n:=by omega)(h1:n<=1000000:=by omega):Ends (gK n x) λr=>(r.length:Int)=n:=by unfold gK;rw[aI ⟨h0,cR _⟩];refine Ends.room (by omega) (Ends.wC (λy=>(y.1.length:Int)=n/\0<=y.2/\y.2<=n) (λy=>(n-y.2).toNat) ⟨by simp;omega,by simp,h0⟩ (by simp;omega) λy nx hy hn=>?_);unfold qP;refine Ends.cond (λk=>?_) λk=>Ends.pure (by simp[aO];exact hy.1);have k:=bu k;rw[ak (n:=y.2+1)];refine Ends.idx hy.2.1 (by omega) λ_=>Ends.idx hy.2.1 (by omega) λ_=>hn _ ⟨?_,?_,?_⟩ ?_;show((List.set _ _ _).length:Int)=n;rw[aC];exact hy.1;show 0<=y.2+1;omega;show y.2+1<=n;omega;show(n-(y.2+1)).toNat<(n-y.2).toNat;omega
theorem M8:vf=some (List.replicate 8 (0,(0,0,0,0,0),0)):=by unfold vf;rw[aI (by decide),aR (by decide)];rfl
theorem ab6 {k:Bytes}(hk:k.length=16):fE (([]:ax nK),List.replicate 8 (0,(0,0,0,0,0),0),k,[0]) 1=true:=by
 have ht:uz (List.replicate 8 (0,(0,0,0,0,0),0))=true:=by decide+kernel
 have hs:ue (k,[0]) 1=true:=by unfold ue;simp only[hk];decide+kernel
 unfold fE;rw[show AD ([]:ax nK)=true from rfl,ht,hs];rfl
structure aeN (k:Int) (b:bE):Prop where
 Ii:b.1.1=k
 vl:b.1.2.2=[7]\/b.1.2.2=[]
 last:0<=b.2.1/\b.2.1<=4
 done:0<=b.2.2.2/\b.2.2.2<=3
theorem an4 {c:AN}(h:Cu c):Ends (Dq c) λr=>((r.1.1.2.2=[7]\/r.1.1.2.2=[])/\(0<=r.1.2.1/\r.1.2.1<=4)/\0<=r.1.2.2.2/\r.1.2.2.2<=3)/\Cu r.2:=by unfold Dq;refine(Xd h).bind λr1 p1=>(hG p1.2 (by decide)).bind λr2 p2=>(hG p2.2 (by decide)).bind λr3 p3=>(hG p3.2 (by decide)).bind λr4 p4=>Ends.pure ⟨⟨p1.1.2,?_,?_⟩,p4.2⟩;have:=p2.1;show 0<=r2.1/\r2.1<=4;omega;have:=p4.1;show 0<=r4.1/\r4.1<=3;omega
theorem Xx {P:Nat->α->Prop}{l:ax α}{a:α}(h:∀i b,l[i]?=some b->P i b)(ha:P l.length a):∀i b,(l++[a])[i]?=some b->P i b:=by
 intro i b hb;rcases cr i l.length with hi|hi;rw[bF hi]at hb;exact h i b hb;rw[bA hi]at hb;obtain⟨hj,hb⟩:=aA.1 hb;have e:i=l.length:=by simp at hj;omega
 subst e;simp at hb;rw[<-hb];exact ha
theorem ahV {c:AN}(h:Cu c):Ends (zR c) λr=>((1<=r.1.length/\r.1.length<=3)/\∀(i:Nat)(b:bE),r.1[i]?=some b->aeN (2*((i:Int)+1)) b)/\Cu r.2:=by unfold zR;refine(hG h (n:=3) (by decide)).bind λr1 p1=>?_;have hp:=p1.1;rw[ak (n:=1+r1.1)];refine Ends.wC (λx=>0<=x.2.1/\(x.1.length:Int)+x.2.1=1+r1.1/\(∀(i:Nat)(b:bE),x.1[i]?=some b->aeN (2*((i:Int)+1)) b)/\Cu x.2.2) (λx=>x.2.1.toNat) ⟨by show 0<=1+r1.1;omega,by simp,by intro i b hb;simp at hb,p1.2⟩ (by show(1+r1.1).toNat<=_;omega) λx nx hx hn=>?_;obtain⟨l,n,c'⟩:=x;obtain⟨x1,x2,x3,x4⟩:=hx;simp only at x1 x2 x3 x4;unfold yN;refine Ends.cond (λk=>?_) λk=>?_;have k:=bu k;simp only at k⊢;refine(an4 x4).bind λr2 p2=>Ends.room (by simp;omega) ?_;rw[ak (n:=(l.length:Int)+1),ak (n:=2*((l.length:Int)+1)),ak (n:=n-1)];refine hn _ ⟨by show 0<=n-1;omega,by show((l++[_]).length:Int)+(n-1)=_;simp;omega,Xx x3 ⟨rfl,p2.1.1,p2.1.2.1,p2.1.2.2⟩,p2.2⟩ (by show(n-1).toNat<n.toNat;omega);have k:=dN k;simp only at k⊢;exact Ends.pure ⟨⟨⟨by show 1<=l.length;omega,by show l.length<=3;omega⟩,x3⟩,x4⟩
theorem afB {v:Int}{b:Bytes}:(eC v b).1.length<=96:=by unfold eC;cases hq:db v 0 1000000&&decide (b.length<=84)with|false=>simp|true=>simp only[ae,aE]at hq;show(Vs v b).length<=96;unfold Vs;have h4:∀v,(dh v).length<=4:=dS;have a:=h4 v;have b1:=h4 (b.length:Int);have c:=h4 (ME ((dh v++dh (b.length:Int))++b));simp only[ai];omega
theorem PY {c:AN}(h:Cu c):Ends (vj c) λr=>r.1.length<=96/\Cu r.2:=by unfold vj;refine(kK (P:=λ_=>True) h (by decide) (by simp)).bind λr1 p1=>(hG p1.2 (by decide)).bind λr2 p2=>(HL p2.2 r2.1).bind λr3 p3=>?_;rw[QW _ _ (by have:=p3.1.1;omega),ab];exact Ends.pure ⟨afB,p3.2⟩
theorem abl {c:AN}(h:Cu c):Ends (zP c) λr=>(r.1.length=2/\∀x∈r.1,x.length=96)/\Cu r.2:=by
 unfold zP;refine Ends.wC (λx=>0<=x.1/\x.1<=2/\(x.2.2.length:Int)=x.1/\(∀y∈x.2.2,y.length=96)/\Cu x.2.1) (λx=>(2-x.1).toNat) ⟨by simp,by simp,by simp,by simp,h⟩ (by simp) λx nx hx hn=>?_;obtain⟨i,c',l⟩:=x;obtain⟨x1,x2,x3,x4,x5⟩:=hx;simp only at x1 x2 x3 x4 x5;unfold yJ;refine Ends.cond (λk=>?_) λk=>?_;have k:=bu k;simp only at k⊢;refine(PY x5).bind λr1 p1=>(vE p1.2 _).bind λr2 p2=>?_;have fin:∀(s t:Bytes)(c2:AN),s.length+t.length=96->Cu c2->Ends (Go.Dn.room (List.length s+List.length t) (Go.Dn.room (List.length l+List.length [(s++t)]) (nx (au (i+1),c2,l++[(s++t)])))) (λr=>(r.1.length=2/\∀x∈r.1,x.length=96)/\Cu r.2):=by intro s t c2 hs hc;refine Ends.room (by omega) (Ends.room (by simp;omega) ?_);rw[ak (n:=i+1)];refine hn _ ⟨by show 0<=i+1;omega,by show i+1<=2;omega,by show((l++[_]).length:Int)=i+1;simp;omega,?_,hc⟩ (by show(2-(i+1)).toNat<(2-i).toNat;omega);intro y hy;rcases ay.1 hy with hy|hy;exact x4 y hy;rw[bz.1 hy,ai];exact hs
 refine Ends.cond (λ_=>?_) λ_=>?_;refine(HL p2 30).bind λr3 p3=>?_;have e:=p3.1.2.1 (by omega) (by omega);rw[ak (n:=96-(r3.1.length:Int))];exact(Kw _ 255).bind λr4 p4=>fin _ _ _ (by omega) p3.2;have e:=p1.1;rw[ak (n:=96-(r1.1.length:Int))];exact(Kw _ 255).bind λr4 p4=>fin _ _ _ (by omega) p2;have k:=dN k;simp only at k⊢;exact Ends.pure ⟨⟨by show l.length=2;omega,x4⟩,x5⟩
theorem Sa {f:Filter}{s:dT}{c:Bool}{a b:Int}(hf:f.2.2.length<=1000)(hs:CR s)(hb3:b<=3)(h:(pj f s c a b).2=true):Mz (pj f s c a b).1/\(pj f s c a b).1.2.2.2.2.2.2.2.1=f:=by refine⟨?_,?_⟩;obtain⟨x,e,hx⟩:=acu 1 f s c a b hf hs hb3;rw[Nn f s c a b (by omega) (by have:=hs.r;omega) (by have:=hs.t;omega) (by have:=hs.p;omega)]at e;have e:=bN e;rw[e]at h⊢;exact(hx.1 h).1;unfold pj at h⊢;cases hq:fj f&&(fE s 1&&(sP a b).2)with|true=>rfl|false=>rw[hq]at h;cases h
def Cq (bk:uA)(n:Nat):ax aX:=(range n).map λ(i:Nat)=>((i:Int),(i:Int)+1,bk,true,0,0)
theorem Cr (bk:uA)(n:Nat):(Cq bk n).length=n:=by simp[Cq]
theorem YV (bk:uA)(n:Nat):Cq bk (n+1)=Cq bk n++[((n:Int),(n:Int)+1,bk,true,0,0)]:=by simp[Cq,gZ]
theorem E2 (bk:uA){n:Nat}(h:i<n:=by omega):(Cq bk n).getD i HR=((i:Int),(i:Int)+1,bk,true,0,0):=by rw[cu (by rw[Cr];exact h)];simp[Cq]
structure HV (c:cP):Prop where
 um:(cV c.2.2.1).2=true
 box:∀(i:Nat)(b:bE),c.2.2.1[i]?=some b->aeN (2*((i:Int)+1)) b
 len:c.1.length=c.2.2.1.length
 host:∀(i:Nat)(h:Host)(b:bE),c.1[i]?=some h->c.2.2.1[i]?=some b->Mz h/\h.2.2.2.2.2.2.2.1=b.1
 fns:∃bk,iQ bk=true/\c.2.1=Cq bk c.2.2.1.length
 flash:c.2.2.2.1.length=2/\∀x∈c.2.2.2.1,x.length=96
 NR:¬iH c.2.2.2.1<0
 clock:so c.2.2.2.2.1=true
 rest:c.2.2.2.2.2=(([]:List Int),([]:List Bytes))
theorem HV.PA (d:HV c):gv 4 c:=by
 obtain⟨bk,hb,hf⟩:=d.fns;have p:=jO d.um;refine⟨d.um,⟨d.len,by rw[hf,Cr]⟩,?_,d.NR,d.clock,λi h b h1 h2=>⟨(d.host i h b h1 h2).1.PA.mono,(d.host i h b h1 h2).2⟩,?_,?_,?_⟩;unfold iy;rw[p.1,p.2.2.1,bn,aF,hf,Cr];intro i hi;have hi:=bB.1 hi;unfold fnB;rw[E2 bk hi,p.2.1,ae];refine⟨?_,?_⟩;unfold FB;simp only[hb,ae,aS,bn];rw[ak];push_cast;refine⟨⟨by omega,by omega⟩,⟨by omega,by omega⟩,⟨by decide,by decide⟩,by decide,by decide⟩;rw[aF];intro j hj;have hj:=bB.1 hj;rw[E2 bk];unfold afn;simp only[aN,cn,cv,ne_eq];omega;intro i hi;unfold AB;rw[hf,E2 bk (by rw[<-d.len];exact hi)];simp;·intro b hb;obtain⟨i,hi⟩:=gx hb;have q:=d.box i b hi;exact⟨q.last.2,by have:=q.done.2;omega⟩
 intro f hh;rw[hf]at hh;simp only[Cq,eG]at hh;obtain⟨i,_,rfl⟩:=hh;exact⟨by show(0:Int)<=4;omega,by show(0:Int)<=4;omega⟩
theorem ad9 (hs:CR st){bk:uA}{t:Int}(hm:∀m∈ms,m.1.2.2.length<=1000):∀(l:ax bE)(k:Nat)(s:ax Host×ax aX),k<=ms.length->ms.drop k=l->s.1.length=k->s.2=Cq bk k->(∀(i:Nat)(h:Host)(b:bE),s.1[i]?=some h->ms[i]?=some b->Mz h/\h.2.2.2.2.2.2.2.1=b.1)->∀x,DR (R9 st cb bk) (λs=>some ((s.1,s.2,ms,f,(0,0,t,0),([]:bW),([]:bP)),true)) l s=some (x,true)->
 ∃yp,x=(yp,Cq bk ms.length,ms,f,(0,0,t,0),([]:bW),([]:bP))/\yp.length=ms.length/\∀(i:Nat)(h:Host)(b:bE),yp[i]?=some h->ms[i]?=some b->Mz h/\h.2.2.2.2.2.2.2.1=b.1
 |[],k,s,hk,hd,h1,h2,h3,x,hx=>by
  have e:k=ms.length:=by have:=aJ (i:=k) (l:=ms);rw[hd]at this;simp at this;omega
  subst e;rw[DR]at hx;have hx:=(Prod.mk.inj (bN hx)).1;exact⟨s.1,by rw[<-hx,h2],h1,h3⟩
 |y::l,k,s,hk,hd,h1,h2,h3,x,hx=>by
  have gH:k<ms.length:=by have:=aJ (i:=k) (l:=ms);rw[hd]at this;simp at this;omega
  have hy:=cc gH;rw[hd]at hy;obtain⟨e1,e2⟩:=List.cons.inj hy;rw[DR]at hx;unfold R9 at hx;by_cases hb:(pj y.1 st cb 1 2).2=true;rw[aI hb]at hx;simp only at hx;have hf:=Sa (by rw[e1];exact hm _ (aM gH)) hs (by omega) hb;refine ad9 hs hm l (k+1) _ (by omega) e2.symm (by simp[h1]) ?_ ?_ x hx;show s.2++[((s.2.length:Int),(s.2.length:Int)+1,bk,true,0,0)]=_;rw[h2,Cr,YV];intro i h b g1 g2;refine Xx (P:=λi h=>∀b,ms[i]?=some b->Mz h/\h.2.2.2.2.2.2.2.1=b.1) (λi h g b g'=>h3 i h b g g') (λb g=>?_) i h g1 b g2;rw[h1,al gH,<-e1]at g;rw[<-bN g];exact hf;rw[aG hb]at hx;simp at hx
theorem Tt {bk:uA}{t:Int}{x:cP}(hs:CR st)(hm:∀(i:Nat)(b:bE),ms[i]?=some b->aeN (2*((i:Int)+1)) b)(hf:f.length=2/\∀y∈f,y.length=96)(h:xF ms st cb bk f t=some (x,true)):HV x:=by
 unfold xF at h;cases hq:(cV ms).2&&(iQ bk&&(!decide (iH f<0)&&so (0,0,t,0)))with
 |false=>rw[hq]at h;simp[ahX]at h
 |true=>
  rw[hq,ah]at h;simp only[ae,aN,cL]at hq;have hl:∀m∈ms,m.1.2.2.length<=1000:=by intro m hmm;obtain⟨i,hi⟩:=gx hmm;rcases(hm i m hi).vl with e|e<;>rw[e]<;>simp
  obtain⟨yp,e,e1,e2⟩:=ad9 hs hl ms 0 ([],[]) (by omega) rfl rfl rfl (λi h b g=>by simp at g) x h;rw[e];exact⟨hq.1,hm,e1,e2,⟨bk,hq.2.1,rfl⟩,hf,hq.2.2.1,hq.2.2.2,rfl⟩
theorem aea (st:dT)(cb:Bool)(bk:uA)(F:ax Host×ax aX->cP×Bool):∀(l:ax bE)(s:ax Host×ax aX),∃r,DR (R9 st cb bk) (λs=>some (F s)) l s=some r
 |[],s=>⟨_,rfl⟩
 |y::l,s=>by rw[DR];unfold R9;by_cases hb:(pj y.1 st cb 1 2).2=true;rw[aI hb];exact aea st cb bk F l _;rw[aG hb];exact⟨_,rfl⟩
theorem YU (ms:ax bE)(st:dT)(cb:Bool)(bk:uA)(f:bP)(t:Int):∃r,xF ms st cb bk f t=some r:=by unfold xF;cases (cV ms).2&&(iQ bk&&(!decide (iH f<0)&&so (0,0,t,0)))with|false=>exact⟨_,rfl⟩|true=>exact aea st cb bk _ ms _
theorem ad8 (st:dT)(cb:Bool)(bk:uA)(F:ax Host×ax aX->cP):∀(l:ax bE)(s:ax Host×ax aX),(∀y∈l,(pj y.1 st cb 1 2).2=true)->∃x,DR (R9 st cb bk) (λs=>some (F s,true)) l s=some (x,true)
 |[],s,_=>⟨_,rfl⟩
 |y::l,s,h=>by rw[DR];unfold R9;rw[aI (h y (List.mem_cons_self ..))];exact ad8 st cb bk F l _ λz hz=>h z (dY _ hz)
theorem TR (hs:CR st)(hm:∀(i:Nat)(b:bE),ms[i]?=some b->aeN (2*((i:Int)+1)) b)(hl:ms.length<=3)(hf:f.length=2)(cb:Bool)(bk:uA)(t:Int):tV ms st cb bk f t=xF ms st cb bk f t:=by refine ZG ms st cb bk f t (by omega) (λm hh=>?_) (by omega) (by have:=hs.r;omega) (by have:=hs.t;omega) (by have:=hs.p;omega);obtain⟨i,hi⟩:=gx hh;rcases(hm i m hi).vl with e|e<;>rw[e]<;>simp
theorem arb {Q:R->Prop}{k0:AN->az R}{k1:AN->cP->az R}{v:Int}{c:AN}(hs:CR st)(hc:Cu c)(hk0:∀c',Cu c'->Ends (k0 c') Q)(hk1:∀c' x,Cu c'->HV x->Ends (k1 c' x) Q):Ends (sY k0 k1 v c b2 st) Q:=by unfold sY;refine(kK (P:=λ_=>True) hc (by decide) (by simp)).bind λr4 p4=>(kK (P:=λ_=>True) p4.2 (by decide) (by simp)).bind λr5 p5=>(ahV p5.2).bind λr6 p6=>(hG p6.2 (by decide)).bind λr7 p7=>(abl p7.2).bind λr8 p8=>(kK (P:=λ_=>True) p8.2 (by decide) (by simp)).bind λr9 p9=>?_;rw[TR hs p6.1.2 p6.1.1.2 p8.1.1];obtain⟨⟨x,ok⟩,e⟩:=YU r6.1 st (decide (r7.1>0)) (r4.1,2000,r5.1) r8.1 r9.1;rw[e,ab];refine Ends.cond (λk=>?_) λ_=>hk0 _ p9.2;have k:ok=true:=k;subst k;exact hk1 _ _ p9.2 (Tt hs p6.1.2 p8.1 e)
theorem avW {Q:R->Prop}{k0:Int->AN->az R}{k1:AN->cP->az R}{v:Int}{c:AN}(hv:0<=v/\v<=100)(hc:Cu c)(hk0:∀c',Cu c'->Ends (k0 (v+1) c') Q)(hk1:∀c' x,Cu c'->HV x->Ends (k1 c' x) Q):Ends (yd k0 k1 v c b2) Q:=by
 unfold yd;simp only[M8,ab];refine(ao5 hc).bind λr2 p2=>(vE p2.2 4).bind λr3 p3=>?_;have k3:∀c',Cu c'->Ends (sX (λCL=>k0 CL c') v c' b2) Q:=by intro c' CJ;unfold sX;rw[ak];exact hk0 _ CJ
 refine Ends.cond (λ_=>arb ⟨by simp,by simp,p2.1,by simp⟩ p3 k3 λc' x h1 h2=>hk1 _ _ h1 h2) λ_=>arb ⟨by simp,by simp,p2.1,by simp⟩ p3 k3 λc' x h1 h2=>hk1 _ _ h1 h2
theorem aeZ {t u:Bytes}(ht:t.length=84)(hu:u.length=96):¬iH [(eC 1 []).1++t,u]<0:=by
 have e:(eC 1 []).1=[0,0,0,1,0,0,0,0]++dh (ME [0,0,0,1,0,0,0,0]):=by decide+kernel
 have el:(eC 1 []).1.length=12:=by rw[e];decide+kernel
 have hv:iU ((eC 1 []).1++t)=1:=by
  have g:∀a:Nat,a+4<=12->dU ((eC 1 []).1++t) (a:Int)=dU (eC 1 []).1 (a:Int):=by
   intro a ha;unfold dU fi bO;rw[ar (by rw[ai,el];omega),ar (by rw[el];omega)];have b:∀i,i<12->((eC 1 []).1++t).getD i 0=(eC 1 []).1.getD i 0:=by intro i hi;rw[bG,bG,bF (by omega)]
   simp only[aw];rw[b a (by omega),b (a+1) (by omega),b (a+2) (by omega),b (a+3) (by omega)]
  have g0:dU ((eC 1 []).1++t) 0=1:=(g 0 (by omega)).trans (by decide+kernel);have g4:dU ((eC 1 []).1++t) 4=0:=(g 4 (by omega)).trans (by decide+kernel);unfold iU;rw[g4,aI (by rw[ai,el];omega)];unfold ahu;have t1:(((eC 1 []).1++t).take (8+(0:Int).toNat)).drop 8=[]:=by rw[di (by rw[aV];simp;omega)]
  have t2:((eC 1 []).1++t).take (12+(0:Int).toNat)=(eC 1 []).1:=by rw[List.take_left' (by rw[el];rfl)]
  rw[t1,t2,g0];have o:(eC 1 []).2=true:=by decide+kernel
  rw[o,fS];rfl
 unfold iH;have hf:lv [(eC 1 []).1++t,u]=true:=by unfold lv;show((((2:Nat):Int)==2)&&(((((eC 1 []).1++t).length:Int)==96)&&((u.length:Int)==96)))=true;rw[ai,el,ht,hu];rfl
 rw[hf,ah];have h0:List.getD [(eC 1 []).1++t,u] 0 []=(eC 1 []).1++t:=rfl;rw[h0,hv];split;omega;split<;>omega
theorem ajT {c:AN}(h:Cu c):Ends (Dr c) λr=>HV r.1/\Cu r.2:=by
 unfold Dr;refine Ends.wC (λx=>0<=x.1/\x.1<=4/\Cu x.2) (λx=>(4-x.1).toNat) ⟨by simp,by simp,h⟩ (by simp) λx nx hx hn=>?_;obtain⟨i,c'⟩:=x;obtain⟨x1,x2,x3⟩:=hx;simp only at x1 x2 x3;unfold CD;refine Ends.cond (λk=>?_) λk=>?_;have k:=bu k;simp only at k⊢;exact avW ⟨by omega,by omega⟩ x3 (λc2 h2=>hn _ ⟨by show 0<=i+1;omega,by show i+1<=4;omega,h2⟩ (by show(4-(i+1)).toNat<(4-i).toNat;omega)) λc2 y h2 d=>Ends.pure ⟨d,h2⟩;have el:(eC 1 []).1.length=12:=by decide+kernel
 simp only[QW 1 [] (by simp),ab];rw[el,ak (n:=96-((12:Nat):Int))];refine(Kw _ 255).bind λr26 p26=>Ends.room (by omega) ((Kw 96 255).bind λWx p27=>?_);simp only[M8,ab];refine(Kw 16 5).bind λr29 p29=>?_;have hs:CR (([]:ax nK),List.replicate 8 (0,(0,0,0,0,0),0),r29,[0]):=⟨by simp,by simp,by show r29.length=16;omega,by simp⟩
 have hm:∀(j:Nat)(b:bE),([((2,false,([]:bW)),0,0,0),((4,false,([]:bW)),0,0,0)]:ax bE)[j]?=some b->aeN (2*((j:Int)+1)) b:=by intro j b hb;match j with|0=>have e:=bN hb;rw[<-e];exact⟨rfl,Or.inr rfl,⟨by decide,by decide⟩,by decide,by decide⟩|1=>have e:=bN hb;rw[<-e];exact⟨rfl,Or.inr rfl,⟨by decide,by decide⟩,by decide,by decide⟩|j+2=>simp at hb
 have hb:=aeZ (t:=r26) (u:=Wx) (by omega) (by omega);rw[TR hs hm (by simp) rfl];have e:∃x,xF ([((2,false,([]:bW)),0,0,0),((4,false,([]:bW)),0,0,0)]:ax bE) (([]:ax nK),List.replicate 8 (0,(0,0,0,0,0),0),r29,[0]) true (100,2000,1000) [(eC 1 []).1++r26,Wx] 1048576=some (x,true):=by
  unfold xF;have p1:(cV [((2,false,([]:bW)),0,0,0),((4,false,([]:bW)),0,0,0)]).2=true:=by decide+kernel
  have p2:iQ (100,2000,1000)=true:=by decide+kernel
  have p3:so (0,0,1048576,0)=true:=by decide+kernel
  rw[p1,p2,p3,aq hb];refine ad8 _ _ _ _ _ _ λy hy=>?_;have nY:=ab6 (k:=r29) (by omega);have hv:(sP 1 2).2=true:=by decide+kernel
  have hf:fj y.1=true:=by rcases bS.1 hy with e|hy;rw[e];decide+kernel;rw[bz.1 hy];decide+kernel
  unfold pj;rw[hf,nY,hv];rfl
 obtain⟨x,e⟩:=e;rw[e,ab];refine Ends.pure ⟨Tt hs hm ⟨rfl,?_⟩ e,x3⟩;intro y hy;rcases bS.1 hy with e|hy;rw[e,ai,el];omega;rw[bz.1 hy];omega
abbrev agJ:aK:=(0,0,0,0,0,0,0,0,0,0,0,0,0,0,0,([]:Bytes))
structure oD (n:Int) (a:dP):Prop where
 kind:0<=a.1/\a.1<=2
 fn:0<=a.2.1/\a.2.1<n
 act:anG a.2.2.1
 ok:FN a.2.2.1=true
 msg:0<=a.2.2.2.1.1/\a.2.2.2.1.1<=6
 img:a.2.2.2.2.1.length<=96
 part:0<=a.2.2.2.2.2/\a.2.2.2.2.2<=100
theorem oD.put (h:oD n a){x:Act}(h1:anG x)(h2:FN x=true):oD n (a.1,a.2.1,x,a.2.2.2):=⟨h.kind,h.fn,h1,h2,h.msg,h.img,h.part⟩
theorem aeR (p:aK)(s c:Int):FN (0,p,s,c,([]:Bytes),0)=true:=rfl
theorem OI (b:Int):FN (5,agJ,0,0,([]:Bytes),b)=true:=rfl
theorem aeQ {f:Bytes}(h:f.length<=600):FN (2,agJ,0,0,f,0)=true:=by unfold FN ahJ;simp only[ab];rw[show db (2:Int) 0 6=true from aS.2 ⟨by omega,by omega⟩,cC];rfl
theorem wk {k:Int}(h:k=1\/k=3\/k=4\/k=6\/k=0:=by omega):FN (k,agJ,0,0,([]:Bytes),0)=true:=by rcases h with rfl|rfl|rfl|rfl|rfl<;>rfl
theorem qX {k b:Int}(h:0<=k/\k<=6:=by omega):anG (k,agJ,0,0,([]:Bytes),b):=⟨by simp,by simp,h.1,h.2⟩
theorem Nb {c:AN}(h:Cu c)(p:aK)(hn:0<=n/\n<=100):Ends (sZ c p n) λr=>((0<=r.1.1/\r.1.1<=281474976710655)/\(r.1.2.1=99\/r.1.2.1=2*(n+1))/\r.1.2.2=p.2.2)/\Cu r.2:=by unfold sZ;rw[ak (n:=n+1),ak (n:=2*(n+1))];refine(vE h 12).bind λr1 p1=>Ends.cond (λ_=>(kK (P:=λx=>0<=x/\x<=281474976710655) p1 (by decide) (by decide)).bind λr2 p2=>Ends.pure ⟨⟨p2.1,Or.inl rfl,rfl⟩,p2.2⟩) λ_=>(kK (P:=λx=>0<=x/\x<=281474976710655) p1 (by decide) (by decide)).bind λr2 p2=>Ends.pure ⟨⟨p2.1,Or.inr rfl,rfl⟩,p2.2⟩
theorem ack {c:AN}(h:Cu c):Ends (vT c) λr=>(0<=r.1.1/\r.1.1<=6)/\Cu r.2:=by unfold vT;refine(hG h (by decide)).bind λr1 p1=>(kK (P:=λ_=>True) p1.2 (by decide) (by simp)).bind λr2 p2=>(kK (P:=λ_=>True) p2.2 (by decide) (by simp)).bind λr3 p3=>Ends.pure ⟨?_,p3.2⟩;have:=p1.1;show 0<=r1.1/\r1.1<=6;omega
theorem OK {l:ax dP}(h:oD n a):∀y∈l++[a],y∈l\/oD n y:=by intro y hy;rcases ay.1 hy with hy|hy;exact Or.inl hy;rw[bz.1 hy];exact Or.inr h
theorem c25 {Q:R->Prop}{k0:ax dP->AN->dP->az R}{v10 v30:Int}{v63:Bool}{l:ax dP}{ps:ax aK}{c:AN}(hl:l.length<=1000)(hp:∀p∈ps,Plain p)(h9:0<=v9/\v9<(ps.length:Int))(h10:0<=v10/\v10<=100)(hc:Cu c)(ha:oD v1 a)(hk:∀l' c' a',l'.length<=l.length+1->(∀y∈l',y∈l\/oD v1 y)->Cu c'->oD v1 a'->Ends (k0 l' c' a') Q):Ends (jS k0 v1 v2 l ps v9 v10 v30 v63 c a) Q:=by have same:∀c' a',Cu c'->oD v1 a'->Ends (k0 l c' a') Q:=λc' a' h1 h2=>hk l c' a' (by omega) (λy hy=>Or.inl hy) h1 h2;unfold jS;refine Ends.cond (λ_=>?_) λ_=>?_;refine Ends.idx h9.1 h9.2 λhi=>(Nb hc _ h10).bind λr8 p8=>(hG p8.2 (by decide)).bind λr9 p9=>(kK (P:=λ_=>True) p9.2 (by decide) (by simp)).bind λuX p10=>Ends.room (by simp;omega) ?_;refine hk _ _ _ (by simp) (OK (ha.put ⟨?_,by simp,by simp,by simp⟩ (aeR ..))) p10.2 (ha.put (qX) (wk));show r8.1.2.2.2.2.2.2.2.2.2.2.2.2.2.2.2.length<=1000;rw[p8.1.2.2];have:=(hp _ (aM hi)).2;omega;refine Ends.cond (λ_=>same _ _ hc (ha.put (qX) (wk))) λ_=>?_;refine Ends.cond (λ_=>(hG hc (by decide)).bind λzy p11=>same _ _ p11.2 (ha.put (qX) (OI _))) λ_=>?_;refine Ends.cond (λ_=>same _ _ hc (ha.put (qX) (wk))) λ_=>?_;refine Ends.cond (λ_=>(ack hc).bind λwD p12=>same _ _ p12.2 ⟨by simp,ha.fn,ha.act,ha.ok,p12.1,ha.img,ha.part⟩) λ_=>?_;refine Ends.cond (λ_=>(vE hc 2).bind λBQ p13=>Ends.cond (λ_=>?_) λ_=>same _ _ p13 (ha.put (qX) (wk))) λ_=>same _ _ hc ha;refine(PY p13).bind λRA p14=>(hG p14.2 (by decide)).bind λAL p15=>same _ _ p15.2 ⟨by simp,ha.fn,qX,wk,ha.msg,p14.1,?_⟩;have:=p15.1;show 0<=AL.1/\AL.1<=100;omega
theorem c19 {Q:R->Prop}{k0:ax dP->AN->dP->az R}{v10 v30:Int}{v46:Bool}{l:ax dP}{ps:ax aK}{c:AN}(hl:l.length<=1000)(hp:∀p∈ps,Plain p)(h9:0<=v9/\v9<(ps.length:Int))(h10:0<=v10/\v10<=100)(hc:Cu c)(ha:oD v1 a)(hk:∀l' c' a',l'.length<=l.length+1->(∀y∈l',y∈l\/oD v1 y)->Cu c'->oD v1 a'->Ends (k0 l' c' a') Q):Ends (jR k0 v1 v2 l ps v9 v10 v30 v46 c a) Q:=by unfold jR;refine Ends.cond (λ_=>?_) λ_=>?_;refine Ends.idx h9.1 h9.2 λhi=>(Nb hc _ (n:=5) (by omega)).bind λr5 p5=>?_;have hf:=Hn r5.1;rw[ag9,ab];exact hk l _ _ (by omega) (λy hy=>Or.inl hy) p5.2 (ha.put ⟨by simp,hf,by simp,by simp⟩ (aeQ (by omega)));exact Ends.cond (λ_=>c25 hl hp h9 h10 hc ha hk) λ_=>Ends.cond (λ_=>c25 hl hp h9 h10 hc ha hk) λ_=>Ends.cond (λ_=>c25 hl hp h9 h10 hc ha hk) λ_=>c25 hl hp h9 h10 hc ha hk
theorem c37 {Q:R->Prop}{k0:ax dP->AN->az R}{l:ax dP}{ps:ax aK}{c:AN}(hl:l.length<=1000)(h1:0<v1)(hc:Cu c)(ha:oD v1 a)(hk:∀l' c',l'.length<=l.length+3->(∀y∈l',y∈l\/oD v1 y)->Cu c'->Ends (k0 l' c') Q):Ends (jT k0 v1 v2 l ps v9 c a) Q:=by unfold jT;refine Ends.room (by simp;omega) ((vE hc 2).bind λWy p31=>Ends.cond (λ_=>(hG p31 h1).bind λr32 p32=>Ends.room (by simp;omega) (Ends.room (by simp;omega) (hk _ _ (by simp) ?_ p32.2))) λ_=>hk _ _ (by simp) (OK ha) p31);intro y hy;rcases ay.1 hy with hy|hy;rcases ay.1 hy with hy|hy;exact OK ha y hy;rw[bz.1 hy];exact Or.inr ⟨by simp,p32.1,qX,OI _,by simp,by simp,by simp⟩;rw[bz.1 hy];exact Or.inr ⟨by simp,⟨by simp,h1⟩,qX,wk,by simp,by simp,by simp⟩
theorem c6 {Q:R->Prop}{k0:ax dP->Int->AN->az R}{l:ax dP}{ps:ax aK}{c:AN}(hl:l.length<=900)(h1:0<v1/\v1<=3)(hp:∀p∈ps,Plain p)(h9:0<=v9/\v9<(ps.length:Int))(hn:ps.length<=1000)(hc:Cu c)(hk:∀l' c',l'.length<=l.length+4->(∀y∈l',y∈l\/oD v1 y)->Cu c'->Ends (k0 l' (v9+1) c') Q):Ends (vU k0 v1 v2 l ps v9 c) Q:=by
 unfold vU;refine(hG hc h1.1).bind λr2 p2=>(hG p2.2 (by decide)).bind λr3 p3=>?_;have hf:=p2.1;have a0:oD v1 (0,r2.1,(0,agJ,0,0,([]:Bytes),0),(0,0,0),([]:Bytes),0):=⟨by simp,hf,qX,wk,by simp,by simp,by simp⟩
 have e:au (v9+1)=v9+1:=ak;have go:∀(v46:Bool),Ends (jR (λy28 y29 y30=>jT (λy33 y34=>mW (λy35=>k0 y33 y35 y34) v1 v2 y33 ps v9 y34) v1 v2 y28 ps v9 y29 y30) v1 v2 l ps v9 r2.1 r3.1 v46 r3.2 (0,r2.1,(0,agJ,0,0,([]:Bytes),0),(0,0,0),([]:Bytes),0)) Q:=by intro v46;refine c19 (by omega) hp h9 ⟨hf.1,by omega⟩ p3.2 a0 λl1 c1 a1 g1 g2 g3 g4=>c37 (by omega) h1.1 g3 g4 λl2 c2 g5 g6 g7=>?_;unfold mW;rw[e];refine hk _ _ (by omega) (λy hy=>?_) g7;rcases g6 y hy with g|g;exact g2 y g;exact Or.inr g
 exact Ends.cond (λ_=>go _) λ_=>Ends.cond (λ_=>go _) λ_=>go _
theorem aeT {c:AN}(h:Cu c)(hn:0<n/\n<=3)(b:Bool):Ends (BC c n b) λr=>(r.1.length<=32/\∀a∈r.1,oD n a)/\Cu r.2:=by
 unfold BC;refine(amk h (m:=8) (by omega) (by omega)).bind λr1 p1=>?_;have h8:=p1.1.2.2;refine Ends.wC (λx=>0<=x.2.1/\x.2.1<=(r1.1.length:Int)/\(x.1.length:Int)<=4*x.2.1/\(∀a∈x.1,oD n a)/\Cu x.2.2) (λx=>((r1.1.length:Int)-x.2.1).toNat) ⟨by simp,by simp,by simp,by simp,p1.2⟩ (by simp;omega) λx nx hx hnx=>?_;obtain⟨l,i,c'⟩:=x;obtain⟨x1,x2,x3,x4,x5⟩:=hx;simp only at x1 x2 x3 x4 x5;unfold AG;refine Ends.cond (λk=>?_) λk=>?_;have k:=bu k;simp only at k⊢;refine c6 (by omega) hn p1.1.1 ⟨x1,k⟩ (by omega) x5 λl' c2 g1 g2 g3=>hnx _ ⟨by show 0<=i+1;omega,by show i+1<=_;omega,by show(l'.length:Int)<=4*(i+1);omega,?_,g3⟩ (by show((r1.1.length:Int)-(i+1)).toNat<((r1.1.length:Int)-i).toNat;omega);intro a ha;rcases g2 a ha with g|g;exact x4 a g;exact g;simp only;have hl:l.length<=32:=by omega
 refine Ends.wC (λy=>0<=y.2/\y.2<=(y.1.length:Int)/\y.1.length=l.length/\∀a∈y.1,oD n a) (λy=>((y.1.length:Int)-y.2).toNat) ⟨by simp,by simp,rfl,x4⟩ (by simp;omega) λy ny hy hm=>?_;obtain⟨q,j⟩:=y;obtain⟨y1,y2,y3,y4⟩:=hy;simp only at y1 y2 y3 y4;unfold yM;refine Ends.cond (λk2=>?_) λk2=>Ends.pure ⟨⟨by show q.length<=32;omega,y4⟩,x5⟩;have k2:=bu k2;simp only at k2⊢;unfold yK;have step:∀q':ax dP,q'.length=l.length->(∀a∈q',oD n a)->Ends (uc (λy61=>ny (q',y61)) q' j c') (λr=>(r.1.length<=32/\∀a∈r.1,oD n a)/\Cu r.2):=by intro q' e1 e2;unfold uc;rw[ak (n:=j+1)];exact hm _ ⟨by show 0<=j+1;omega,by show j+1<=(q'.length:Int);omega,e1,e2⟩ (by show((q'.length:Int)-(j+1)).toNat<((q.length:Int)-j).toNat;omega)
 refine Ends.bind (P:=λ_=>True) ?_ λz _=>?_;exact Ends.idx y1 k2 λ_=>Ends.cond (λ_=>Ends.idx y1 k2 λ_=>Ends.cond (λ_=>Ends.idx y1 k2 λ_=>Ends.pure trivial) λ_=>Ends.pure trivial) λ_=>Ends.pure trivial;unfold yL;refine Ends.cond (λ_=>Ends.idx y1 k2 λhi=>Ends.idx y1 k2 λ_=>step _ (by rw[aC];exact y3) ?_) λ_=>step q y3 y4;intro a ha;rcases dw ha with g|g;exact y4 a g;rw[g];exact(y4 _ (aM hi)).put (qX) (wk)
theorem ae4 {a:bW}(ha:a.length<=1048576):Ends (zG a) λr=>HV r.1/\r.2.length<=32/\∀x∈r.2,oD (r.1.1.length:Int) x:=by unfold zG;refine(apm ha).bind λr1 p1=>(ajT p1).bind λr2 p2=>?_;have p:=jO p2.1.um;have hl:=p2.1.len;exact(aeT p2.2 ⟨by omega,by omega⟩ false).bind λr3 p3=>Ends.pure ⟨p2.1,p3.1.1,p3.1.2⟩
theorem ahY (d:HV c):CI 2000 c:=by
 have p:=jO d.um;obtain⟨bk,_,hf⟩:=d.fns;have hh:∀h∈c.1,Mz h:=by intro h hh;obtain⟨i,hi⟩:=gx hh;obtain⟨gH,_⟩:=aA.1 hi;exact(d.host i h _ hi (al (by rw[<-d.len];exact gH))).1
 refine⟨⟨⟨by have:=d.len;omega,λh hx=>(hh h hx).sz.z⟩,⟨by rw[hf,Cr];omega,λ_ _=>⟨cB,cB,⟨cB,cB,cB⟩,cB,cB,cB⟩⟩,⟨by omega,λb hb=>?_⟩,⟨by have:=d.flash.1;omega,λx hx=>by show x.length<=2000;rw[d.flash.2 x hx];omega⟩,⟨cB,cB,cB,cB⟩,?_,?_⟩,λh hx=>(hh h hx).sz⟩;obtain⟨i,hi⟩:=gx hb;have q:=(d.box i b hi).vl;refine⟨⟨cB,cB,?_,λ_ _=>trivial⟩,cB,cB,cB⟩;show b.1.2.2.length<=2000;rcases q with e|e<;>rw[e]<;>simp;rw[show c.2.2.2.2.2.1=[] from congrArg (·.1) d.rest];exact⟨cg _,λ_ _=>trivial⟩;rw[show c.2.2.2.2.2.2=[] from congrArg (·.2) d.rest];exact⟨cg _,λx hx=>by cases hx⟩
def Jy (f:bP):Int:=if iU (f.getD 0 [])<0/\iU (f.getD 1 [])<0 then-1 else if iU (f.getD 1 [])>iU (f.getD 0 []) then iU (f.getD 1 []) else iU (f.getD 0 [])
theorem afD (h:lv f=true):tk f=some (Jy f):=by obtain⟨e,h0,h1⟩:=yw h;unfold tk;rw[PZ,ab];unfold iH Jy;rw[h,ah];generalize f.getD 0 []=x at e h0 h1⊢;generalize f.getD 1 []=y at e h0 h1⊢;subst e;by_cases a:iU x<0/\iU y<0;rw[aI a,aI a];rfl;rw[aG a,aG a];by_cases b:iU y>iU x;rw[aI b,aI b,cC,af,show idx [x,y] 1=some y from rfl,ab,Ki y];rfl;rw[aG b,aG b,cC,af,show idx [x,y] 0=some x from rfl,ab,Ki x];rfl
theorem OT (h:¬iH f<0):lv f=true:=by unfold iH at h;cases hf:lv f with|true=>rfl|false=>rw[hf,af]at h;exact absurd (by decide) h
def Ss (f g:bP):Prop:=lv g=true/\∀i:Nat,(i:Int)=iH f->g.getD i []=f.getD i []
theorem ab1 {g:bP}(h:¬iH f<0)(k:Ss f g):¬iH g<0/\Jy f<=Jy g/\0<=Jy f:=by
 have hf:=OT h;obtain⟨k1,k2⟩:=k;unfold iH at h k2;rw[hf,ah]at h k2;unfold iH Jy;rw[k1,ah];by_cases a:iU (f.getD 0 [])<0/\iU (f.getD 1 [])<0;rw[aI a]at h;omega;rw[aG a]at h k2⊢;by_cases b:iU (f.getD 1 [])>iU (f.getD 0 []);rw[aI b]at k2⊢;have e:=k2 1 rfl;rw[e];have n:¬(iU (g.getD 0 [])<0/\iU (f.getD 1 [])<0):=by omega
 rw[aG n,aG n];split<;>refine⟨by omega,by omega,by omega⟩;rw[aG b]at k2⊢;have e:=k2 0 rfl;rw[e];have n:¬(iU (f.getD 0 [])<0/\iU (g.getD 1 [])<0):=by omega
 rw[aG n,aG n];split<;>refine⟨by omega,by omega,by omega⟩
theorem ahl (x:iD):Ends (tt x) λb=>b=true->(0<=x.2.1/\x.2.1<=1)/\(x.1=0\/(x.2.2.2.length<=8/\0<=x.2.2.1/\x.2.2.1+(x.2.2.2.length:Int)<=96)):=by
 unfold tt;simp only[cm,ab];refine Ends.cond (λ_=>Ends.pure (by simp)) λk=>?_;have k1:db x.2.1 0 1=true:=by simpa using k
 have k1:=aS.1 k1;refine Ends.cond (λk2=>?_) λ_=>Ends.cond (λ_=>?_) λ_=>Ends.pure (by simp);refine Ends.bind (P:=λ_=>True) (Ends.cond (λ_=>Ends.pure trivial) λ_=>Ends.pure trivial) λz _=>Ends.pure λ_=>⟨k1,Or.inl (by simpa using k2)⟩
 refine Ends.bind (P:=λb=>b=true->x.2.2.2.length<=8/\0<=x.2.2.1/\x.2.2.1+(x.2.2.2.length:Int)<=96) (Ends.cond (λk3=>Ends.pure λk4=>?_) λ_=>Ends.pure (by simp)) λz hz=>Ends.pure λhb=>⟨k1,Or.inr (hz hb)⟩
 have k3:=aS.1 k3;rw[ak (n:=96-(x.2.2.2.length:Int))]at k4;have k4:=aS.1 k4;omega
theorem SP (h:lv f=true){k:Int}(hk:0<=k/\k<=1)(hs:s.length=96):lv (f.set k.toNat s)=true/\∀i:Nat,(i:Int)≠k->(f.set k.toNat s).getD i []=f.getD i []:=by obtain⟨e,h0,h1⟩:=yw h;refine⟨?_,λi hi=>?_⟩;rw[e];rcases(by omega:k=0\/k=1)with rfl|rfl;unfold lv;show((((2:Nat):Int)==2)&&(((s.length:Int)==96)&&(((f.getD 1 []).length:Int)==96)))=true;rw[hs,h1];rfl;unfold lv;show((((2:Nat):Int)==2)&&((((f.getD 0 []).length:Int)==96)&&((s.length:Int)==96)))=true;rw[hs,h0];rfl;rw[bG,bG,aP (by omega)]
theorem abm (h:lv f=true)(x:iD)(part:Int)(hp:part<=1000):Ends (lS f x part) λg=>lv g=true/\∀i:Nat,(i:Int)≠x.2.1->g.getD i []=f.getD i []:=by
 obtain⟨e,h0,h1⟩:=yw h;have hl:f.length=2:=by rw[e];rfl
 have same:lv f=true/\∀i:Nat,(i:Int)≠x.2.1->f.getD i []=f.getD i []:=⟨h,λ_ _=>rfl⟩
 unfold lS;rw[mu,mR f,ab,LH,ab,h];simp only[ab];refine Ends.bind (P:=λb=>b=false->((0<=x.2.1/\x.2.1<=1)/\(x.1=0\/(x.2.2.2.length<=8/\0<=x.2.2.1/\x.2.2.1+(x.2.2.2.length:Int)<=96)))/\0<=part) ?_ λz hz=>?_;refine Ends.cond (λk=>by simp at k) λ_=>(ahl x).bind λb hb=>Ends.cond (λ_=>Ends.pure (by simp)) λk2=>Ends.pure λk3=>⟨hb (by simpa using k2),?_⟩
 have:=dN k3;omega;refine Ends.cond (λ_=>Ends.pure same) λk=>?_;obtain⟨⟨hb,hx⟩,hp0⟩:=hz k;have hbl:x.2.1.toNat<f.length:=by omega
 have hlen:∀(i:Nat)(hi:i<f.length),f[i].length=96:=by intro i hi;have e0:f[0]'(by omega)=f.getD 0 []:=(cu (by omega) _).symm;have e1:f[1]'(by omega)=f.getD 1 []:=(cu (by omega) _).symm;rcases(by omega:i=0\/i=1)with rfl|rfl;rw[e0];exact h0;rw[e1];exact h1
 refine Ends.idx hb.1 (by omega) λhi=>?_;have h96:=hlen _ hi;refine Ends.room (by omega) (Ends.cond (λ_=>?_) λk0=>?_);refine Ends.wC (λy=>y.1.length=96/\0<=y.2/\y.2<=96) (λy=>(96-y.2).toNat) ⟨by simp[dy,h96],by simp,by simp⟩ (by simp) λy ny hy hn=>?_;unfold uw;refine Ends.cond (λk1=>?_) λ_=>Ends.idx hb.1 (by omega) λ_=>Ends.idx hb.1 (by omega) λ_=>Ends.pure (SP h hb (by simp[aO];exact hy.1));have k1:=bu k1;have k2:y.2<96:=by split at k1<;>omega
 rw[ak (n:=y.2+1)];refine Ends.idx hy.2.1 (by have:=hy.1;omega) λ_=>Ends.idx hy.2.1 (by have:=hy.1;omega) λ_=>hn _ ⟨by show(List.set _ _ _).length=96;rw[aC];exact hy.1,by show 0<=y.2+1;omega,by show y.2+1<=96;omega⟩ (by show(96-(y.2+1)).toNat<(96-y.2).toNat;omega);have hx:=hx.resolve_left (by simpa using k0);refine Ends.wC (λy=>y.1.length=96/\0<=y.2/\y.2<=(x.2.2.2.length:Int)) (λy=>((x.2.2.2.length:Int)-y.2).toNat) ⟨by simp[dy,h96],by simp,by simp⟩ (by simp;omega) λy ny hy hn=>?_;unfold sD;refine Ends.cond (λk1=>?_) λ_=>Ends.idx hb.1 (by omega) λ_=>Ends.idx hb.1 (by omega) λ_=>Ends.pure (SP h hb (by simp[aO];exact hy.1));have k1:=bu k1;have k2:y.2<(x.2.2.2.length:Int):=by split at k1<;>omega
 have hy1:=hy.1;rw[ak (n:=y.2+1),ak (n:=x.2.2.1+y.2)];refine Ends.idx (by omega) (by omega) λ_=>Ends.idx hy.2.1 k2 λ_=>Ends.idx (by omega) (by omega) λ_=>Ends.idx (by omega) (by omega) λ_=>hn _ ⟨by show(List.set _ _ _).length=96;rw[aC];exact hy.1,by show 0<=y.2+1;omega,by show y.2+1<=_;omega⟩ (by show((x.2.2.2.length:Int)-(y.2+1)).toNat<((x.2.2.2.length:Int)-y.2).toNat;omega)
theorem akH {l:Bytes}{i j:Int}(h0:0<=i)(h1:i<=j)(h2:j<=(l.length:Int)):∃s,sub l i j=some s:=by unfold sub;rw[aI ⟨h0,h1,h2⟩];exact⟨_,rfl⟩
theorem Rb {k0:ax iD->Int->az (ax iD)}{Q:ax iD->Prop}(hs:s.length<=96){b:Int}(hk:∀l i,l.length<=100->(∀x∈l,x.2.1=b)->Ends (k0 l i) Q):Ends (bl (lg k0 s b) fuel ([(0,b,0,([]:Bytes))],8)) Q:=by refine Ends.wC (λy=>8*(y.1.length:Int)<=y.2/\8<=y.2/\y.2<=104/\∀x∈y.1,x.2.1=b) (λy=>(104-y.2).toNat) ⟨by simp,by simp,by simp,by simp⟩ (by simp) λy ny hy hn=>?_;unfold lg;refine Ends.cond (λk=>?_) λ_=>hk _ _ (by have:=hy.1;have:=hy.2.2.1;omega) hy.2.2.2;have k:=bu k;have h1:=hy.1;have h2:=hy.2.1;rw[ak (n:=y.2+8)];obtain⟨t,et⟩:=akH (l:=s) (i:=y.2) (j:=if(s.length:Int)<y.2+8 then(s.length:Int) else y.2+8) (by omega) (by split<;>omega) (by split<;>omega);rw[et,ab];refine Ends.room (by simp;omega) (hn _ ⟨by show 8*((y.1++[_]).length:Int)<=y.2+8;simp;omega,by show 8<=y.2+8;omega,by show y.2+8<=104;omega,?_⟩ (by show(104-(y.2+8)).toNat<(104-y.2).toNat;omega));intro x hx;rcases ay.1 hx with hx|hx;exact hy.2.2.2 x hx;rw[bz.1 hx]
theorem akG (hs:s.length<=1000):Ends (tK f s) λl=>l.length<=101/\∀x∈l,x.2.1≠iH f:=by
 unfold tK;rw[LH,ab];refine Ends.bind (P:=λb=>b=false->lv f=true/\s.length<=96) ?_ λz hz=>Ends.cond (λ_=>Ends.pure ⟨by simp,by simp⟩) λk=>?_;refine Ends.cond (λ_=>Ends.pure (by simp)) λk1=>Ends.cond (λ_=>Ends.pure (by simp)) λk2=>?_;rw[Ki s,ab];have:=dN k2;exact Ends.pure λ_=>⟨by simpa using k1,by omega⟩
 obtain⟨hf,hl⟩:=hz k;have fin:∀(l:ax iD)(b:Int),b≠iH f->l.length<=100->(∀x∈l,x.2.1=b)->Ends (aa (sub s 0 (if(s.length:Int)<8 then(s.length:Int) else 8)) λx8=>Go.Dn.room (List.length l+List.length [((1,b,0,x8):iD)]) (some (l++[(1,b,0,x8)]))) (λl=>l.length<=101/\∀x∈l,x.2.1≠iH f):=by intro l b hb h1 h2;obtain⟨t,et⟩:=akH (l:=s) (i:=0) (j:=if(s.length:Int)<8 then(s.length:Int) else 8) (by omega) (by split<;>omega) (by split<;>omega);rw[et,ab];refine Ends.room (by simp;omega) (Ends.pure ⟨by simp;omega,λx hx=>?_⟩);rcases ay.1 hx with hx|hx;rw[h2 x hx];exact hb;rw[bz.1 hx];exact hb
 rw[PZ,ab];refine Ends.cond (λk0=>?_) λk0=>?_;have e:iH f=0:=by simpa using k0
 exact Rb hl λl i h1 h2=>fin l 1 (by omega) h1 h2;have e:iH f≠0:=by simpa using k0
 exact Rb hl λl i h1 h2=>fin l 0 (by omega) h1 h2
theorem ahs (h:lv f=true){l:ax iD}(hl:l.length<=101)(hb:∀x∈l,x.2.1≠iH f)(n:Int)(hn:n<=1000):Ends (xq f l n 3) (Ss f):=by
 have hlen:f.length=2:=by rw[(yw h).1];rfl
 have same:Ss f f:=⟨h,λ_ _=>rfl⟩
 have step:∀(g:bP)(i:Nat)(hi:i<l.length)(part:Int),part<=1000->Ss f g->Ends (lS g l[i] part) (Ss f):=by
  intro g i hi part hp kg;refine(abm kg.1 l[i] part hp).mono λg' hg=>⟨hg.1,λj hj=>?_⟩
  rw[hg.2 j (by rw[hj];exact(hb _ (aM hi)).symm)];exact kg.2 j hj
 unfold xq;rw[mu,mR f,ab];refine Ends.bind (P:=λb=>b=false->0<=n) (Ends.cond (λ_=>Ends.pure (by simp)) λk=>Ends.pure λ_=>by have:=dN k;omega) λz hz=>Ends.cond (λ_=>Ends.pure same) λk=>?_;have h0:=hz k;refine Ends.wC (λy=>0<=y.1/\y.1<=(l.length:Int)/\Ss f y.2) (λy=>((l.length:Int)-y.1).toNat) ⟨by simp,by simp,same⟩ (by simp;omega) λy ny hy hm=>?_;unfold xr;refine Ends.bind (P:=λb=>b=true->y.1<(l.length:Int)) (Ends.cond (λk1=>Ends.pure λ_=>bu k1) λ_=>Ends.pure (by simp)) λw hw=>Ends.cond (λk2=>?_) λ_=>Ends.cond (λk3=>?_) λ_=>Ends.pure hy.2.2;have k2:=hw k2;rw[ak (n:=y.1+1)];exact Ends.idx hy.1 k2 λhi=>(step y.2 _ hi 96 (by omega) hy.2.2).bind λg kg=>hm _ ⟨by show 0<=y.1+1;have:=hy.1;omega,by show y.1+1<=_;omega,kg⟩ (by show((l.length:Int)-(y.1+1)).toNat<((l.length:Int)-y.1).toNat;omega);have k3:=bu k3;exact Ends.idx h0 k3 λhi=>(step y.2 _ hi 3 (by omega) hy.2.2).bind λg kg=>Ends.pure kg
def KN (b:uA)(n:Int):uA:=
 bif iQ b&&db n 0 1000000 then(b.1,b.2.1,if b.2.1<au (b.2.2+au (b.1*n)) then b.2.1 else au (b.2.2+au (b.1*n))) else b
theorem abR (b:uA)(n:Int):rO b n=some (KN b n):=by unfold rO KN;simp only[IX,ab,cm];cases iQ b<;>cases db n 0 1000000<;>rfl
def GB (f:α->α)(l:ax α)(i:Nat):ax α:=(l.take i).map f++l.drop i
theorem LW (f:α->α){l:ax α}(h:i<l.length):idx (GB f l i) (i:Int)=some l[i]:=by rw[J3,GB,bA (by simp only[bH,aV];omega),bQ];rw[show i+(i-((l.take i).map f).length)=i by simp;omega];exact al h
theorem LX (f:α->α){l:ax α}(h:i<l.length):(GB f l i).set i (f l[i])=GB f l (i+1):=by
 have hl:((l.take i).map f).length=i:=by simp;omega
 rw[GB,GB,List.set_append_right _ _ (by omega),hl,jv,cc h,List.set_cons_zero,bc h,dF,aL];rfl
theorem LV (f:α->α)(l:ax α):GB f l l.length=l.map f:=by rw[GB,cE,gO,bD]
def Rj (n:Int)(f:aX):aX:=(f.1,f.2.1,KN f.2.2.1 n,f.2.2.2)
theorem M3 (l:ax aX)(n:Int)(h:l.length<=10^9:=by omega):qg l n=some (l.map (Rj n)):=by unfold qg;rw[wY l h,ab];refine dE (λi=>(GB (Rj n) l i,(i:Int))) l.length (by omega) (λi nx hi=>?_) (λnx=>?_);simp only[mH];rw[jI,LW _ hi,ak];simp only[ah,ab,abR,aw];rw[<-LX _ hi];rfl;simp only[mH];rw[cC,af,LV]
def aqh (x:Bytes):Bool:=decide (22<=x.length)
theorem sum_nil (l:ax bP):((l.map (λ_=>([]:bP))).map (λq=>q.countP aqh)).sum=0:=by induction l with|nil=>rfl|cons x l ih=>simp only[dk,fW,List.countP_nil,cy];exact ih
theorem RK {b:uA}(h:iQ b=true)(n:Int):iQ (KN b n)=true:=by
 unfold KN;cases hq:iQ b&&db n 0 1000000 with
 |false=>exact h
 |true=>
  simp only[ae,aS]at hq;have hi:=h;unfold iQ at hi;simp only[ae,aS]at hi;have e1:0<=b.1*n/\b.1*n<=10000000000:=⟨Int.mul_nonneg hi.1.1 hq.2.1,by have:=Int.mul_le_mul hi.1.2 hq.2.2 hq.2.1 (by omega:(0:Int)<=10000);omega⟩
  rw[ah,ak (n:=b.1*n),ak (n:=b.2.2+b.1*n)];unfold iQ;simp only[ae,aS];refine⟨hi.1,hi.2.1,?_,?_⟩;split<;>omega;split<;>omega
end
end Go.Pu
