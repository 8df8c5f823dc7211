import Derived.Test.YtfbhfnniblfpbaaGreatPure
import Derived.Test.YtfbhfnniblfpbaaGreatPuX2
namespace Go.Pu
open Go.Dn
open Int (tmod)
set_option linter.unusedSimpArgs false
set_option linter.unusedVariables false
noncomputable section
variable {x:Bytes} {f:Filter} {h:Host} {d z:Int} {k:Nat} {p:aD} {g:ei} {s:de} {t:bX} {R α:Type} {l:au Act} {ps:au aD} {a:cL} {m:bD} {r:kg}
/- Acts of a host: the program's and the reference's results are one. -/
theorem xp.tx {n:Nat}(k:xp n h)(hn:n<=10^9):WI h.2.2.1:=
 have z:cn 1000000000 dF h:=k.z.mono hn
 ⟨z.2.2.1.2.1.2.2.2.1,z.2.2.1.2.2.1.1,λx hx=>(z.2.2.1.2.2.1.2 x hx).2.2.1⟩
def Ak (h:Host)(p:aD)(c z:Int):Host×Bool:=
 bif dw h then(((vg h.2.1 h.1 0 h.2.2.1 p c z).1,h.2.1,(vg h.2.1 h.1 0 h.2.2.1 p c z).2.1,h.2.2.2),(vg h.2.1 h.1 0 h.2.2.1 p c z).2.2) else(h,false)
theorem aaW (h:Host)(p:aD)(c z:Int)(k:xp 900000000 h):yn h p c z=some (Ak h p c z):=by have zz:cn 1000000000 dF h:=k.z.mono;unfold yn Ak;rw[iu h zz,ab,nz h (k.sz (by omega)),ab];cases dw h;rfl;simp only[aj,ae,af,aaX _ _ _ _ _ _ _ zz.2.1.1 zz.1.1 (k.tx (by omega)) zz.2.2.1.2.2.1.1 (aP k.t (by omega)),ab]
theorem ab9 (h:Host)(p:aD)(c z:Int)(k:xp 900000000 h):yK h p c z=some (Ak h p c z):=by have zz:cn 1000000000 dF h:=k.z.mono;unfold yK Ak;rw[iB h zz,ab,mm h (k.sz (by omega)),ab];cases dw h;rfl;simp only[aj,ae,af,aca _ _ _ _ _ _ _ zz.2.1.1 zz.1.1 (k.tx (by omega)) zz.2.2.1.2.2.1.1 (aP k.t (by omega)),ab]
theorem Qp {n:Nat}(hn:128<=n)(l:au ay)(d:Int)(p:cM)(z:Nat):∀(q:cL)(s:Bytes)(m:bD)(a:au eQ){x},cn n (.sl .str) m->vm l d p z q s m a=some x->cn n (.sl .str) x.2
 |[],s,m,a,x,hm,h=>by cases h;exact hm
 |b::q,s,m,a,x,hm,h=>by rw[vm]at h;cases hq:(lF l m d (lD p b) (s.take z) false).2 with|false=>grind|true=>rw[hq]at h;exact Qp hn l d p z q _ _ _ (FJ hn hm ..) h
theorem LD {n:Nat}(hn:128<=n)(l:au ay)(d:Int):∀(q:bD)(m:bD)(r:kg){x},cn n (.sl .str) m->oY l d q m r=some x->cn n (.sl .str) x.1
 |[],m,r,x,hm,h=>by cases h;exact hm
 |s::q,m,r,x,hm,h=>by rw[oY]at h;cases hq:(db l m d r s).2.2 with|false=>grind|true=>rw[hq]at h;exact LD hn l d q _ _ (Jo hn hm ..) h
theorem Vv {n:Nat}(hn:128<=n){l:au ay}{q:bD}(hm:cn n (.sl .str) m):cn n (.sl .str) (sJ l m d r q).1:=by unfold sJ;cases hx:oY l d q m r with|none=>exact hm|some x=>exact LD hn l d q m r hm hx
theorem acu (p:cM)(n:Int):(iO p n).1.2.2.2.length+(iO p n).2.1.length=p.2.2.2.length:=by grind[iO]
theorem aah (a:au oJ)(x:oJ):(bj (a++[x])).length=(bj a).length+x.2.2.length:=by simp[bj]
theorem VO:∀l:au oJ,(∀x∈l,1<=x.2.1)->(l.length:Int)<=dc l
 |[],_=>by simp[dc]
 |y::l,h=>by have h1:=VO l (λx hx=>h x (dK _ hx));grind[dc]
structure agq (n:Nat) (m:List Bytes) (t:bX) (r:List Bytes×bX×Bool):Prop where
 mem:cn n (.sl .str) r.1
 tx:cn (n+1) CZ r.2.1
 sum:r.2.1.2.1.2.2.2.length+(bj r.2.1.2.2.1).length<=n
 w:r.2.1.2.2.1.length<=16\/r.2.1.2.2.1=t.2.2.1
theorem Ro {n:Nat}(hn:128<=n){l:au ay}{c:Int}(d:Int)(hm:cn n (.sl .str) m)(ht:cn n CZ t)(hs:t.2.1.2.2.2.length+(bj t.2.2.1).length<=n):agq n m t (vg l m d t p c z):=by
 have old:agq n m t (m,t,false):=⟨hm,ht.mono,hs,Or.inr rfl⟩
 unfold vg;cases hg:JY t&&(dm p&&(dy z 1 t.2.1.2.1&&dy c 1 128));exact old;simp only[ah]at hg;simp only[af];generalize oK p z.toNat=k;cases hk:Iz t k;exact old;simp only[af];rcases hx:vm l d t.2.1 z.toNat (iO t.2.1 (k:Int)).2.1 (ic p).1 m []with _|x;exact old;simp only;unfold LM;have hpm:=Vv (n:=n) hn (l:=l) (d:=d) (q:=(mT x.1 c t.2.2.2).map za) (r:=t.1) (Qp hn l d t.2.1 z.toNat _ _ _ _ hm hx);generalize sJ l x.2 d t.1 ((mT x.1 c t.2.2.2).map za)=w at hpm⊢;cases w.2.2;exact old;have hl:=acu t.2.1 (k:Int);have hb:=aah t.2.2.1 (t.2.2.2,(k:Int)+1,(iO t.2.1 (k:Int)).2.1);have hb:(bj (t.2.2.1++[(t.2.2.2,(k:Int)+1,(iO t.2.1 (k:Int)).2.1)])).length=(bj t.2.2.1).length+(iO t.2.1 (k:Int)).2.1.length:=hb;refine⟨hpm,⟨⟨cv,cv,cv,cv⟩,⟨cv,cv,cv,?_,λ_ _=>trivial⟩,?_,cv⟩,?_,Or.inl ?_⟩;show(iO t.2.1 (k:Int)).1.2.2.2.length<=n+1;omega;exact Kw (t:=MH) (k:=1) ht.2.2.1 (λy hy=>by rw[cH.1 hy];exact⟨cv,cv,by show(iO t.2.1 (k:Int)).2.1.length<=n;omega,λ_ _=>trivial⟩) (by simp);show(iO t.2.1 (k:Int)).1.2.2.2.length+(bj (t.2.2.1++[(t.2.2.2,(k:Int)+1,(iO t.2.1 (k:Int)).2.1)])).length<=n;omega;show(t.2.2.1++[_]).length<=16;have hq:=hg.1;simp only[JY,ah]at hq;have UF:=lz hq.1;have hc:=VO t.2.2.1 (λx hx=>by have:=aL.1 hq.2.2.2.1 x hx;simp only[iV,ah,bl]at this;omega);unfold Iz at hk;simp only[ah,aN,cP]at hk;rw[aq,bf];omega
theorem aez {n:Nat}(hn:1000<=n)(p:aD)(c z:Int)(k:xp n h):xp (n+1) (Ak h p c z).1:=by unfold Ak;cases dw h;exact k.mono;have zz:=k.z;have s:=Ro (by omega) (l:=h.2.1) (p:=p) (c:=c) (z:=z) 0 zz.1 zz.2.2.1 k.t;have z1:cn (n+1) dF h:=zz.mono;exact⟨⟨s.mem.mono,z1.2.1,s.tx,z1.2.2.2⟩,aP s.sum (by omega)⟩
theorem ac7 {n:Nat}(hn:1000<=n)(p:aD)(c z:Int)(k:xp n h)(f:K1 h):K1 (Ak h p c z).1:=by unfold Ak;cases dw h;exact f;have s:=Ro (by omega) (l:=h.2.1) (p:=p) (c:=c) (z:=z) 0 k.z.1 k.z.2.2.1 k.t;refine⟨f.pl,?_⟩;rcases s.w with w|w;exact w;show(vg h.2.1 h.1 0 h.2.2.1 p c z).2.1.2.2.1.length<=16;rw[w];exact f.w
theorem T7 {n:Nat}(hn:1000<=n)(x:Bytes)(k:xp n h)(f:K1 h):K1 (mf h x):=by have:=LF hn x k;exact⟨by rw[this.2.2];exact f.pl,by rw[this.2.1];exact f.w⟩
theorem LG (h:Host):∀k,(eJ h k).2.2.1=h.2.2.1
 |0=>rfl
 |k+1=>by show(xN k (eJ h k)).2.2.1=_;rw[<-LG h k];grind[xN]
theorem abS {n:Nat}(hn:1000<=n)(k:xp n h)(f:K1 h):xp (n+645000) (zO h)/\K1 (zO h):=by
 unfold zO;cases hb:dw h;exact⟨k.mono,f⟩;have hl:=lu (HN hb);have e:=E8 hn k.z hl.1;have hw:=f.w;have hp:=BL (n:=n) (by omega) k.z h.2.2.2.1.length;have ht:=(vB (n:=n+322000*h.2.2.2.1.length) (h:=h) hp.2 h.2.2.1.2.2.1.length).1.e;have h4:=oX 256 128 8;simp only[af];have hx:=LG (oL h) h.2.2.2.1.length;have hk:=(qm (oL h) h.2.2.2.1.length).pl;have BD:(oL h).2.2.2.2.1.length=h.2.2.2.2.1.length:=by show(returned h h.2.2.1.2.2.1.length).2.2.2.2.1.length=_;rw[ht];exact hp.1.pl
 refine⟨⟨(AG (by omega) e _).mono,?_⟩,?_,?_⟩;rw[hx];show(iy 256 128 8).1.2.2.2.length+0<=_;omega;rw[hk,BD];exact f.pl;rw[hx];show 0<=16;omega
def zb (f:fP):au Stream->Int->Int
 |[],_=> -1
 |s::r,i=>if s.1=f then i else zb f r (i+1)
theorem NU {T:(Int->ax Int)->Int->ax Int}(a:au Stream)(f:fP)(h:a.length<=1073741824)(hs:∀i (hi:i<a.length) nx,T nx (i:Int)=cond (decide (a[i].1=f)) (some (i:Int)) (nx ((i+1:Nat):Int)))(hf:∀nx,T nx (a.length:Int)=some (-1)): aM T fuel 0=some (zb f a 0):=by
 have xq:=cU;have key:∀n i,i<=a.length->a.length-i<n->aM T n (i:Int)=some (zb f (a.drop i) i):=by
  intro n;induction n with
  |zero=>intro i _ h;omega
  |succ n ih=>
   intro i hi hn;rw[aM];rcases bQ i a.length with gB|Ae;rw[hs i gB,bN gB,zb];by_cases hq:a[i].1=f;simp[hq];simp only[hq,decide_false,ae,cc];exact ih (i+1) (by omega) (by omega);have:i=a.length:=by omega
   subst this;rw[hf,gC];rfl
 exact key fuel 0 (by omega) (by omega)
theorem Rt (a:au Stream)(f:fP)(h:a.length<=1073741824):gu a f=some (zb f a 0):=by unfold gu;refine NU a f h (λi hi nx=>?_) (λnx=>?_);simp only[kt];rw[jy,aW hi,ai (by omega) (by omega)];simp only[af,ab,IB];rfl;simp only[kt];rw[fT];rfl
theorem QJ (a:au Stream)(f:fP)(h:a.length<=1073741824):gY a f=some (zb f a 0):=by unfold gY;refine NU a f h (λi hi nx=>?_) (λnx=>?_);simp only[kj];rw[jy,aW hi,ai (by omega) (by omega)];simp only[af,ab,IB];rfl;simp only[kj];rw[fT];rfl
theorem Nj (f:fP):∀(a:au Stream)(i:Int),(zb f a i= -1/\∀s∈a,s.1≠f)\/∃n:Nat,n<a.length/\zb f a i=i+n/\∃s∈a,s.1=f
 |[],_=> .inl ⟨rfl,by simp⟩
 |s::r,i=>by unfold zb;by_cases h:s.1=f;rw[aF h];exact .inr ⟨0,by simp,by simp,s,by simp,h⟩;rw[aH h];rcases Nj f r (i+1)with⟨h1,h2⟩|⟨n,h1,h2,s',h3,h4⟩;exact .inl ⟨h1,by intro t ht;rcases cg.1 ht with rfl|ht;exact h;exact h2 t ht⟩;exact .inr ⟨n+1,by simp;omega,by rw[h2];push_cast;omega,s',by simp[h3],h4⟩
theorem Gi (f:fP)(a:au Stream):(zb f a 0= -1/\∀s∈a,s.1≠f)\/∃x,0<=zb f a 0/\idx a (zb f a 0)=some x:=by rcases Nj f a 0 with h|⟨n,h1,h2,_⟩;exact .inl h;refine .inr ⟨a[n],by rw[h2];omega,?_⟩;rw[h2,Int.zero_add];exact aW h1
theorem RH (p q:Stream):((p.1.1==q.1.1)&&((p.1.2.1==q.1.2.1)&&((p.1.2.2.1==q.1.2.2.1)&&((p.1.2.2.2.1==q.1.2.2.2.1)&&((p.1.2.2.2.2==q.1.2.2.2.2)&&((p.2.1==q.2.1)&&((p.2.2.1==q.2.2.1)&&((p.2.2.2==q.2.2.2)&&true))))))))=decide (p=q):=by grind
def tr (a b:au Stream)(f:fP):Bool:=
 match idx a (zb f a 0),idx b (zb f b 0)with
 |some x,some y=>decide (x=y)
 |_,_=>false
theorem WL (a b:au Stream)(f:fP):tr a b f=tr b a f:=by grind[tr]
theorem Ju (a b:au Stream)(f:fP)(ha:a.length<=1073741824)(hb:b.length<=1073741824):rF a b f=some (tr a b f):=by unfold rF tr;rw[QJ a f ha,QJ b f hb];simp only[ab,RH];rcases Gi f a with⟨h1,_⟩|⟨x,h1,h2⟩;rw[h1];rfl;rw[aw (show zb f a 0>=0 from h1),h2];rcases Gi f b with⟨k1,_⟩|⟨y,k1,k2⟩;rw[k1];rfl;rw[aw (show zb f b 0>=0 from k1),k2];simp
theorem MM {T:(Int->ax Bool)->Int->ax Bool}{fin:ax Bool}(p:Stream->Bool)(a:au Stream)(h:a.length<=1073741824)(hs:∀i (hi:i<a.length) nx,T nx (i:Int)=cond (!(p a[i])) (some false) (nx ((i+1:Nat):Int)))(hf:∀nx,T nx (a.length:Int)=fin): aM T fuel 0=cond (a.all p) fin (some false):=by
 have xq:=cU;have key:∀n i,i<=a.length->a.length-i<n->aM T n (i:Int)=cond ((a.drop i).all p) fin (some false):=by
  intro n;induction n with
  |zero=>intro i _ h;omega
  |succ n ih=>
   intro i hi hn;rw[aM];rcases bQ i a.length with gB|Ae;rw[hs i gB,bN gB,bR];cases hq:p a[i]with|false=>rfl|true=>exact ih (i+1) (by omega) (by omega)
   have:i=a.length:=by omega
   subst this;rw[hf,gC];rfl
 exact key fuel 0 (by omega) (by omega)
theorem adM (a b:au Stream)(ha:a.length<=1073741824)(hb:b.length<=1073741824):yq a b=some (a.all (λs=>tr a b s.1)&&b.all (λs=>tr a b s.1)):=by
 unfold yq;rw[MM (λs=>tr a b s.1) a ha (λi hi nx=>?hs) (λnx=>?hf)]
 case hs=>
  grind[sr,aW,ai,ab,Ju]
 case hf=>
  simp only[sr]
  rw[fT]
  simp only[ae]
  rfl
 rw[MM (λs=>tr a b s.1) b hb (λi hi nx=>?hs) (λnx=>?hf)]
 case hs=>
  grind[su,aW,ai,ab,Ju]
 case hf=>
  simp only[su]
  rw[fT]
  simp only[ae]
  rfl
 grind
theorem OS (a b:au Stream)(ha:a.length<=1073741824)(hb:b.length<=1073741824):rX a b=some (a.all (λs=>tr a b s.1)):=by
 unfold rX;rw[MM (λs=>tr a b s.1) a ha (λi hi nx=>?hs) (λnx=>?hf)]
 case hs=>
  simp only[qY]
  rw[jy,aW hi,ai (by omega) (by omega)]
  simp only[af,ab,Rt _ _ ha,Rt _ _ hb,RH]
  rcases Gi a[i].1 a with⟨h1,h3⟩|⟨x,h1,h2⟩
  ·exact absurd rfl (h3 a[i] (aY hi))
  ·unfold tr
   rw[h2]
   rcases Gi a[i].1 b with⟨k1,_⟩|⟨y,k1,k2⟩
   ·rw[k1];rfl
   ·rw[ar (show¬zb a[i].1 b 0<0 by omega),k2]
    simp
 case hf=>
  simp only[qY]
  rw[fT]
  simp only[ae]
  rfl
 cases a.all (λs=>tr a b s.1)<;>rfl
theorem aeL (a b:au Stream)(ha:a.length<=1073741824)(hb:b.length<=1073741824):yO a b=some (a.all (λs=>tr a b s.1)&&b.all (λs=>tr a b s.1)):=by unfold yO;rw[OS a b ha hb,OS b a hb ha];have:(λs:Stream=>tr b a s.1)=λs=>tr a b s.1:=funext λs=>WL b a s.1;simp_all
def oE (h:Host):Int:=h.2.2.2.1.foldl (λn q=>ak (n+q.2.2.2.2.2)) 0
theorem ES (h:Host)(hl:h.2.2.2.1.length<=10^9):nZ h=some (oE h):=by unfold nZ oE;refine fold_iter h.2.2.2.1 (λ(s:Int) i=>(s,(i:Int))) (λn q=>ak (n+q.2.2.2.2.2)) (λs=>some s) (by omega) (λi hi s nx=>?_) (λs nx=>?_) 0;simp only[nj];rw[jy,aW hi,ai (n:=(i:Int)+1) (by omega) (by omega)];rfl;simp only[nj];rw[fT];rfl
theorem uv (h:Host)(hl:h.2.2.2.1.length<=10^9):jd h=some (oE h):=by unfold jd oE;refine fold_iter h.2.2.2.1 (λ(s:Int) i=>(s,(i:Int))) (λn q=>ak (n+q.2.2.2.2.2)) (λs=>some s) (by omega) (λi hi s nx=>?_) (λs nx=>?_) 0;simp only[na];rw[jy,aW hi,ai (n:=(i:Int)+1) (by omega) (by omega)];rfl;simp only[na];rw[fT];rfl
def aoM (b:Bool):Int:=bif b then 1 else 0
def Bp (h:Host)(a:Act):Host×Int:=
 bif !dw h|| !Ih a then(h, -1) else
 bif a.1==0 then((Ak h a.2.1 a.2.2.1 a.2.2.2.1).1,aoM (Ak h a.2.1 a.2.2.1 a.2.2.2.1).2) else
 bif a.1==1 then(iG h,0) else
 bif a.1==2 then(mf h a.2.2.2.2.1,0) else
 bif a.1==3 then(tu h,0) else
 bif a.1==4 then(Am h,0) else
 bif a.1==5 then mi h a.2.2.2.2.2 else(zO h,0)
theorem aaN (h:Host)(a:Act)(k:xp 90000000 h)(hx:a.2.2.2.2.1.length<=10^9):D0 h a=some (Bp h a):=by
 have z:cn 1000000000 dF h:=k.z.mono;unfold D0 Bp;rw[nz h (k.sz (by omega)),ab,Zs,ab];cases dw h;simp only[bS,af,jW,ab,iu h z];cases Ih a;simp only[aj,bS,af,ae,Bool.or_true,ab,iu h z];simp only[aj,ae,bF,ab,aaW h _ _ _ (k.mono),I3 h (k.mono),SF h _ (k.mono) hx,NM h (k.mono),U3 h (k.sz (by omega)) z,Ls h _ (k.mono),PB h (k.sz (by omega)) (k.z.mono)];cases a.1==0;case true=>(simp only[af];cases (Ak h a.2.1 a.2.2.1 a.2.2.2.1).2<;>rfl)
 cases a.1==1;all_goals grind
theorem ab2 (h:Host)(a:Act)(k:xp 90000000 h)(hx:a.2.2.2.2.1.length<=10^9):En h a=some (Bp h a):=by
 have z:cn 1000000000 dF h:=k.z.mono;unfold En Bp;rw[mm h (k.sz (by omega)),ab,ZR,ab];cases dw h;simp only[bS,af,jW,ab,iB h z];cases Ih a;simp only[aj,bS,af,ae,Bool.or_true,ab,iB h z];simp only[aj,ae,bF,ab,ab9 h _ _ _ (k.mono),JM h (k.mono),Tf h _ (k.mono) hx,OI h (k.mono),V8 h (k.sz (by omega)) z,LU h _ (k.mono),PW h (k.sz (by omega)) (k.z.mono)];cases a.1==0;case true=>(simp only[af];cases (Ak h a.2.1 a.2.2.1 a.2.2.2.1).2<;>rfl)
 cases a.1==1;all_goals grind
theorem ae6 {n:Nat}(hn:1000<=n)(a:Act)(k:xp n h)(f:dw h=true\/K1 h):xp (n+645000) (Bp h a).1/\(dw h=true\/K1 h->K1 (Bp h a).1\/(Bp h a).1=h):=by
 have f:K1 h:=f.elim Sa id;unfold Bp;cases !dw h|| !Ih a;case true=>exact⟨k.mono,λ_=>Or.inr rfl⟩
 simp only[ae];cases a.1==0;case true=>exact⟨(aez hn _ _ _ k).mono,λ_=>Or.inl (ac7 hn _ _ _ k f)⟩
 cases a.1==1;case true=>exact⟨(Bc (by omega) k).mono,λ_=>Or.inl (Sb f)⟩
 cases a.1==2;case true=>exact⟨(LF hn _ k).1.mono,λ_=>Or.inl (T7 hn _ k f)⟩
 cases a.1==3;case true=>exact⟨(Gm hn k).mono,λ_=>Or.inl (aaq f)⟩
 cases a.1==4;case true=>exact⟨(JU hn k).mono,λ_=>Or.inl (ac8 f)⟩
 cases a.1==5 with|true=>exact⟨(LN hn _ k).mono,λ_=>Or.inl (aar _ f)⟩|false=>grind[abS]
theorem acJ {n:Nat}(hn:1000<=n)(a:Act)(k:xp n h)(f:K1 h):xp (n+645000) (Bp h a).1/\K1 (Bp h a).1:=by grind[ae6]
def Wb (s:Host×cL)(a:Act):Host×cL:=((Bp s.1 a).1,s.2++[(Bp s.1 a).2])
def vI (h:Host)(l:au Act):Host×cL:=l.foldl Wb (h,[])
theorem KO (h:Host)(l:au Act)(i:Nat)(hi:i<l.length):vI h (l.take (i+1))=Wb (vI h (l.take i)) l[i]:=by rw[bg hi,vI,List.foldl_append];rfl
theorem Jq {n:Nat}(hn:1000<=n)(k:xp n h)(f:K1 h)(l:au Act):∀i,i<=l.length->xp (n+645000*i) (vI h (l.take i)).1/\K1 (vI h (l.take i)).1/\(vI h (l.take i)).2.length=i
 |0,_=>⟨k,f,rfl⟩
 |i+1,hi=>by have g:=Jq hn k f l i (by omega);have e:=acJ (by omega) (l[i]'(by omega)) g.1 g.2.1;rw[KO h l i (by omega)];refine⟨e.1.mono,e.2,?_⟩;show(_++[_]).length=_;grind
def hH (h:Host)(l:au Act):Host×cL:=bif !dw h||decide ((l.length:Int)>40) then(h,[]) else vI h l
theorem Lr (h:Host)(l:au Act)(k:xp 50000000 h)(hx:∀a∈l,a.2.2.2.2.1.length<=10^9):wo h l=some (hH h l):=by
 have xq:=cU;unfold wo hH;rw[iu h (k.z.mono),ab,nz h (k.sz (by omega)),ab];cases hb:dw h;rfl;cases hl:decide ((l.length:Int)>40);case true=>rfl
 rw[cP]at hl;simp only[aj,ae,ab,bF];refine cq (λi=>((vI h (l.take i)).2,(i:Int),(vI h (l.take i)).1)) l.length (by omega) (λi nx hi=>?_) (λnx=>?_);have g:=Jq (by omega) k (Sa hb) l i (by omega);rw[KO h l i hi];generalize vI h (l.take i)=s at g⊢;simp only[uA];rw[jy,af,aW hi,ab,aaN _ _ (g.1.mono) (hx _ (aY hi)),ab,aQ (by rw[g.2.2,bf];omega),ai (by omega) (by omega)];rfl;simp only[uA];rw[fT,ae,cI]
theorem V3 (h:Host)(l:au Act)(k:xp 50000000 h)(hx:∀a∈l,a.2.2.2.2.1.length<=10^9):AN h l=some (hH h l):=by
 have xq:=cU;unfold AN hH;rw[iB h (k.z.mono),ab,mm h (k.sz (by omega)),ab];cases hb:dw h;rfl;cases hl:decide ((l.length:Int)>40);case true=>rfl
 rw[cP]at hl;simp only[aj,ae,ab,bF];refine cq (λi=>((vI h (l.take i)).2,(i:Int),(vI h (l.take i)).1)) l.length (by omega) (λi nx hi=>?_) (λnx=>?_);have g:=Jq (by omega) k (Sa hb) l i (by omega);rw[KO h l i hi];generalize vI h (l.take i)=s at g⊢;simp only[uJ];rw[jy,af,aW hi,ab,ab2 _ _ (g.1.mono) (hx _ (aY hi)),ab,aQ (by rw[g.2.2,bf];omega),ai (by omega) (by omega)];rfl;simp only[uJ];rw[fT,ae,cI]
theorem FO {n:Nat}(hn:1000<=n)(k:xp n h)(l:au Act):xp (n+25800000) (hH h l).1/\(hH h l).2.length<=40/\((hH h l).1=h\/K1 (hH h l).1):=by
 unfold hH;cases hb:dw h;exact⟨k.mono,cd _,Or.inl rfl⟩;cases hl:decide ((l.length:Int)>40);case true=>exact⟨k.mono,cd _,Or.inl rfl⟩
 rw[cP]at hl;have g:=Jq hn k (Sa hb) l l.length (aU _);rw[cI]at g;exact⟨g.1.mono,by grind,Or.inr g.2.1⟩
def aew (a b:au Stream):Bool:=a.all (λs=>tr a b s.1)&&b.all (λs=>tr a b s.1)
def WM (h:Host)(l:au Act):Bool:=
 !(!dw h||decide ((l.length:Int)>40))&&(aew (vM (hH h l).1 4 100).2.2.2.2.2.2.2.2.2.1 (wJ (Jy h) l (hH h l).2).2.2.2.1&&(oE (vM (hH h l).1 4 100)==oE h))
theorem afv (h:Host)(l:au Act)(k:xp 1048576 h)(hx:cn 1048576 (.sl WH) l):qA h l=some (WM h l):=by
 have hxx:∀a∈l,a.2.2.2.2.1.length<=10^9:=λa ha=>aP (hx.2 a ha).2.2.2.2.1 (by omega);have g:=FO (by omega) k l;have hS:=KQ h k.z;have hU:=Jt (l:=l) (v:=(hH h l).2) (by omega) hS;unfold qA WM;rw[nz h (k.sz (by omega)),ab];cases dw h;rfl;cases decide ((l.length:Int)>40);case true=>rfl
 simp only[aj,bS,ae,ab,bF,bB];rw[Lr h l (k.mono) hxx,ab];generalize hH h l=r at g hU⊢;have gd:=Kd (by omega) 4 100 g.1;rw[QG _ _ _ (g.1.mono),ab,XF h (k.z.mono) (k.sz (by omega)),ab,UY _ _ _ (hS.mono) (hx.mono),ab];generalize vM r.1 4 100=q at gd⊢;generalize wJ (Jy h) l r.2=u at hU⊢;rw[adM _ _ (aP gd.z.2.2.2.2.2.2.2.2.2.1.1 (by omega)) (aP hU.2.2.2.1.1 (by omega)),ab,uv q (aP gd.z.2.2.2.1.1 (by omega)),ab,uv h (aP k.z.2.2.2.1.1 (by omega)),ab];simp(disch:=omega)[aew]
theorem af2 (h:Host)(l:au Act)(k:xp 1048576 h)(hx:cn 1048576 (.sl WH) l):qN h l=some (WM h l):=by
 have hxx:∀a∈l,a.2.2.2.2.1.length<=10^9:=λa ha=>aP (hx.2 a ha).2.2.2.2.1 (by omega);have g:=FO (by omega) k l;have hS:=KQ h k.z;have hU:=Jt (l:=l) (v:=(hH h l).2) (by omega) hS;unfold qN WM;rw[mm h (k.sz (by omega)),ab];cases dw h;rfl;cases decide ((l.length:Int)>40);case true=>rfl
 simp only[aj,bS,ae,ab,bF,bB];rw[V3 h l (k.mono) hxx,ab];generalize hH h l=r at g hU⊢;have gd:=Kd (by omega) 4 100 g.1;rw[ab3 _ _ _ (g.1.mono),ab,YE h (k.z.mono) (k.sz (by omega)),ab,V4 _ _ _ (hS.mono) (hx.mono),ab];generalize vM r.1 4 100=q at gd⊢;generalize wJ (Jy h) l r.2=u at hU⊢;rw[aeL _ _ (aP gd.z.2.2.2.2.2.2.2.2.2.1.1 (by omega)) (aP hU.2.2.2.1.1 (by omega)),ab,ES q (aP gd.z.2.2.2.1.1 (by omega)),ab,ES h (aP k.z.2.2.2.1.1 (by omega)),ab];simp(disch:=omega)[aew]
def Ends (o:ax α)(P:α->Prop):Prop:=∃x,o=some x/\P x
theorem Ends.pure {x:α}{P:α->Prop}(h:P x):Ends (some x) P:=⟨x,rfl,h⟩
theorem Ends.bind {o:ax α}{P:α->Prop}{k:α->ax R}{Q:R->Prop}(h:Ends o P)(hk:∀x,P x->Ends (k x) Q):Ends (aa o k) Q:=by obtain⟨x,rfl,hx⟩:=h;exact hk x hx
theorem Ends.mono {o:ax α}{P Q:α->Prop}(h:Ends o P)(hq:∀x,P x->Q x):Ends o Q:=by obtain⟨x,hx,hp⟩:=h;exact⟨x,hx,hq x hp⟩
theorem Ends.cond {c:Bool}{a b:ax α}{P:α->Prop}(h1:c=true->Ends a P)(h2:c=false->Ends b P):Ends (cond c a b) P:=by grind
theorem Ends.ifn {p:Prop}[Decidable p]{a:ax α}{P:α->Prop}(h:¬p)(ha:Ends a P):Ends (if p then none else a) P:=by rw[aH h];exact ha
theorem Ends.room {n:Nat}{k:ax α}{P:α->Prop}(h:n<=1073741824)(hk:Ends k P):Ends (room n k) P:=by rw[aQ h];exact hk
theorem Ends.of {o:ax α}{x:α}{P:α->Prop}(h:o=some x)(hp:P x):Ends o P:=⟨x,h,hp⟩
theorem Ends.iter {σ:Type}{T:(σ->ax R)->σ->ax R}{Q:R->Prop}(I:σ->Prop)(m:σ->Nat)(hs:∀x nx,I x->(∀y,I y->m y<m x->Ends (nx y) Q)->Ends (T nx x) Q): ∀n x,I x->m x<n->Ends (aM T n x) Q:=by intro n;induction n with|zero=>intro x _ h;omega|succ n ih=>grind[aM]
theorem Ends.Ag {σ:Type}{T:(σ->ax R)->σ->ax R}{Q:R->Prop}(I:σ->Prop)(m:σ->Nat){x:σ}(hx:I x)(hm:m x<=1000000000000)(hs:∀x nx,I x->(∀y,I y->m y<m x->Ends (nx y) Q)->Ends (T nx x) Q):Ends (aM T fuel x) Q:=Ends.iter I m hs fuel x hx (by have:=cU;omega)
theorem Ends.idx {xs:au α}{i:Int}{k:α->ax R}{Q:R->Prop}(h0:0<=i)(h1:i<(xs.length:Int))(hk:∀(h:i.toNat<xs.length),Ends (k xs[i.toNat]) Q):Ends (aa (idx xs i) k) Q:=by grind[aW,ab]
abbrev TA:=cL×Int×Int
variable {c:TA}
def Cu (c:TA):Prop:=0<=c.2.1/\c.2.1<=(c.1.length:Int)/\c.1.length<=1048576
theorem acL (x y:Int)(n:Nat)(hy:(fa y).toNat=n)(hn:n<9223372036854775808):0<=ak (BitVec.toNat (fa x&&&fa y))/\ak (BitVec.toNat (fa x&&&fa y))<=n:=by grind[Nat.and_le_right,ai]
theorem ahC (ha:a.length<=1048576):Ends (Cy a) Cu:=by unfold Cy;refine Ends.Ag (λx=>0<=x.2/\x.2<=4000) (λx=>(4000-x.2).toNat) ⟨by omega,by omega⟩ (by simp) λx nx hx hn=>?_;unfold BT;refine Ends.bind (P:=λb=>b=true->x.2<(a.length:Int)/\x.2<4000) (Ends.cond (λh=>Ends.pure λh2=>⟨bI h,bI h2⟩) λh=>Ends.pure λh2=>by cases h2) λq hq=>?_;refine Ends.cond (λh=>?_) (λh=>Ends.pure ⟨il _,by simp,ha⟩);grind[Ends.idx,ai]
theorem Gc (h:Cu c):Ends (kE c) λr=>(0<=r.1/\r.1<=255)/\Cu r.2:=by
 unfold kE;refine Ends.ifn (by decide) (Ends.ifn (by decide) (Ends.cond (λh1=>?_) λh1=>?_))
 ·have h1:=bI h1;refine Ends.idx h.1 h1 λ_=>Ends.pure ⟨acL _ 255 255 rfl (by decide),?_⟩;refine⟨?_,?_,h.2.2⟩;all_goals simp only[ai (n:=c.2.1+1) (by have:=h.1;omega) (by have:=h.2.2;omega)]
  have:=h.1;omega;omega
 exact Ends.pure ⟨acL _ 255 255 rfl (by decide),h.1,h.2.1,h.2.2⟩
theorem gx (h:Cu c){n:Int}(hn:0<n:=by omega):Ends (cr c n) λr=>(0<=r.1/\r.1<n)/\Cu r.2:=by unfold cr;rw[fT];simp only[ae];refine Ends.cond (λh1=>?_) λh1=>?_;refine(Gc h).bind λr hr=>Ends.ifn (by omega) (Ends.pure ⟨⟨Int.tmod_nonneg _ hr.1.1,Int.tmod_lt_of_pos _ hn⟩,hr.2⟩);refine(Gc h).bind λr2 h2=>(Gc h2.2).bind λr3 h3=>(Gc h3.2).bind λr4 h4=>(Gc h4.2).bind λr5 h5=>Ends.ifn (by omega) (Ends.pure ⟨⟨Int.tmod_nonneg _ ?_,Int.tmod_lt_of_pos _ hn⟩,h5.2⟩);have a2:=h2.1;have a3:=h3.1;have a4:=h4.1;have a5:=h5.1;rw[ai (n:=r2.1*16777216) (by omega) (by omega),ai (n:=r3.1*65536) (by omega) (by omega),ai (n:=r4.1*256) (by omega) (by omega)];rw[ai (n:=r2.1*16777216+r3.1*65536) (by omega) (by omega)];rw[ai (n:=r2.1*16777216+r3.1*65536+r4.1*256) (by omega) (by omega)];rw[ai (by omega) (by omega)];omega
theorem Ij (h:Cu c)(n:Int):Ends (cr c n) λr=>(0<=r.1/\(r.1<n\/r.1=0))/\Cu r.2:=by
 rcases Int.lt_or_le 0 n with hn|hn;exact(gx h hn).mono λr hr=>⟨⟨hr.1.1,Or.inl hr.1.2⟩,hr.2⟩
 unfold cr;rw[aw hn];exact Ends.pure ⟨⟨il _,Or.inr rfl⟩,h⟩
theorem yz (h:Cu c)(n:Int):Ends (gv c n) λr=>Cu r.2:=by unfold gv;exact(Ij h n).bind λr hr=>Ends.pure hr.2
theorem iU (h:Cu c){l:cL}{P:Int->Prop}(hl:0<l.length)(hp:∀x∈l,P x):Ends (cy c l) λr=>P r.1/\Cu r.2:=by unfold cy;exact(gx h).bind λr hr=>Ends.idx hr.1.1 hr.1.2 λhi=>Ends.pure ⟨hp _ (aY hi),hr.2⟩
theorem JT (h:Cu c)(n:Int):Ends (mA c n) λr=>(r.1.length<=5000/\(0<=n->n<=5000->(r.1.length:Int)=n)/\(n<=0->r.1=[]))/\Cu r.2:=by
 have key:∀v:Int,v<=5000->∀Q:(Bytes×TA)->Prop,(∀x c,((x.length:Int)=v\/(v<=0/\x=[]))->Cu c->Q (aK x,c))->Ends (aM (pU (λy _ z=>some (aK y,z)) v) fuel (([]:cL),0,c)) Q:=by
  intro v hv Q hQ;refine Ends.Ag (λx=>(x.1.length:Int)=x.2.1/\(x.2.1<=v\/x.2.1=0)/\Cu x.2.2) (λx=>(v-x.2.1).toNat) ⟨rfl,Or.inr rfl,h⟩ (by simp;omega) λx nx hx hn=>?_;unfold pU;refine Ends.cond (λh1=>?_) λh1=>Ends.pure (hQ _ _ ?_ hx.2.2)
  ·have h1:=bI h1;refine(Gc hx.2.2).bind λr hr=>Ends.room (by simp;omega) (hn _ ⟨?_,?_,hr.2⟩ ?_);all_goals simp only[ai (n:=x.2.1+1) (by omega) (by omega)]
   simp;omega;omega;omega
  have h1:=dM h1;rcases hx.2.1 with h2|h2;exact Or.inl (by omega);rcases Int.lt_or_le 0 v with h3|h3;omega;exact Or.inr ⟨h3,ca (by omega)⟩
 have hb:∀x:cL,(aK x).length=x.length:=λx=>by simp[aK]
 unfold mA;refine Ends.cond (λh1=>?_) λh1=>?_;have h1:=bI h1;refine key 5000 (by omega) _ λx c hx hc=>⟨⟨by rw[hb];rcases hx with hx|hx<;>omega,λ_ _=>by omega,λ_=>by omega⟩,hc⟩
 have h1:=dM h1;refine key n (by omega) _ λx c hx hc=>⟨⟨?_,λh0 _=>?_,λh0=>?_⟩,hc⟩
 rw[hb];rcases hx with hx|hx;omega;rw[hx.2];simp;rw[hb];rcases hx with hx|hx;omega;rw[hx.2];simp;omega;rcases hx with hx|hx;have:x=[]:=ca (by omega);rw[this];rfl;rw[hx.2];rfl
theorem agT {k:Bool->ax Bool}(ht:k true=some true)(hk:a.length<=1048576->Ends (k false) (λb=>b=true)):Ends (aa (Jb a) k) (λb=>b=true):=by grind[Jb,ab,Ends.pure]
theorem Ends.true {o:ax Bool}(h:Ends o (λb=>b=true)):o=some true:=by obtain⟨x,h1,rfl⟩:=h;exact h1
theorem X1 (h:cG m=true)(a:Int)(s:Bytes):cG (tq m a s).1=true:=by grind[tq,fX,vy,Be]
theorem Vd:∀(q:au (Int×Int)){m:bD}(s:Bytes),cG m=true->cG (Oo q m s)=true
 |[],_,_,h=>h
 |p::q,m,s,h=>by rw[Oo];exact Vd q _ (X1 h _ _)
theorem FF (h:cG m=true)(l:au ay)(d a:Int)(s:Bytes)(w:Bool):cG (lF l m d a s w).1=true:=by unfold lF;cases (nP l m d a (s.length:Int) w).2 with|false=>exact h|true=>exact Vd _ _ h
theorem Lt (h:cG m=true)(l:au ay)(d:Int)(r:kg)(s:Bytes):cG (db l m d r s).1=true:=by grind[db,FF]
theorem FM {b n x y:Int}(hb:0<=b/\b<=130944)(hn:n=2\/n=4\/n=8\/n=16)(hx:0<=x/\x<=2*n-1)(hy:0<=y/\y<=2*n-1)(hu:(y-x)%(2*n)<=n):du (b,n,x,y)=true:=by grind[gH,du,cj,bl]
theorem Gy (h:du r=true):cj r=(r.2.2.2-r.2.2.1)%(2*r.2.1)/\0<=cj r/\cj r<=r.2.1:=by grind[cj,gH,du]
theorem KZ {x n:Int}(hn:0<n:=by omega)(hx:0<=x/\x<=n-1:=by omega):tmod (x+1) n=if x+1=n then 0 else x+1:=by rw[dU (by omega)];split;simp_all;simp(disch:=omega)[Int.emod_eq_of_lt]
theorem abT (h:du r=true)(hf:cj r<r.2.1):du (r.1,r.2.1,r.2.2.1,tmod (r.2.2.2+1) (2*r.2.1))=true/\cj (r.1,r.2.1,r.2.2.1,tmod (r.2.2.2+1) (2*r.2.1))=cj r+1:=by
 have k:=lz h;have u:=Gy h;have e:=KZ (x:=r.2.2.2) (n:=2*r.2.1);have u2:(tmod (r.2.2.2+1) (2*r.2.1)-r.2.2.1)%(2*r.2.1)=cj r+1:=by grind
 grind[FM,cj,gH]
theorem aer (h:du r=true)(hf:cj r≠0):du (r.1,r.2.1,tmod (r.2.2.1+1) (2*r.2.1),r.2.2.2)=true/\cj (r.1,r.2.1,tmod (r.2.2.1+1) (2*r.2.1),r.2.2.2)=cj r-1:=by
 have k:=lz h;have u:=Gy h;have e:=KZ (x:=r.2.2.1) (n:=2*r.2.1);have u2:(r.2.2.2-tmod (r.2.2.1+1) (2*r.2.1))%(2*r.2.1)=cj r-1:=by grind
 grind[FM,cj]
theorem aaw (h:du r=true):tt r=r.2.1-cj r:=by have k:=lz h;grind[Gy,tt,ai]
theorem VH (h:du r=true)(l:au ay)(m:bD)(d:Int)(s:Bytes):du (db l m d r s).2.1=true/\(db l m d r s).2.1.2.1=r.2.1:=by unfold db;cases hc:(tt r==0)||((s.length:Int) !=16);all_goals grind[aaw,Gy,abT]
theorem Ri (h:du r=true)(l:au ay)(m:bD)(d:Int):du (bu l m d r).2.1=true/\(bu l m d r).2.1.2.1=r.2.1:=by grind[bu,aer]
theorem ada {n:Int}{l:cL}:(List.range l.length).all (Fj n l)=true↔(∀x∈l,0<=x/\x<=n-1)/\l.Nodup:=by
 rw[aL];constructor;intro h;have k:∀i (hi:i<l.length),(0<=l[i]/\l[i]<=n-1)/\l[i]∉l.take i:=by intro i hi;have:=h i (cW.2 hi);unfold Fj at this;rw[eK hi,ah,bl]at this;exact⟨this.1,by simpa using this.2⟩
 refine⟨λx hx=>?_,?_⟩;obtain⟨i,hi,rfl⟩:=List.getElem_of_mem hx;exact(k i hi).1;rw[List.Nodup,List.pairwise_iff_getElem];intro i j hi hj hij he;refine(k j hj).2 ?_;rw[<-he];exact List.mem_take_iff_getElem.2 ⟨i,by omega,rfl⟩;rintro⟨h1,h2⟩ i hi;have hi:=cW.1 hi;unfold Fj;rw[eK hi,ah,bl];refine⟨h1 _ (aY hi),?_⟩;have:l[i]∉l.take i:=by intro hm;obtain⟨j,hj,he⟩:=List.mem_take_iff_getElem.1 hm;rw[List.Nodup,List.pairwise_iff_getElem]at h2;exact h2 j i (by omega) hi (by omega) he
 simpa using this
theorem Jl {p:cM}:dH p=true↔(0<=p.1/\p.1<=130944)/\(1<=p.2.1/\p.2.1<=512)/\(0<=p.2.2.1/\p.2.2.1<=16)/\(∀x∈p.2.2.2,0<=x/\x<=p.2.2.1-1)/\p.2.2.2.Nodup:=by grind[dH,bl,ada]
theorem FI {p:cM}(h:dH p=true){l:cL}(hl:l.Sublist p.2.2.2):dH (p.1,p.2.1,p.2.2.1,l)=true:=by grind[Jl]
theorem abM {p:cM}(h:dH p=true)(l:cL):dH (HL p l).1=true:=by grind[HL,Fl]
theorem Jw {n:Int}{s:oJ}:iV n s=true↔(1<=s.2.1/\s.2.1<=n)/\0<=s.1/\s.1<=65535:=by grind[iV,bl]
structure Ig (t:bX):Prop where
 ring:du t.1=true
 next:0<=t.2.2.2/\t.2.2.2<=65535
 sent:∀x∈t.2.2.1,(1<=x.2.1/\x.2.1<=t.1.2.1)/\0<=x.1/\x.1<=65535
 pool:dH (iA t.2.1 (bj t.2.2.1))=true
 H8:dc t.2.2.1<=t.1.2.1
theorem Ig.free (h:Ig t):dH t.2.1=true:=FI h.pool (List.sublist_append_left _ _)
theorem ahR:JY t=true↔Ig t:=by constructor;intro h;unfold JY at h;simp only[ah,bl,aL,Jw,bp]at h;obtain⟨h1,h2,h3,h4,h5,h6⟩:=h;unfold Fl at h5;simp only[ah]at h5;exact⟨h1,h3,h4,h5.2,h6⟩;·intro h;unfold JY Fl;simp only[ah,bl,aL,Jw,bp];exact⟨h.ring,h.free,h.next,h.sent,⟨h.free,h.pool⟩,h.H8⟩
theorem K6 (a b:au oJ):bj (a++b)=bj a++bj b:=by simp[bj]
theorem Qe (a b:au oJ):dc (a++b)=dc a+dc b:=by simp[dc]
theorem Qx:∀(l:au oJ)(p:cM),dH (iA p (bj l))=true->qz p l=iA p (bj l)
 |[],p,_=>by simp[qz,bj,iA]
 |x::l,p,h=>by
  have e:bj (x::l)=x.2.2++bj l:=by simp[bj]
  rw[e]at h;have h1:dH (iA p x.2.2)=true:=FI (p:=iA p (x.2.2++bj l)) h (by show(p.2.2.2++x.2.2).Sublist (p.2.2.2++(x.2.2++bj l));grind);have h0:dH p=true:=FI (p:=iA p x.2.2) h1 (List.sublist_append_left _ _);have hg:(HL p x.2.2).1=iA p x.2.2:=by grind[HL,Fl]
  have ea:iA (iA p x.2.2) (bj l)=iA p (x.2.2++bj l):=by simp[iA]
  rw[qz,hg,Qx l _ (by rw[ea];exact h),ea,e]
theorem agj (h:Ig t)(hr:du r=true)(hn:r.2.1=t.1.2.1):Ig (r,t.2):=
 ⟨hr,h.next,λx hx=>by show(1<=x.2.1/\x.2.1<=r.2.1)/\_;rw[hn];exact h.sent x hx,h.pool,by show dc t.2.2.1<=r.2.1;rw[hn];exact h.H8⟩
theorem Wl (h:Ig t)(n:Int):Ig (jK t n).1:=by
 unfold jK;cases hc:JY t&&dy n 0 (t.2.2.1.length:Int);exact h;simp only[ah,bl]at hc;have hs:t.2.2.1.take n.toNat++t.2.2.1.drop n.toNat=t.2.2.1:=bW _ _;have hb:bj t.2.2.1=bj (t.2.2.1.take n.toNat)++bj (t.2.2.1.drop n.toNat):=by rw[<-K6,hs]
 have hp:dH (iA t.2.1 (bj (t.2.2.1.take n.toNat)))=true:=FI (p:=iA t.2.1 (bj t.2.2.1)) h.pool (by show(t.2.1.2.2.2++_).Sublist (t.2.1.2.2.2++_);rw[hb];exact(List.sublist_append_left _ _).append_left _);have hg:=Qx _ _ hp;refine⟨h.ring,h.next,λx hx=>h.sent x (List.mem_of_mem_drop hx),?_,?_⟩;show dH (iA (qz t.2.1 (t.2.2.1.take n.toNat)) (bj (t.2.2.1.drop n.toNat)))=true;rw[hg,show iA (iA t.2.1 (bj (t.2.2.1.take n.toNat))) (bj (t.2.2.1.drop n.toNat))=iA t.2.1 (bj t.2.2.1) by rw[hb];simp[iA]];exact h.pool;show dc (t.2.2.1.drop n.toNat)<=t.1.2.1;have h1:dc t.2.2.1=dc (t.2.2.1.take n.toNat)+dc (t.2.2.1.drop n.toNat):=by rw[<-Qe,hs]
 have h2:0<=dc (t.2.2.1.take n.toNat):=Ap t.1.2.1 _ (by rw[aL];exact λx hx=>Jw.2 (h.sent x (List.mem_of_mem_take hx)));have:=h.H8;omega
theorem MZ (l:au ay)(m:bD)(d:Int):∀(n:Nat)(acc:au CY)(r:kg),du r=true->du (uX l m d n acc r).2.1=true/\(uX l m d n acc r).2.1.2.1=r.2.1
 |0,acc,r,h=>⟨h,rfl⟩
 |n+1,acc,r,h=>by have k:=lz h;have ht:=Ri h l m d;rw[uX];cases !(bu l m d r).2.2|| !(dB (bu l m d r).1).2 with|true=>grind[FM]|false=>cases Pp (dB (bu l m d r).1).1 with|true=>exact ht|false=>have:=MZ l m d n (acc++[(dB (bu l m d r).1).1]) _ ht.1;grind
theorem W5 (h:du r=true)(l:au ay)(m:bD)(d:Int):du (dW l m d r).2.1=true/\(dW l m d r).2.1.2.1=r.2.1:=by unfold dW;cases !du r||(cj r==0)with|true=>exact⟨h,rfl⟩|false=>exact MZ l m d _ _ _ h
theorem Vo (h:du r=true)(l:au ay)(m:bD)(d:Int):du (gT l m d r).1=true/\(gT l m d r).1.2.1=r.2.1:=by grind[W5,gT]
theorem F4 (l:au ay)(m:bD)(d:Int):∀(n:Nat)(fr:bD)(dn bd:Nat)(r:kg),du r=true->du (ow l m d n fr dn bd r).1=true/\(ow l m d n fr dn bd r).1.2.1=r.2.1
 |0,fr,dn,bd,r,h=>⟨h,rfl⟩
 |n+1,fr,dn,bd,r,h=>by
  have k:=Vo h l m d;rw[ow];cases (gT l m d r).2.2==0;case true=>exact⟨h,rfl⟩
  cases (gT l m d r).2.2==1 with|true=>have:=F4 l m d n (fr++(gT l m d r).2.1) (dn+1) bd _ k.1;grind|false=>have:=F4 l m d n (fr++(gT l m d r).2.1) dn (bd+1) _ k.1;grind
theorem Jn (l:au ay)(d:Int):∀(q:bD)(m:bD)(r:kg){x},oY l d q m r=some x->(du r=true->du x.2=true/\x.2.2.1=r.2.1)/\(cG m=true->cG x.1=true)
 |[],m,r,x,h=>by cases h;grind
 |s::q,m,r,x,h=>by rw[oY]at h;cases hq:(db l m d r s).2.2 with|false=>grind|true=>rw[hq]at h;have k:=Jn l d q _ _ h;grind[Lt,VH]
theorem Q1 (l:au ay)(d:Int)(p:cM)(z:Nat):∀(q:cL)(s:Bytes)(m:bD)(a:au eQ){x},vm l d p z q s m a=some x->cG m=true->cG x.2=true
 |[],s,m,a,x,h,hm=>by cases h;exact hm
 |b::q,s,m,a,x,h,hm=>by rw[vm]at h;cases hq:(lF l m d (lD p b) (s.take z) false).2 with|false=>grind|true=>rw[hq]at h;exact Q1 l d p z q _ _ _ h (FF hm ..)
theorem abN {p:cM}(h:dH p=true){l:cL}(hl:l.Perm p.2.2.2):dH (p.1,p.2.1,p.2.2.1,l)=true:=by grind[Jl]
theorem abY (h:Ig t)(hm:cG m=true)(l:au ay)(d c:Int){n:Nat}(hf:Iz t n=true)(x:au eQ×bD)(hx:cG x.2=true):cG (LM l m d t c n x).1=true/\Ig (LM l m d t c n x).2.1:=by
 unfold LM sJ;cases hp:oY l d ((mT x.1 c t.2.2.2).map za) x.2 t.1 with
 |none=>exact⟨hm,h⟩
 |some y=>
  have k:=Jn l d _ _ _ hp;have kr:=k.1 h.ring;refine⟨k.2 hx,?_⟩;unfold Iz at hf;simp only[ah,aN,cP]at hf;have ht:iO t.2.1 (n:Int)=((t.2.1.1,t.2.1.2.1,t.2.1.2.2.1,t.2.1.2.2.2.drop n),t.2.1.2.2.2.take n,true):=by have h1:=hf.1;unfold iO at h1⊢;cases hc:dH t.2.1&&dy (n:Int) 0 (t.2.1.2.2.2.length:Int)with|false=>rw[hc]at h1;cases h1|true=>simp only[af,az]
  have h0:0<=dc t.2.2.1:=Ap t.1.2.1 _ (by rw[aL];exact λx hx=>Jw.2 (h.sent x hx));show Ig (y.2,(iO t.2.1 (n:Int)).1,t.2.2.1++[(t.2.2.2,(n:Int)+1,(iO t.2.1 (n:Int)).2.1)],tmod (t.2.2.2+1) 65536);rw[ht];have hn:=h.next
  refine⟨kr.1,?_,?_,?_,?_⟩;have:=KZ (x:=t.2.2.2) (n:=65536);show 0<=tmod (t.2.2.2+1) 65536/\tmod (t.2.2.2+1) 65536<=65535;rw[this];split<;>omega;intro s hs;show(1<=s.2.1/\s.2.1<=y.2.2.1)/\0<=s.1/\s.1<=65535;rw[kr.2];rcases aA.1 hs with hs|hs;exact h.sent s hs;rw[cH.1 hs];show(1<=(n:Int)+1/\(n:Int)+1<=t.1.2.1)/\0<=t.2.2.2/\t.2.2.2<=65535;omega;refine abN (p:=iA t.2.1 (bj t.2.2.1)) h.pool ?_;show(t.2.1.2.2.2.drop n++bj (t.2.2.1++[_])).Perm (t.2.1.2.2.2++bj t.2.2.1);rw[K6,show bj [(t.2.2.2,(n:Int)+1,t.2.1.2.2.2.take n)]=t.2.1.2.2.2.take n by simp[bj]];refine(List.perm_append_comm_assoc _ _ _).trans ?_;refine(List.perm_append_comm).trans ?_;exact((List.perm_append_comm.trans (by rw[bW])).append_right _);show dc (t.2.2.1++[_])<=y.2.2.1;rw[Qe,kr.2,show dc [(t.2.2.2,(n:Int)+1,t.2.1.2.2.2.take n)]=(n:Int)+1 by simp[dc]];omega
theorem abX (h:Ig t)(hm:cG m=true)(l:au ay)(d:Int)(p:aD)(c z:Int):cG (vg l m d t p c z).1=true/\Ig (vg l m d t p c z).2.1:=by unfold vg;cases JY t&&(dm p&&(dy z 1 t.2.1.2.1&&dy c 1 128));exact⟨hm,h⟩;cases hf:Iz t (oK p z.toNat);exact⟨hm,h⟩;simp only[af];cases hw:vm l d t.2.1 z.toNat (iO t.2.1 (oK p z.toNat:Int)).2.1 (ic p).1 m []with|none=>exact⟨hm,h⟩|some x=>exact abY h hm l d c hf x (Q1 l d _ _ _ _ _ _ hw hm)
theorem VN {a b s k f w:Int}(h1:0<=a/\a<=65535)(h2:0<=b/\b<=65535)(h3:0<=s/\s<=4294967295)(h4:0<=k/\k<=4294967295)(h5:0<=f/\f<=31)(h6:0<=w/\w<=65535)(hx:x.length<=320):vf (6,a,b,s,k,f,w,x)=true:=by grind[vf,bl]
theorem aex {a b:Int}(h1:0<=a/\a<=65535)(h2:0<=b/\b<=65535)(hx:x.length<=320):vf (17,a,b,0,0,0,0,x)=true:=by grind[vf,bl]
theorem abW (h:vf g=true)(hx:x.length<=320):vf (g.1,g.2.1,g.2.2.1,g.2.2.2.1,g.2.2.2.2.1,g.2.2.2.2.2.1,g.2.2.2.2.2.2.1,x)=true:=by grind[vf]
theorem adi {a b v t i l s:Int}(h1:0<=a/\a<=281474976710655)(h2:0<=b/\b<=281474976710655)(h3: -1<=v/\v<=4095)(h4:0<=t/\t<=255)(h5:0<=i/\i<=65535)(h6:0<=l/\l<=255)(h7:0<=s/\s<=4294967295)(h8:0<=d/\d<=4294967295)(hg:vf g=true):vQ (a,b,v,t,i,l,s,d,g)=true:=by grind[vQ,bl]
theorem Vp (p:aD):gn p=true↔vQ p=true/\p.2.2.2.2.2.2.2.2.2.2.2.2.2.2.2.length<=128:=by grind[gn,dm]
theorem ZN (h:vf g=true)(h6:g.1=6):(0<=g.2.1/\g.2.1<=65535)/\(0<=g.2.2.1/\g.2.2.1<=65535)/\(0<=g.2.2.2.1/\g.2.2.2.1<=4294967295)/\(0<=g.2.2.2.2.1/\g.2.2.2.2.1<=4294967295)/\(0<=g.2.2.2.2.2.1/\g.2.2.2.2.2.1<=31)/\(0<=g.2.2.2.2.2.2.1/\g.2.2.2.2.2.2.1<=65535)/\g.2.2.2.2.2.2.2.length<=320:=by simp_all[FQ,vf,bl]
theorem OA (h:vf g=true)(h6:g.1=6){s f:Int}(hs:0<=s/\s<=4294967295)(hf:0<=f/\f<=31)(hx:x.length<=320):vf (g.1,g.2.1,g.2.2.1,s,g.2.2.2.2.1,f,g.2.2.2.2.2.2.1,x)=true:=by grind[ZN,VN]
theorem C9 (h:vQ p=true){i:Int}(hi:0<=i/\i<=65535)(hg:vf g=true):vQ (p.1,p.2.1,p.2.2.1,p.2.2.2.1,i,p.2.2.2.2.2.1,p.2.2.2.2.2.2.1,p.2.2.2.2.2.2.2.1,g)=true:=by grind[vQ,bl]
theorem Nx (h:vQ p=true):0<=p.2.2.2.2.1/\p.2.2.2.2.1<=65535:=by grind[vQ,bl]
theorem afP {i:Int}(h:0<=i/\i<=65535):0<=tmod (ak (i+1)) 65536/\tmod (ak (i+1)) 65536<=65535:=by grind[ai]
theorem ad6 {s:Int}{n:Nat}(h:0<=s/\s<=4294967295)(hn:n<=320):0<=tmod (ak (s+(n:Int))) 4294967296/\tmod (ak (s+(n:Int))) 4294967296<=4294967295:=by grind[ai]
theorem R6 (v:Vector):Iv v=true↔1<=v.2.2.1/\(v.1<=v.2.2.1\/v.2.1<=v.2.2.2.1):=by unfold Iv;by_cases h1:v.2.2.1>=1;rw[aw h1,af];by_cases h2:v.2.2.1>=v.1;simp;omega;rw[ar h2,ae,bp];omega;rw[ar h1];simp;omega
theorem ahS (v:Vector):ft v=(dy v.1 1 64&&(dy v.2.1 0 64&&(dy v.2.2.1 0 1000000&&(dy v.2.2.2.1 0 1000000&&((decide (v.2.2.1>0)||(v.2.2.2.1==0))&&(v.2.2.2.2.2==(Iv v&& !v.2.2.2.2.1))))))):=by have h:=rN v;unfold gI at h;simp only[cx,ZU,ab]at h;generalize ft v=w at h⊢;revert h;cases dy v.1 1 64;(intro h;cases h;rfl);cases dy v.2.1 0 64;(intro h;cases h;rfl);cases dy v.2.2.1 0 1000000;(intro h;cases h;rfl);cases dy v.2.2.2.1 0 1000000;(intro h;cases h;rfl);cases decide (v.2.2.1>0)<;>cases (v.2.2.2.1==0)<;>cases Iv v<;>(simp_all)
theorem Ey (v:Vector):ft v=true↔(1<=v.1/\v.1<=64)/\(0<=v.2.1/\v.2.1<=64)/\(0<=v.2.2.1/\v.2.2.1<=1000000)/\(0<=v.2.2.2.1/\v.2.2.2.1<=1000000)/\(v.2.2.1>0\/v.2.2.2.1=0)/\v.2.2.2.2.2=(Iv v&& !v.2.2.2.2.1):=by grind[ahS,bl]
theorem Iq {v:Vector}(h1:1<=v.1/\v.1<=64)(h2:0<=v.2.1/\v.2.1<=64)(h3:0<=v.2.2.1/\v.2.2.1<=1000000)(h4:0<=v.2.2.2.1/\v.2.2.2.1<=1000000)(h5:v.2.2.1>0\/v.2.2.2.1=0)(hr:v.2.2.2.2.2=true->Iv v=true/\v.2.2.2.2.1=false):ft (CF v)=true:=by grind[CF,Iv,Ey]
theorem Ou {v:Vector}(h:ft v=true)(hr:v.2.2.2.2.2=true):Iv v=true/\v.2.2.2.2.1=false:=by grind[Ey]
theorem aeX {n:Int}(h:0<=n/\n<=1000000):n<=upM n/\0<upM n/\upM n<=1000000:=by grind[upM,ai]
theorem ahT {v:Vector}(h:ft v=true):ft (evV v)=true:=by have k:=(Ey v).1 h;have u:=aeX k.2.2.1;grind[evV,Iq,R6]
theorem ae0 {v:Vector}(h:ft v=true):ft (O4 v)=true:=by have k:=(Ey v).1 h;have u:=aeX k.2.2.2.1;unfold O4;rw[h,af];by_cases h0:v.2.2.1>0;rw[aw h0,af];refine Iq k.1 k.2.1 k.2.2.1 ⟨by show 0<=upM v.2.2.2.1;omega,u.2.2⟩ (Or.inl h0) λhr=>?_;have d:=Ou h hr;have d1:=(R6 v).1 d.1;exact⟨(R6 _).2 ⟨d1.1,by show v.1<=v.2.2.1\/v.2.1<=upM v.2.2.2.1;omega⟩,d.2⟩;rw[ar h0,ae];exact Iq k.1 k.2.1 k.2.2.1 k.2.2.2.1 k.2.2.2.2.1 λhr=>Ou h hr
theorem aeZ {v:Vector}(h:ft v=true):ft (BX v).1=true:=by grind[Ey,BX]
theorem YT {v:Vector}(h:ft v=true):ft (Ev v)=true:=by grind[Ey,Ev,Iq]
theorem acw {v:Vector}(h:ft v=true):ft (v.1,v.2.1,0,0,false,false)=true:=by grind[Ey,Iv]
structure B6 (n:Int) (r:bm):Prop where
 ring:du r.1=true
 dev:fB r.2.1=true
 drv:fB r.2.2.1=true
 base:r.2.1.1=r.2.2.1.1
 size:r.2.1.2.1=r.2.2.1.2.1
 drop:0<=r.2.2.2.2.2/\r.2.2.2.2.2<=n
 held:r.2.2.2.2.1=true->dm r.2.2.2.1.1=true/\(0<=r.2.2.2.1.2.1/\r.2.2.2.1.2.1<=320)/\1<=r.2.2.2.1.2.2/\r.2.2.2.1.2.2<=320
 free:r.2.2.2.2.1=false->r.2.2.2.1=acr
theorem aev (r:bm):Hj r=true↔B6 1000000000000 r:=by constructor;intro h;unfold Hj at h;simp only[ah,bw,bl]at h;obtain⟨⟨h1,h2,h3,h4,h5,h6⟩,h7⟩:=h;refine⟨h1,h2,h3,h4,h5,h6,λhh=>?_,λhh=>?_⟩;rw[hh,af]at h7;simp only[ah,bl]at h7;exact⟨h7.1,h7.2.1,h7.2.2⟩;rw[hh,ae]at h7;exact(aeO _).1 h7;intro h;unfold Hj;simp only[ah,bw,bl];refine⟨⟨h.ring,h.dev,h.drv,h.base,h.size,h.drop⟩,?_⟩;cases hh:r.2.2.2.2.1 with|true=>have:=h.held hh;simp only[af,ah,bl];exact⟨this.1,this.2.1,this.2.2⟩|false=>exact(aeO _).2 (h.free hh)
theorem B6.mono {n m:Int}{r:bm}(h:B6 n r)(hn:n<=m:=by omega):B6 m r:=⟨h.ring,h.dev,h.drv,h.base,h.size,⟨h.drop.1,by have:=h.drop.2;omega⟩,h.held,h.free⟩
theorem B6.rx {n:Int}{r:bm}(h:B6 n r)(hn:n<=1000000000000):Hj r=true:=(aev r).2 (h.mono hn)
theorem abj (h:cG m=true)(l:au ay)(d:Int)(q:K0)(x:DF):cG (Ai l m d q x).1=true:=by grind[Ai,FF]
theorem abk (h:cG m=true)(l:au ay)(d:Int)(q:bm)(k s:Bytes):cG (iR l m d q k s).1=true:=by unfold iR;cases !(dB s).2||(((dB s).1.1 !=3)||decide ((dB s).1.2.2.1<((eD q.2.2.2.1.1).1.length)));all_goals grind[abj,FF]
theorem agd {l:au ay}{q:bm}{k s:Bytes}(hm:cG m=true)(hq:fB q.2.1=true):fB (iR l m d q k s).2.1=true/\(iR l m d q k s).2.1.1=q.2.1.1/\(iR l m d q k s).2.1.2.1=q.2.1.2.1:=(RG (n:=128) (by omega) (Q8 (by omega) (vy.1 hm)) hq).2.2
theorem HI {n:Int}(hn:n<=900000000000){q:bm}(h:B6 n q)(hm:cG m=true)(l:au ay)(d:Int)(k:Bytes):cG (ib l m d q k).1=true/\B6 (n+320) (ib l m d q k).2:=by
 unfold ib;cases hc: !Hj q||(!q.2.2.2.2.1||((k.length:Int) !=16));case true=>exact⟨hm,h.mono⟩
 simp only[cX,dL]at hc;have hh:=h.held hc.2.1;have hd:=h.drop;have hr:=Ri h.ring l m d;have hs:=agd (l:=l) (d:=d) (k:=k) (s:=(bu l m d q.1).1) hm h.dev;cases (bu l m d q.1).2.2&&(iR l m d q k (bu l m d q.1).1).2.2 with|true=>exact⟨abk hm ..,hr.1,hs.1,h.drv,hs.2.1.trans h.base,hs.2.2.trans h.size,⟨hd.1,by grind⟩,λhf=>(by cases hf),λ_=>rfl⟩|false=>refine⟨hm,hr.1,h.dev,h.drv,h.base,h.size,?_,λhf=>(by cases hf),λ_=>rfl⟩;grind[ai]
theorem afH {s:mS}(h:GR s p=true):dm (EO s p).1=true/\(0<=(EO s p).2.1/\(EO s p).2.1<=320)/\1<=(EO s p).2.2/\(EO s p).2.2<=320:=by
 have hl:=Mn h;unfold EO;rw[h,af];simp only[GR,Zm,OE,ah,bp,bl,bw]at h;obtain⟨⟨hs,hp,aiB,h6,Us,hf⟩,⟨hz,hc,hn,BD,ao0⟩,_⟩:=h;have aoX:s.2.2+1<=320:=by
  have:s.2.2<=s.2.1*s.2.2:=by have:=Int.mul_le_mul_of_nonneg_right hz (show 0<=s.2.2 by omega);omega
  omega
 have aiK:s.2.1<=320:=by
  have:s.2.1<=s.2.1*s.2.2:=by have:=Int.mul_le_mul_of_nonneg_left hc.1 (show 0<=s.2.1 by omega);omega
  omega
 refine⟨?_,⟨by show 0<=s.2.1;omega,aiK⟩,?_⟩;have hh:vQ s.1=true:=by unfold dm at hs;simp only[ah]at hs;exact hs.1
 have hk:s.1.2.2.2.2.2.2.2.2.1=6:=by
  have e:s.1.2.2.2.2.2.2.2.2.1=p.2.2.2.2.2.2.2.2.1:=by have h2:=aiB;unfold Lz at h2;simp only[ah,bw]at h2;exact h2.2.2.2.2.2.2.2.1
  rw[e];exact h6
 have hsg:=Da hh;have hfl:=D6 hp (by rw[h6];rfl);have hg:=OA hsg hk (ZN hsg hk).2.2.1 (bl.1 hfl) (by rw[aq];omega);unfold dm;rw[ah];refine⟨C9 hh (Nx hh) hg,?_⟩;rw[hk,hf];simp;show 1<=ak (s.2.2+1)/\ak (s.2.2+1)<=320;rw[ai (by omega) (by omega)];omega
theorem afq {n:Int}{q:bm}(h:B6 n q){s:mS}(hs:dm s.1=true)(h1:0<=s.2.1/\s.2.1<=320)(h2:1<=s.2.2/\s.2.2<=320):B6 n (Ny q s):=⟨h.ring,h.dev,h.drv,h.base,h.size,h.drop,λ_=>⟨hs,h1,h2⟩,λhf=>(by cases hf)⟩
theorem ab0 (h:gn p=true):dm (mR p).1=true/\(0<=(mR p).2.1/\(mR p).2.1<=320)/\1<=(mR p).2.2/\(mR p).2.2<=320:=by
 have hl:=D7 h;have hs:dm p=true:=by grind[gn]
 refine⟨hs,?_,by show(1)<=1/\(1)<=320;omega⟩;show 0<=(p.2.2.2.2.2.2.2.2.2.2.2.2.2.2.2.length:Int)/\(p.2.2.2.2.2.2.2.2.2.2.2.2.2.2.2.length:Int)<=320;omega
theorem TR {n:Int}(hn:n<=800000000000){q:bm}(h:B6 n q)(hm:cG m=true)(l:au ay)(d:Int)(k:Bytes)(p:aD)(c:Bool):cG (iS l m d q k p c).1=true/\B6 (n+640) (iS l m d q k p c).2:=by
 unfold iS;cases hc: !Hj q||(!gn p||((k.length:Int) !=16));case true=>exact⟨hm,h.mono⟩
 simp only[cX,dL]at hc;have hs:=ab0 hc.2.1;have hf:=HI (by omega) h hm l d k;have EH:=afq hf.2 hs.1 hs.2.1 hs.2.2;cases hj:c&&(q.2.2.2.2.1&&GR q.2.2.2.1 p)with|true=>simp only[ah]at hj;have j:=afH hj.2.2;exact⟨hm,h.ring,h.dev,h.drv,h.base,h.size,⟨h.drop.1,by show q.2.2.2.2.2<=n+640;have:=h.drop.2;omega⟩,λ_=>j,λhf=>(by grind)⟩|false=>cases c with|true=>exact⟨hf.1,EH.mono⟩|false=>have:=HI (by omega) EH hf.1 l d k;grind
theorem ahE {l:au ay}{q:K0}(h:fB q=true):fB (oG l m d q).2.1=true/\(oG l m d q).2.1.1=q.1/\(oG l m d q).2.1.2.1=q.2.1:=by unfold oG;cases Mv l m d q with|false=>grind|true=>grind[la,agI,fB,bl,Dw]
theorem Ye {n:Int}{s:au Stream×bm×cM}(h:B6 n s.2.1)(hp:dH s.2.2=true)(l:au ay)(m:bD)(d:Int):B6 n (BM l m d s).2.1/\dH (BM l m d s).2.2=true:=by have k:=ahE (l:=l) (m:=m) (d:=d) h.drv;exact⟨⟨h.ring,h.dev,k.1,h.base.trans k.2.1.symm,h.size.trans k.2.2.symm,h.drop,h.held,h.free⟩,abM hp _⟩
theorem Ol (l:au ay)(m:bD)(d:Int){n:Int}:∀(k:Nat)(s:au Stream×bm×cM),B6 n s.2.1->dH s.2.2=true->B6 n (hG l m d k s).2.2.1/\dH (hG l m d k s).2.2.2=true
 |0,s,h,hp=>⟨h,hp⟩
 |k+1,s,h,hp=>by rw[hG];cases (oG l m d s.2.1.2.2.1).2.2 with|false=>exact⟨h,hp⟩|true=>have e:=Ye h hp l m d;exact Ol l m d k _ e.1 e.2
theorem Ng (l:au ay)(d:Int)(p:cM):∀(q:cL)(m:bD)(r:kg),cG m=true->du r=true->cG (oD l d p q m r).2.1=true/\du (oD l d p q m r).2.2=true
 |[],m,r,hm,hr=>⟨hm,hr⟩
 |b::q,m,r,hm,hr=>by rw[oD];cases (db l m d r (fE p b)).2.2 with|false=>exact⟨hm,hr⟩|true=>exact Ng l d p q _ _ (Lt hm ..) (VH hr ..).1
theorem Qr (hm:cG m=true)(hr:du r=true){p:cM}(hp:dH p=true)(l:au ay)(d:Int):cG (vO l m d r p).1=true/\du (vO l m d r p).2.1=true/\dH (vO l m d r p).2.2.1=true:=by unfold vO;have k:=Ng l d p p.2.2.2 m r hm hr;grind[FI]
theorem Rc {n:Int}{rx:bm}(h:B6 n rx)(hm:cG m=true){pl:cM}(hp:dH pl=true)(l:au ay)(d:Int)(st:au Stream)(c:Int):cG (iZ l m d rx pl st c).1=true/\B6 n (iZ l m d rx pl st c).2.1/\dH (iZ l m d rx pl st c).2.2.1=true:=by
 unfold iZ;cases !Hj rx||(!dH pl|| !dy c 0 1000);case true=>grind
 have k:=Ol l m d c.toNat (st,rx,pl) h hp;have f:=Qr hm k.1.ring k.2 l d;exact⟨f.1,⟨f.2.1,k.1.dev,k.1.drv,k.1.base,k.1.size,k.1.drop,k.1.held,k.1.free⟩,f.2.2⟩
structure Good (n:Int) (h:Host):Prop where
 mem:cG h.1=true
 maps:eX h.2.1=true
 tx:Ig h.2.2.1
 IC:qy h.2.2.2.2.2.2.2.1=true
 lens:mV h=true
 RE:eF h.2.2.2.2.2.2.2.2.1 (h.2.2.2.1.length:Int)=true
 rx:∀r∈h.2.2.2.1,B6 n r
 pool:∀p∈h.2.2.2.2.1,dH p=true
 vec:∀v∈h.2.2.2.2.2.1,ft v=true
 H8:∀x∈fY h,0<=x/\x<=n
theorem Good.mono {n m:Int}(g:Good n h)(hn:n<=m:=by omega):Good m h:=⟨g.mem,g.maps,g.tx,g.IC,g.lens,g.RE,λr hr=>(g.rx r hr).mono hn,g.pool,g.vec,λx hx=>⟨(g.H8 x hx).1,by have:=(g.H8 x hx).2;omega⟩⟩
theorem adp (h:Host):dw h=true↔Good 1000000000000 h:=by unfold dw Rj;simp only[ah,aL,bl,ahR,aev];constructor;rintro⟨h1,h2,h3,h4,h5,h6,⟨h7,h8,h9⟩,h10⟩;exact⟨h1,h2,h3,h4,h5,h6,h7,h8,h9,h10⟩;intro g;exact⟨g.mem,g.maps,g.tx,g.IC,g.lens,g.RE,⟨g.rx,g.pool,g.vec⟩,g.H8⟩
theorem Good.ok {n:Int}(g:Good n h)(hn:n<=1000000000000):dw h=true:=(adp h).2 (g.mono hn)
theorem uk {P:α->Prop}{l:au α}{i:Nat}{v:α}(h:∀x∈l,P x)(hv:P v):∀x∈l.set i v,P x:=by grind
theorem afn {n:Int}(g:Good n h)(k:Nat):Good n (evS k h):=by unfold evS;cases hv:h.2.2.2.2.2.1[k]? with|none=>exact g|some v=>exact⟨g.mem,g.maps,g.tx,g.IC,by have:=g.lens;grind[mV],g.RE,g.rx,g.pool,uk g.vec (ahT (g.vec v (bn hv))),g.H8⟩
theorem Ul {n:Int}(g:Good n h)(k:Nat):∀i,Good n (R7 k i h)
 |0=>g
 |i+1=>afn (Ul g k i) k
theorem Lg {n:Int}(g:Good n h)(k:Nat)(b:Int){f:bD×bm}(h1:cG f.1=true)(h2:B6 n f.2):Good n (H5 h k b f):=by refine Ul (h:=EP h k f) ⟨h1,g.maps,g.tx,g.IC,?_,?_,uk g.rx h2,g.pool,g.vec,g.H8⟩ _ _;have:=g.lens;unfold mV EP at*;simp only[aB];exact this;show eF _ ((h.2.2.2.1.set k f.2).length)=true;rw[aB];exact g.RE
theorem Um {n:Int}(hn:n<=800000000000)(g:Good n h)(k:Nat):Good (n+320) (iQ k h):=by unfold iQ;cases hx:h.2.2.2.1[k]? with|none=>exact g.mono|some x=>have f:=HI (by omega) (g.rx x (bn hx)) g.mem h.2.1 0 h.2.2.2.2.2.2.2.2.1.2.2.1;exact Lg (g.mono) k _ f.1 f.2
theorem Ns {n:Int}(hn:n<=700000000000)(g:Good n h):Good (n+640) (tu h):=by
 unfold tu;have hl:=lu g.lens;cases dw h with
 |false=>exact g.mono
 |true=>
  have key:∀k:Nat,k<=2->Good (n+320*(k)) (gb iQ k h):=by intro k;induction k with|zero=>intro _;exact g.mono|succ k ih=>intro hk;exact(Um (by omega) (ih (by omega)) k).mono
  exact(key _ hl.1).mono
theorem Qy {n:Int}(g:Good n h):Good n (Am h):=by
 unfold Am;cases dw h with
 |false=>exact g
 |true=>
  have key:∀k,Good n (gb qZ k h):=by intro k;induction k with|zero=>exact g|succ k ih=>show Good n (qZ k (gb qZ k h));generalize gb qZ k h=s at ih⊢;unfold qZ;cases hv:s.2.2.2.2.2.1[k]? with|none=>exact ih|some v=>exact⟨ih.mem,ih.maps,ih.tx,ih.IC,by have:=ih.lens;grind[mV],ih.RE,ih.rx,ih.pool,uk ih.vec (ae0 (ih.vec v (bn hv))),ih.H8⟩
  exact key _
theorem aay {n:Int}(g:Good n h)(p:aD)(c z:Int):Good n (Ak h p c z).1:=by unfold Ak;cases dw h with|false=>exact g|true=>have k:=abX g.tx g.mem h.2.1 0 p c z;exact⟨k.1,g.maps,k.2,g.IC,g.lens,g.RE,g.rx,g.pool,g.vec,g.H8⟩
theorem G3 {n:Int}(g:Good n h):Good n (iG h):=by unfold iG;cases dw h with|false=>exact g|true=>have r:=F4 h.2.1 h.1 0 17 [] 0 0 h.2.2.1.1 g.tx.ring;exact⟨g.mem,g.maps,Wl (agj g.tx r.1 r.2) _,g.IC,g.lens,g.RE,g.rx,g.pool,g.vec,g.H8⟩
theorem E5 {x n:Int}(h:0<=x/\x<=n)(hn:n<=800000000000:=by omega):0<=ak (x+1)/\ak (x+1)<=n+1:=by grind[ai]
theorem DQ {n:Int}(hn:n<=800000000000)(g:Good n h){a b c:Int}(ha:0<=a/\a<=n+1)(hb:0<=b/\b<=n+1)(hc:0<=c/\c<=n+1)(hd:0<=d/\d<=n+1):Good (n+1) (Br h a b c d):=by have k:=g.mono (show n<=n+1 by omega);refine⟨k.mem,k.maps,k.tx,k.IC,k.lens,k.RE,k.rx,k.pool,k.vec,λx hx=>?_⟩;have h1:=E5 (g.H8 _ (List.mem_cons_self ..)) hn;grind[fY,Br]
theorem Sf {n:Int}(hn:n<=700000000000)(g:Good n h)(x:Bytes):Good (n+641) (mf h x):=by
 have c1:=g.H8 h.2.2.2.2.2.2.2.2.2.2.2.2.2.2.2.1 (by simp[fY]);have c2:=g.H8 h.2.2.2.2.2.2.2.2.2.2.2.2.2.2.2.2.1 (by simp[fY]);have c3:=g.H8 h.2.2.2.2.2.2.2.2.2.2.2.2.2.2.2.2.2.1 (by simp[fY]);have c4:=g.H8 h.2.2.2.2.2.2.2.2.2.2.2.2.2.2.2.2.2.2 (by simp[fY]);have u:∀{y:Int},0<=y/\y<=n->0<=y/\y<=n+1:=λhy=>⟨hy.1,by omega⟩
 unfold mf;cases dw h;exact g.mono;cases (kJ x).2 !=0;case true=>exact(DQ (by omega) g (E5 c1) (u c2) (u c3) (u c4)).mono
 cases !nt h.2.2.2.2.2.2.2.1 (kJ x).1;case true=>exact(DQ (by omega) g (u c1) (E5 c2) (u c3) (u c4)).mono
 cases ou h.2.2.2.2.2.2.2.2.1 (h.2.2.2.1.length) (kJ x).1== -1;case true=>exact(DQ (by omega) g (u c1) (u c2) (E5 c3) (u c4)).mono
 cases hq:h.2.2.2.1[(ou h.2.2.2.2.2.2.2.2.1 (h.2.2.2.1.length) (kJ x).1).toNat]? with|none=>exact g.mono|some q=>have a:=TR (by omega) (g.rx q (bn hq)) g.mem h.2.1 0 h.2.2.2.2.2.2.2.2.1.2.2.1 (kJ x).1 h.2.2.2.2.2.2.2.2.2.2.1;exact Lg ((DQ (by omega) g (u c1) (u c2) (u c3) (E5 c4)).mono) _ _ a.1 (a.2.mono)
theorem Un {n:Int}(g:Good n h)(i:Nat)(c:Int):Good n (xK h i c).2:=by unfold xK;rcases h1:h.2.2.2.1[i]? with _|rx;exact g;rcases h2:h.2.2.2.2.1[i]? with _|pl;exact g;have k:=Rc (g.rx rx (bn h1)) g.mem (g.pool pl (bn h2)) h.2.1 0 h.2.2.2.2.2.2.2.2.2.1 c;refine⟨k.1,g.maps,g.tx,g.IC,?_,?_,uk g.rx k.2.1,uk g.pool k.2.2,g.vec,g.H8⟩;have:=g.lens;unfold mV at*;simp only[aB];exact this;rw[aB];exact g.RE
theorem Uq {n:Int}(b:Int)(k:Nat){s:Int×Host}(g:Good n s.2):Good n (BP b k s).2:=by unfold BP;rcases h1:s.2.2.2.2.2.2.1[k]? with _|v;exact g;rcases h2:s.2.2.2.2.2.2.2.1[k]? with _|p;exact g;rcases h3:s.2.2.2.2.1[k]? with _|x;exact g;rcases h4:s.2.2.2.2.2.1[k]? with _|pl;exact g;have hv:=aeZ (g.vec v (bn h1));simp only;cases p||(BX v).2 with|false=>refine⟨g.mem,g.maps,g.tx,g.IC,?_,g.RE,g.rx,g.pool,uk g.vec hv,g.H8⟩;have:=g.lens;unfold mV at*;simp only[ae,aB];exact this|true=>have e:=Rc (g.rx x (bn h3)) g.mem (g.pool pl (bn h4)) s.2.2.1 0 s.2.2.2.2.2.2.2.2.2.2.1 b;refine⟨e.1,g.maps,g.tx,g.IC,?_,?_,uk g.rx e.2.1,uk g.pool e.2.2,uk g.vec ?_,g.H8⟩;have:=g.lens;unfold mV at*;simp only[af,aB];exact this;show eF _ ((s.2.2.2.2.1.set k _).length)=true;rw[aB];exact g.RE;cases decide ((iZ s.2.2.1 s.2.1 0 x pl s.2.2.2.2.2.2.2.2.2.2.1 b).2.2.2.2<b)with|true=>exact YT hv|false=>exact hv
theorem Nt {n:Int}(b:Int)(g:Good n h):∀k,Good n (jG b k h).2
 |0=>g
 |k+1=>Uq b k (Nt b g k)
theorem IG {n:Int}(g:Good n h)(b:Int):Good n (mi h b).1:=by grind[mi,Nt]
theorem IE {n:Int}(g:Good n h):∀k,Good n (ly h k)
 |0=>g
 |k+1=>Un (IE g k) k 1000
theorem aax {n:Int}(g:Good n h)(l:cL):Good n (agJ h l):=⟨g.mem,g.maps,g.tx,g.IC,g.lens,g.RE,g.rx,g.pool,g.vec,g.H8⟩
theorem G2 {n:Int}(g:Good n h):∀k,Good n (returned h k)
 |0=>IE g _
 |k+1=>by show Good n (Ox h.2.2.1.2.2.1 k (returned h k));have:=G2 g k;grind[Ox,aax]
theorem aej {a b n:Int}(ha:0<=a/\a<=130944)(hb:1<=b/\b<=512)(hn:0<=n/\n<=16):iy a b n=((a,b,n,upto n.toNat),true)/\dH (a,b,n,upto n.toNat)=true:=by have h1:dH (a,b,n,[])=true:=Jl.2 ⟨ha,hb,hn,by simp,List.nodup_nil⟩;refine⟨by unfold iy;rw[h1];rfl,Jl.2 ⟨ha,hb,hn,?_,?_⟩⟩;intro x hx;simp only[upto,List.mem_map,cW]at hx;obtain⟨i,hi,rfl⟩:=hx;simp only[Int.ofNat_eq_natCast];omega;unfold upto;rw[List.Nodup,List.pairwise_map];exact List.nodup_range.imp λh he=>h (Int.ofNat.inj he)
theorem aeV (c:Int)(hc:0<=c/\c<=65535):Ig (DC.1,DC.2.1,DC.2.2.1,c):=by refine⟨FM (by omega) (by omega) (by omega) (by omega) (by omega),hc,λx hx=>(by cases hx),?_,by show(0)<=16;omega⟩;rfl
theorem Se {n:Int}(g:Good n h):Good n (oL h):=by have k:=G2 g h.2.2.1.2.2.1.length;exact⟨k.mem,k.maps,aeV _ k.tx.next,k.IC,k.lens,k.RE,k.rx,k.pool,k.vec,k.H8⟩
theorem Y8 {i:Nat}(h:i<=8):0<=gX i/\gX i<=16000:=by unfold gX;omega
theorem Q5 (hm:cG m=true)(l:au ay){i:Nat}(hi:i<=8):cG (wF l m i).1=true/\du (wF l m i).2.1=true/\dH (wF l m i).2.2.1=true:=by have hb:=Y8 hi;have p:=aej (a:=gX i+128) (b:=384) (n:=4) (by omega) (by omega) (by omega);grind[wF,Qr,FF,FM]
theorem VM {i:Nat}(hi:i<=8)(hr:du r=true){n:Int}(hd:0<=d/\d<=n):B6 n (r,(gX i+64,4,0),(gX i+64,4,0),((0,0,0,0,0,0,0,0,0,0,0,0,0,0,0,([]:Bytes)),0,0),false,d):=by
 have hb:=Y8 hi;have hq:fB (gX i+64,4,0)=true:=by have hs:jQ 4=true:=gH.2 (by omega);unfold fB;rw[ah,ah];exact⟨bl.2 (by omega),hs,by rfl⟩
 exact⟨hr,hq,hq,rfl,rfl,hd,λhf=>(by cases hf),λ_=>rfl⟩
theorem Uo {n:Int}(hn:n<=800000000000)(g:Good n h){i:Nat}(hi:i<=8):Good (n+320) (xN i h):=by
 have gm:=g.mono (show n<=n+320 by omega);unfold xN;rcases h1:h.2.2.2.1[i]? with _|x;exact gm;rcases h2:h.2.2.2.2.2.1[i]? with _|v;exact gm;have o:=Q5 g.mem h.2.1 hi;have hx:=g.rx x (bn h1);have hd:0<=Iu x/\Iu x<=n+320:=by have d:=hx.drop;unfold Iu;cases hh:x.2.2.2.2.1 with|false=>simp only[ae];omega|true=>have:=hx.held hh;rw[af,ai (by omega) (by omega)];omega
 refine⟨o.1,gm.maps,gm.tx,gm.IC,?_,?_,uk gm.rx (VM hi o.2.1 hd),uk gm.pool o.2.2,uk gm.vec (acw (g.vec v (bn h2))),gm.H8⟩;have:=g.lens;unfold mV Cm at*;simp only[aB];exact this;unfold Cm;simp only[aB];exact g.RE
theorem G1 {n:Int}(hn:n<=700000000000)(g:Good n h):∀k:Nat,k<=8->Good (n+320*(k:Int)) (eJ h k)
 |0,_=>g.mono
 |k+1,hk=>(Uo (by omega) (G1 hn g k (by omega)) (by omega)).mono
theorem Xl {n:Int}(hn:n<=700000000000)(g:Good n h):Good (n+640) (zO h):=by have hl:=lu g.lens;unfold zO;cases dw h with|false=>exact g.mono|true=>exact(G1 hn (Se g) _ (by omega)).mono
theorem ade {n:Int}(hn:n<=700000000000)(g:Good n h)(a:Act):Good (n+641) (Bp h a).1:=by
 unfold Bp;cases !dw h|| !Ih a;case true=>exact g.mono
 cases a.1==0;case true=>exact(aay g _ _ _).mono
 cases a.1==1;case true=>exact(G3 g).mono
 cases a.1==2;case true=>exact Sf hn g _
 cases a.1==3;case true=>exact(Ns hn g).mono
 cases a.1==4;case true=>exact(Qy g).mono
 cases a.1==5 with|true=>exact(IG g _).mono|false=>exact(Xl hn g).mono
theorem map_take {β:Type}(f:α->β)(l:au α)(i:Nat)(hi:i<l.length):(l.take i).map f++[f l[i]]=(l.take (i+1)).map f:=by grind[bg]
def L8 (n:Nat):bD:=List.replicate n (Ao 128)
theorem abi (n:Nat):L8 (n+1)=L8 n++[Ao 128]:=List.replicate_succ'
theorem Yz (n:Nat)(h:n<=64):rT (n:Int)=some (L8 n):=by have hz:iD 128 0=some (Ao 128):=OL 128;unfold rT;refine cq (λi=>((i:Int),L8 i)) n (by omega) (λi nx hi=>?_) (λnx=>?_);simp only[qU];rw[aw (show(i:Int)<n by omega),af,jy,ab,af,hz,ab,aQ (by simp[L8];omega),ai (by omega) (by omega),abi];rfl;simp only[qU];rw[ar (show¬(n:Int)<n by omega),ae,ab,ae]
def zN (a b:Int):Vector×Bool:=bif ft (a,b,0,0,false,false) then((a,b,0,0,false,false),true) else((0,0,0,0,false,false),false)
theorem YA (a b:Int):wW a b=some (zN a b):=by grind[wW,zN,rN,ab]
def Dl (i:Nat):au ay:=(List.range i).map λ(p:Nat)=>(0,(p:Int),37-(p:Int), !dy (p:Int) 2 9)
theorem XY (i:Nat):Dl (i+1)=Dl i++[(0,(i:Int),37-(i:Int), !dy (i:Int) 2 9)]:=by simp[Dl,List.range_succ]
theorem Ky (i:Nat):(Dl i).length=i:=by simp[Dl]
def Zo (f:Filter)(s:de)(c:Bool)(i:Nat):Host:=(L8 38,Dl i,DC,([]:au bm),([]:au cM),([]:au Vector),([]:au Bool),f,s,([]:au Stream),c,([]:bD),([]:cL),([]:cL),0,0,0,0,0)
theorem ND (h:Cu c):Ends (tf c) λr=>(167772161<=r.1/\r.1<=167772163)/\Cu r.2:=by unfold tf;refine(gx h (by decide)).bind λr hr=>Ends.pure ⟨?_,hr.2⟩;grind[ai]
theorem aat (h:Cu c):Ends (yS c) λr=>(0<=r.1/\r.1<=31)/\Cu r.2:=by unfold yS;exact(iU (P:=λx=>0<=x/\x<=31) h (by decide) (by decide)).bind λr hr=>Ends.pure hr
theorem ahM (h:Cu c){m:Int}(h0:0<=m)(h1:m<=320):Ends (uO c m) λr=>(vf r.1=true/\(r.1.2.2.2.2.2.2.2.length:Int)<=m)/\Cu r.2:=by
 unfold uO;refine(gx h (by decide)).bind λr1 p1=>(gx p1.2 (by decide)).bind λr2 p2=>?_;refine(iU (P:=λx=>0<=x/\x<=4294967295) p2.2 (by simp) ?_).bind λr3 p3=>?_;have:=p2.1;intro x hx;simp only[cg,List.not_mem_nil,or_false]at hx;omega;refine(iU (P:=λx=>0<=x/\x<=4294967295) p3.2 (by decide) (by decide)).bind λr4 p4=>(aat p4.2).bind λr5 p5=>?_;refine(iU (P:=λx=>0<=x/\x<=65535) p5.2 (by decide) (by decide)).bind λr6 p6=>?_;rw[ai (n:=m+1) (by omega) (by omega)];refine(gx p6.2).bind λr7 p7=>(JT p7.2 r7.1).bind λr8 p8=>(yz p8.2 4).bind λr9 p9=>?_;have a1:=p1.1;have a7:=p7.1;have a8:=p8.1.2.1 a7.1 (by omega);rw[ai (n:=1000+r1.1) (by omega) (by omega)];refine Ends.cond (λ_=>Ends.pure ⟨⟨aex (by omega) (by omega) (by omega),?_⟩,p9⟩) λ_=>Ends.pure ⟨⟨VN (by omega) (by omega) p3.1 p4.1 p5.1 p6.1 (by omega),?_⟩,p9⟩;all_goals show(r8.1.length:Int)<=m
 all_goals omega
theorem Q7 (h:Cu c){m:Int}(h0:0<=m:=by omega)(h1:m<=320:=by omega):Ends (lh c m) λr=>(dm r.1=true/\(r.1.2.2.2.2.2.2.2.2.2.2.2.2.2.2.2.length:Int)<=m/\(r.1.2.2.2.2.2.2.2.2.1=6\/r.1.2.2.2.2.2.2.2.2.1=17))/\Cu r.2:=by
 unfold lh;refine(iU (P:=λx=>0<=x/\x<=281474976710655) h (by decide) (by decide)).bind λr1 p1=>?_;refine(iU (P:=λx=>0<=x/\x<=281474976710655) p1.2 (by decide) (by decide)).bind λr2 p2=>?_;refine(iU (P:=λx=> -1<=x/\x<=4095) p2.2 (by decide) (by decide)).bind λr3 p3=>?_;refine(iU (P:=λx=>0<=x/\x<=255) p3.2 (by decide) (by decide)).bind λr4 p4=>?_;refine(iU (P:=λx=>0<=x/\x<=65535) p4.2 (by decide) (by decide)).bind λr5 p5=>?_;refine(iU (P:=λx=>0<=x/\x<=255) p5.2 (by decide) (by decide)).bind λr6 p6=>?_;refine(ND p6.2).bind λr7 p7=>?_;refine(ahM p7.2 (m:=if 128<m then 128 else m) (by split<;>omega) (by split<;>omega)).bind λr8 p8=>?_;have hh:∀g:ei,vf g=true->vQ (r1.1,r2.1,r3.1,r4.1,r5.1,r6.1,r7.1,167772161,g)=true:=λg hg=>adi p1.1 p2.1 p3.1 p4.1 p5.1 p6.1 (by have:=p7.1;omega) (by omega) hg;have hk:∀g:ei,vf g=true->g.1=6\/g.1=17:=by grind[vf]
 have hl:(r8.1.2.2.2.2.2.2.2.length:Int)<=128/\(r8.1.2.2.2.2.2.2.2.length:Int)<=m:=by omega
 have short:∀c':TA,Cu c'->Ends (some ((r1.1,r2.1,r3.1,r4.1,r5.1,r6.1,r7.1,(167772161:Int),r8.1),c')) λr:aD×TA=>(dm r.1=true/\(r.1.2.2.2.2.2.2.2.2.2.2.2.2.2.2.2.length:Int)<=m/\(r.1.2.2.2.2.2.2.2.2.1=6\/r.1.2.2.2.2.2.2.2.2.1=17))/\Cu r.2:=by grind[Ends.pure,dm]
 refine Ends.cond (λk1=>Ends.cond (λk2=>Ends.cond (λk3=>?_) λ_=>short _ p8.2) λ_=>short _ p8.2) λ_=>short _ p8.2;have k3:=bI k3;refine(yz p8.2 2).bind λr9 p9=>Ends.cond (λ_=>?_) λ_=>short _ p9;rw[ai (n:=m-128) (by omega) (by omega),ai (n:=m-128+1) (by omega) (by omega)];refine(gx p9).bind λmY p10=>?_;have a10:=p10.1;rw[ai (n:=128+mY.1) (by omega) (by omega)];refine(JT p10.2 _).bind λsL p11=>?_;have a11:=p11.1.2.1 (by omega) (by omega);have hs:=abW p8.1.1 (x:=sL.1) (by omega);grind[Ends.pure,dm,HF,GB]
def Plain (p:aD):Prop:=vQ p=true/\p.2.2.2.2.2.2.2.2.2.2.2.2.2.2.2.length<=40
theorem Plain.ok (h:Plain p):gn p=true:=(Vp p).2 ⟨h.1,by have:=h.2;omega⟩
theorem Jj (h:Cu c):Ends (lh c 40) λr=>Plain r.1/\Cu r.2:=(Q7 h).mono λr hr=>⟨⟨by grind[dm],by omega⟩,hr.2⟩
theorem adV {Q:R->Prop}{k0:au aD->TA->aD->ax R}{l:au aD}{n:Int}(hl:l.length<=1000)(hc:Cu c)(hp:Plain p)(hk:∀c' p',Cu c'->Plain p'->Ends (k0 (l++[p]) c' p') Q):Ends (oq k0 l z n c p) Q:=by
 unfold oq;have hi:=afP (Nx hp.1);have hs:=Da hp.1;refine Ends.room (by simp;omega) (Ends.ifn (by decide) (Ends.cond (λh6=>?_) λ_=>hk _ _ hc ⟨C9 (p:=p) hp.1 hi hs,hp.2⟩));have h6:p.2.2.2.2.2.2.2.2.1=6:=by simpa using h6
 refine(yz hc 8).bind λr hr=>Ends.cond (λ_=>Ends.ifn (by decide) (hk _ _ hr ⟨C9 (p:=p) hp.1 hi ?_,hp.2⟩)) λ_=>hk _ _ hr ⟨C9 (p:=p) hp.1 hi hs,hp.2⟩;have k:=ZN hs h6;have hlen:p.2.2.2.2.2.2.2.2.2.2.2.2.2.2.2.length<=320:=by have:=hp.2;omega
 exact OA hs h6 (ad6 k.2.2.1 hlen) k.2.2.2.2.1 hlen
theorem adU {Q:R->Prop}{k0:au aD->TA->aD->ax R}{l:au aD}{n:Int}(hl:l.length<=1000)(hz:1<=z/\z<=40)(hc:Cu c)(hp:Plain p)(hk:∀q c' p',Plain q->Cu c'->Plain p'->Ends (k0 (l++[q]) c' p') Q):Ends (oo k0 l z n c p) Q:=by
 unfold oo;refine Ends.cond (λh6=>?_) λ_=>adV hl hc hp λc' p' h1 h2=>hk _ _ _ hp h1 h2;have h6:p.2.2.2.2.2.2.2.2.1=6:=by simpa using h6
 refine(iU (P:=λx=>0<=x/\x<=31) hc (by decide) (by decide)).bind λr8 p8=>(JT p8.2 z).bind λr9 p9=>?_;have a9:=p9.1.2.1 (by omega) (by omega);have hs:=Da hp.1;have hq:Plain (p.1,p.2.1,p.2.2.1,p.2.2.2.1,p.2.2.2.2.1,p.2.2.2.2.2.1,p.2.2.2.2.2.2.1,p.2.2.2.2.2.2.2.1,p.2.2.2.2.2.2.2.2.1,p.2.2.2.2.2.2.2.2.2.1,p.2.2.2.2.2.2.2.2.2.2.1,p.2.2.2.2.2.2.2.2.2.2.2.1,p.2.2.2.2.2.2.2.2.2.2.2.2.1,r8.1,p.2.2.2.2.2.2.2.2.2.2.2.2.2.2.1,r9.1):=⟨C9 hp.1 (Nx hp.1) (OA hs h6 (ZN hs h6).2.2.1 p8.1 (by omega)),by grind⟩
 grind[adV]
theorem agH {Q:R->Prop}{k0:au aD->Int->TA->aD->ax R}{l:au aD}{n:Int}(hl:l.length<=1000)(hz:1<=z/\z<=40)(hc:Cu c)(hp:Plain p)(hk:∀q z' c' p',Plain q->(1<=z'/\z'<=40)->Cu c'->Plain p'->Ends (k0 (l++[q]) z' c' p') Q):Ends (pW k0 l z n c p) Q:=by unfold pW;refine(yz hc 6).bind λr6 p6=>Ends.cond (λ_=>?_) λ_=>adU hl hz p6 hp λq c' p' h1 h2 h3=>hk _ _ _ _ h1 hz h2 h3;refine(gx p6 (by decide)).bind λr7 p7=>?_;grind[ai,adU]
theorem aiN {Q:R->Prop}{k0:au aD->Int->Int->TA->aD->ax R}{l:au aD}{n:Int}(hl:l.length<=1000)(hz:1<=z/\z<=40)(hn:0<n/\n<=1000)(hc:Cu c)(hp:Plain p)(hk:∀q z' c' p',Plain q->(1<=z'/\z'<=40)->Cu c'->Plain p'->Ends (k0 (l++[q]) z' (n-1) c' p') Q):Ends (uP k0 l z n c p) Q:=by unfold uP;have e:ak (n-1)=n-1:=ai (by omega) (by omega);refine(yz hc 5).bind λr4 p4=>Ends.cond (λ_=>?_) λ_=>?_;refine(Jj p4).bind λr5 p5=>agH hl hz p5.2 p5.1 λq z' c' p' h1 h2 h3 h4=>?_;unfold pV;rw[e];exact hk _ _ _ _ h1 h2 h3 h4;refine agH hl hz p4 hp λq z' c' p' h1 h2 h3 h4=>?_;unfold pV;rw[e];exact hk _ _ _ _ h1 h2 h3 h4
theorem afL (h:Cu c){m:Int}(h0:0<m)(h1:m<=100):Ends (AP c m) λr=>((∀p∈r.1,Plain p)/\0<r.1.length/\(r.1.length:Int)<=m)/\Cu r.2:=by unfold AP;refine(Jj h).bind λr1 p1=>(gx p1.2 (by decide)).bind λr2 p2=>(gx p2.2 h0).bind λr3 p3=>?_;have a2:=p2.1;have a3:=p3.1;rw[ai (n:=r2.1*8) (by omega) (by omega),ai (n:=8+r2.1*8) (by omega) (by omega),ai (n:=1+r3.1) (by omega) (by omega)];refine Ends.Ag (λx=>(∀p∈x.1,Plain p)/\(1<=x.2.1/\x.2.1<=40)/\0<=x.2.2.1/\(x.1.length:Int)+x.2.2.1=1+r3.1/\Cu x.2.2.2.1/\Plain x.2.2.2.2) (λx=>x.2.2.1.toNat) ⟨by simp,(by dsimp only;omega),(by dsimp only;omega),by simp,p3.2,p1.1⟩ (by simp;omega) λx nx hx hn=>?_;unfold zT;refine Ends.cond (λk=>?_) λk=>?_;have k:=bI k;refine aiN (by omega) hx.2.1 (by omega) hx.2.2.2.2.1 hx.2.2.2.2.2 λq z' c' p' h1 h2 h3 h4=>hn _ ⟨?_,h2,?_,?_,h3,h4⟩ ?_;intro y hy;rcases aA.1 hy with hy|hy;exact hx.1 y hy;simp only[cH]at hy;rw[hy];exact h1;show 0<=x.2.2.1-1;omega;show((x.1++[q]).length:Int)+(x.2.2.1-1)=1+r3.1;have:=hx.2.2.2.1;simp;omega;show(x.2.2.1-1).toNat<x.2.2.1.toNat;omega;have k:=dM k;have:=hx.2.2.2.1;have:=hx.2.2.1;exact Ends.pure ⟨⟨hx.1,(by dsimp only;omega),(by dsimp only;omega)⟩,hx.2.2.2.2.1⟩
theorem afS (h:Cu c){l:au aD}(hl:l.length<=1000000):Ends (AQ c l) λr=>(r.1.length<=l.length/\∀s∈r.1,s.2.2.1=[])/\Cu r.2:=by unfold AQ;refine Ends.Ag (λx=>0<=x.2.1/\(x.1.length:Int)<=x.2.1/\x.2.1<=(l.length:Int)/\(∀s∈x.1,s.2.2.1=[])/\Cu x.2.2) (λx=>((l.length:Int)-x.2.1).toNat) ⟨by simp,by simp,by simp,by simp,h⟩ (by simp;omega) λx nx hx hn=>?_;have e:x.2.1<(l.length:Int)->ak (x.2.1+1)=x.2.1+1:=λ_=>ai (by omega) (by omega);unfold zU;refine Ends.cond (λk=>?_) λk=>Ends.pure ⟨⟨(by dsimp only;omega),hx.2.2.2.1⟩,hx.2.2.2.2⟩;have k:=bI k;rw[e k];have skip:∀c',Cu c'->Ends (nx (x.1,x.2.1+1,c')) _:=λc' Bw=>hn _ ⟨by show 0<=x.2.1+1;omega,by show(x.1.length:Int)<=x.2.1+1;omega,by show x.2.1+1<=_;omega,hx.2.2.2.1,Bw⟩ (by show((l.length:Int)-(x.2.1+1)).toNat<_;omega);refine Ends.idx hx.1 k λhi=>?_;rw[JF,ab];refine Ends.cond (λ_=>?_) λ_=>skip _ hx.2.2.2.2;rw[V7 _ _ (by omega),ab];refine Ends.cond (λ_=>?_) λ_=>skip _ hx.2.2.2.2;refine(yz hx.2.2.2.2 6).bind λr4 p4=>Ends.cond (λ_=>?_) λ_=>skip _ p4;refine Ends.idx hx.1 k λhi=>(iU (P:=λ_=>True) p4 (by decide) (by simp)).bind λr6 p6=>Ends.room (by simp;omega) (hn _ ⟨by show 0<=x.2.1+1;omega,?_,by show x.2.1+1<=_;omega,?_,p6.2⟩ (by show((l.length:Int)-(x.2.1+1)).toNat<_;omega));show((x.1++[_]).length:Int)<=x.2.1+1;simp;omega;intro s hs;rcases aA.1 hs with hs|hs;exact hx.2.2.2.1 s hs;simp only[cH]at hs;rw[hs]
theorem ahy (h:Cu c):Ends (CA c) λr=>r.1.length=16/\Cu r.2:=by unfold CA;exact(JT h 16).bind λr hr=>Ends.pure ⟨by omega,hr.2⟩
theorem aau (h:Cu c):Ends (AR c) λr=>Cu r.2:=by unfold AR;refine(iU (P:=λ_=>True) h (by decide) (by simp)).bind λr1 p1=>(ND p1.2).bind λr2 p2=>(gx p2.2 (by decide)).bind λr3 p3=>?_;exact(iU (P:=λ_=>True) p3.2 (by decide) (by simp)).bind λr4 p4=>Ends.pure p4.2
theorem ack (h:Cu c):Ends (xd c) λr=>(r.1.1.1.length=16/\r.1.1.2.length<=8/\1<=r.1.2/\r.1.2<=4)/\Cu r.2:=by unfold xd;refine(gx h (by decide)).bind λr1 p1=>(ahy p1.2).bind λr2 p2=>(iU (P:=λx=>0<=x/\x<=8) p2.2 (by decide) (by decide)).bind λr3 p3=>?_;have a1:=p1.1;have a3:=p3.1;rw[ai (n:=1+r1.1) (by omega) (by omega)];refine Ends.Ag (λx=>0<=x.1/\x.1+(x.2.2.2.length:Int)=r3.1/\x.2.2.1.length=16/\Cu x.2.1) (λx=>x.1.toNat) ⟨by omega,by simp,p2.1,p3.2⟩ (by simp;omega) λx nx hx hn=>?_;unfold xe;refine Ends.cond (λk=>?_) λk=>Ends.pure ⟨⟨hx.2.2.1,by have:=hx.1;have:=hx.2.1;show x.2.2.2.length<=8;omega,by show(1:Int)<=1+r1.1;omega,by show 1+r1.1<=(4:Int);omega⟩,hx.2.2.2⟩;have k:=bI k;rw[ai (n:=x.1-1) (by omega) (by have:=hx.2.1;omega)];refine(Ij hx.2.2.2 _).bind λr4 p4=>Ends.room (by have:=hx.2.1;simp;omega) (hn _ ⟨?_,?_,hx.2.2.1,p4.2⟩ ?_);show 0<=x.1-1;omega;show x.1-1+((x.2.2.2++[r4.1]).length:Int)=r3.1;have:=hx.2.1;simp;omega;show(x.1-1).toNat<x.1.toNat;omega
theorem afY (h:Cu c):Ends (AW c) λr=>Cu r.2:=by unfold AW;refine(gx h (by decide)).bind λr1 p1=>(iU (P:=λ_=>True) p1.2 (by decide) (by simp)).bind λr2 p2=>(ND p2.2).bind λr3 p3=>?_;refine(iU (P:=λ_=>True) p3.2 (by decide) (by simp)).bind λr4 p4=>(iU (P:=λ_=>True) p4.2 (by decide) (by simp)).bind λr5 p5=>(iU (P:=λ_=>True) p5.2 (by decide) (by simp)).bind λr6 p6=>?_;refine(iU (P:=λ_=>True) p6.2 (by decide) (by simp)).bind λr7 p7=>(iU (P:=λ_=>True) p7.2 (by decide) (by simp)).bind λr8 p8=>?_;exact Ends.cond (λ_=>(gx p8.2 (by decide)).bind λr9 p9=>Ends.pure p9.2) λ_=>Ends.pure p8.2
theorem aeu (h:Cu c):Ends (yT c) λr=>r.1.length<=4/\Cu r.2:=by unfold yT;refine(gx h (by decide)).bind λr1 p1=>?_;have a1:=p1.1;refine Ends.Ag (λx=>0<=x.2.1/\x.2.1+(x.1.length:Int)=r1.1/\Cu x.2.2) (λx=>x.2.1.toNat) ⟨a1.1,by simp,p1.2⟩ (by simp;omega) λx nx hx hn=>?_;unfold xW;refine Ends.cond (λk=>?_) λk=>Ends.pure ⟨by have:=hx.1;have:=hx.2.1;show x.1.length<=4;omega,hx.2.2⟩;have k:=bI k;rw[ai (n:=x.2.1-1) (by omega) (by have:=hx.2.1;omega)];refine(afY hx.2.2).bind λr2 p2=>Ends.room (by have:=hx.2.1;simp;omega) (hn _ ⟨?_,?_,p2⟩ ?_);show 0<=x.2.1-1;omega;show x.2.1-1+((x.1++[r2.1]).length:Int)=r1.1;have:=hx.2.1;simp;omega;show(x.2.1-1).toNat<x.2.1.toNat;omega
theorem O9 (t:au Slot)(f:fP):∀n k,walk t f n k= -1\/(0<=walk t f n k/\walk t f n k<8)
 |0,_=>Or.inl rfl
 |n+1,k=>by rw[walk];have:=GO f k;split;exact Or.inl rfl;split;exact Or.inr ⟨by omega,by omega⟩;exact O9 t f n (k+1)
theorem acs {t:au Slot}(h:qv t=true):t.length=8:=by grind[qv]
theorem ahH (t:au Slot)(f:fP)(q:Int)(hl:t.length<=1000):Ends (AM t f q) λr=>r.1.length=t.length:=by
 unfold AM;rw[Hl _ (by omega),ab,KW,ab];refine Ends.bind (P:=λb=>b=false->qv t=true) ?_ λb hb=>Ends.cond (λ_=>Ends.pure rfl) λMs=>?_;refine Ends.cond (λ_=>Ends.pure λh=>by cases h) λh=>?_;rw[cx,ab];exact Ends.pure λ_=>by simpa using h
 ·have h8:=acs (hb Ms);rw[OH _ _ h8,ab];have hw:=O9 t f 8 0;refine Ends.Ag (λx=>(x.1= -1\/(0<=x.1/\x.1<8))/\0<=x.2/\x.2<=8) (λx=>(8-x.2).toNat) ⟨hw,by simp,by simp⟩ (by simp) λx nx hx hn=>?_;unfold zR;refine Ends.bind (P:=λb=>b=true->x.2<8) (Ends.cond (λh=>Ends.pure λ_=>bI h) λh=>Ends.pure λh=>by cases h) λb hb=>Ends.cond (λMs=>?_) λ_=>?_
  ·have hb:=hb Ms;rw[VY,ab];have hh:=NC f;rw[ai (n:=Dd f+x.2) (by omega) (by omega),ai (n:=x.2+1) (by omega) (by omega)];have m1:=Int.tmod_nonneg 8 (a:=Dd f+x.2) (by omega);have m2:=Int.tmod_lt_of_pos (Dd f+x.2) (b:=8) (by omega);refine Ends.ifn (by decide) (Ends.idx m1 (by omega) λ_=>Ends.cond (λ_=>hn _ ⟨Or.inr ⟨m1,m2⟩,?_,?_⟩ ?_) λ_=>hn _ ⟨hx.1,?_,?_⟩ ?_);all_goals simp only
   all_goals omega
  refine Ends.cond (λ_=>Ends.pure rfl) λh=>?_;have h:=dM h;have h0:0<=x.1/\x.1<8:=by omega
  exact Ends.idx h0.1 (by omega) λ_=>Ends.idx h0.1 (by omega) λ_=>Ends.pure (by simp)
structure yc (s:de):Prop where
 r:s.1.length<=100
 t:s.2.1.length<=100
 k:s.2.2.1.length=16
 p:s.2.2.2.length<=100
theorem aeN (h:Cu c):Ends (th c) λr=>(yc r.1.1/\1<=r.1.2/\r.1.2<=4)/\Cu r.2:=by
 unfold th;have UD:qp=some (List.replicate 8 (0,(0,0,0,0,0),0)):=by unfold qp;rw[aF (by decide),aQ (by decide)];rfl
 rw[UD,ab];refine(ack h).bind λr2 p2=>(yz p2.2 2).bind λr3 p3=>?_;have t11:∀(n:Int)(s:de)(c':TA),n<=4->yc s->Cu c'->Ends (aM (hY (λ(_:Int) GW J2=>some ((J2,r2.1.2),GW)) r2.1.2 (([]:au iX),([]:au Slot),([]:Bytes),([]:cL))) fuel (n,c',s)) λr:(de×Int)×TA=>(yc r.1.1/\1<=r.1.2/\r.1.2<=4)/\Cu r.2:=by intro n s c' hn hs hc;refine Ends.Ag (λx=>x.1<=4/\yc x.2.2/\Cu x.2.1) (λx=>x.1.toNat) ⟨hn,hs,hc⟩ (by simp;omega) λx nx hx hn=>?_;unfold hY;refine Ends.cond (λk=>?_) λk=>Ends.pure ⟨⟨hx.2.1,p2.1.2.2⟩,hx.2.2⟩;have k:=bI k;rw[ai (n:=x.1-1) (by omega) (by have:=hx.1;omega)];refine(aau hx.2.2).bind λsL p11=>(Ij p11 _).bind λpA p12=>(ahH _ _ _ (by have:=hx.2.1.t;omega)).bind λyA p13=>hn _ ⟨?_,⟨hx.2.1.r,by have:=hx.2.1.t;show yA.1.length<=100;omega,hx.2.1.k,hx.2.1.p⟩,p12.2⟩ ?_;show x.1-1<=4;have:=hx.1;omega;show(x.1-1).toNat<x.1.toNat;omega
 have t7:∀(s:de)(c' b:TA),yc s->s.1.length<=4->Cu c'->Ends (aM (ku (λ(_:Int) y9=>aa (cr c' 4) λmY=>aM (hY (λ(_:Int) GW J2=>some ((J2,r2.1.2),GW)) r2.1.2 (([]:au iX),([]:au Slot),([]:Bytes),([]:cL))) fuel (mY.1,mY.2,y9)) r2.1.2 b (([]:au iX),([]:au Slot),([]:Bytes),([]:cL))) fuel (0,s)) λr:(de×Int)×TA=>(yc r.1.1/\1<=r.1.2/\r.1.2<=4)/\Cu r.2:=by intro s c' b hs hl hc;refine Ends.Ag (λx=>0<=x.1/\x.2.1.length=s.1.length/\yc x.2) (λx=>((s.1.length:Int)-x.1).toNat) ⟨by simp,rfl,hs⟩ (by simp;omega) λx nx hx hn=>?_;unfold ku;refine Ends.cond (λk=>?_) λk=>(gx hc (by decide)).bind λmY p10=>t11 _ _ _ (by have:=p10.1;omega) hx.2.2 p10.2;have k:=bI k;rw[ai (n:=x.1+1) (by omega) (by have:=hx.2.1;omega)];refine Ends.idx hx.1 k λ_=>Ends.ifn (by have:=p2.1.2.2;omega) (Ends.idx hx.1 k λ_=>Ends.idx hx.1 k λ_=>hn _ ⟨?_,?_,⟨?_,hx.2.2.t,hx.2.2.k,hx.2.2.p⟩⟩ ?_);show 0<=x.1+1;have:=hx.1;omega;show(List.set _ _ _).length=_;rw[aB];exact hx.2.1;show(List.set _ _ _).length<=100;rw[aB];exact hx.2.2.r;show((s.1.length:Int)-(x.1+1)).toNat<_;have:=hx.2.1;omega
 refine Ends.cond (λ_=>(aeu p3).bind λr4 p4=>t7 _ _ _ ⟨by have:=p4.1;show r4.1.length<=100;omega,by simp,p2.1.1,by have:=p2.1.2.1;show r2.1.1.2.length<=100;omega⟩ p4.1 p4.2) λ_=>t7 _ _ _ ⟨by simp,by simp,p2.1.1,by have:=p2.1.2.1;show r2.1.1.2.length<=100;omega⟩ (by simp) p3
theorem Ub (h:Cu c):Ends (xi c) λr=>(r.1.1=2/\(r.1.2.2=[7]\/r.1.2.2=[]))/\Cu r.2:=by unfold xi;exact(yz h 4).bind λr1 p1=>(yz p1 2).bind λr2 p2=>Ends.cond (λ_=>Ends.pure ⟨⟨rfl,Or.inl rfl⟩,p2⟩) λ_=>Ends.pure ⟨⟨rfl,Or.inr rfl⟩,p2⟩
theorem ahz:eX (Dl 38)=true:=by decide+kernel
def EL (f:Filter)(s:de)(c:Bool):au Vector->Host
 |[]=>Zo f s c 38
 |v::vs=>Jf ((EL f s c vs).1,(EL f s c vs).2.1,(EL f s c vs).2.2.1,(EL f s c vs).2.2.2.1++[((0,0,0,0),(0,0,0),(0,0,0),((0,0,0,0,0,0,0,0,0,0,0,0,0,0,0,([]:Bytes)),0,0),false,0)],(EL f s c vs).2.2.2.2.1++[(0,0,0,([]:cL))],(EL f s c vs).2.2.2.2.2.1++[v],(EL f s c vs).2.2.2.2.2.2.1++[false],(EL f s c vs).2.2.2.2.2.2.2) vs.length
def acT (h:Host):=(h.1,h.2.1,h.2.2.1,h.2.2.2.1,h.2.2.2.2.1,h.2.2.2.2.2.1,h.2.2.2.2.2.2.1)
structure Made (f:Filter) (s:de) (c:Bool) (k:Nat) (h:Host):Prop where
 mem:cG h.1=true
 ml:h.1.length=38
 maps:h.2.1=Dl 38
 tx:h.2.2.1=DC
 rx:h.2.2.2.1.length=k
 rxs:∀r∈h.2.2.2.1,B6 0 r/\r.2.2.2.2.1=false
 pl:h.2.2.2.2.1.length=k
 pls:∀p∈h.2.2.2.2.1,dH p=true/\p.2.2.2.length<=1000
 vec:h.2.2.2.2.2.1.length=k
 P7:∀v∈h.2.2.2.2.2.1,ft v=true
 Vr:h.2.2.2.2.2.2.1.length=k
 rest:h.2.2.2.2.2.2.2=(f,s,([]:List Stream),c,([]:List Bytes),([]:List Int),([]:List Int),0,0,0,0,0)
 is:∃vs,vs.length=k/\h=EL f s c vs/\∀v∈vs,v.2.1<=3/\v.2.2.2.2.1=false
theorem VQ (l:au α)(x y:α):(l++[x]).set l.length y=l++[y]:=by simp
theorem afN {n:Nat}(h:n<=64):cG (L8 n)=true:=vy.2 ⟨λx hx=>by rw[(List.mem_replicate.1 hx).2];exact GP 128,by simp[L8];exact h⟩
theorem abf {c:Bool}(m:Made f s c k h)(hk:k<=8){v:Vector}(hv:ft v=true)(h3:v.2.1<=3/\v.2.2.2.2.1=false):Ends (py (h.1,h.2.1,h.2.2.1,h.2.2.2.1++[((0,0,0,0),(0,0,0),(0,0,0),((0,0,0,0,0,0,0,0,0,0,0,0,0,0,0,([]:Bytes)),0,0),false,0)],h.2.2.2.2.1++[(0,0,0,([]:cL))],h.2.2.2.2.2.1++[v],h.2.2.2.2.2.2.1++[false],h.2.2.2.2.2.2.2) (k:Int)) λr=>Made f s c (k+1) r.2:=by
 refine Ends.of (OM _ k hk (by simp[m.rx]) (by simp[m.pl]) (by show h.2.1.length<=_;rw[m.maps,Ky];omega) (by show h.1.length<=_;rw[m.ml];omega)) ?_;have o:=Q5 m.mem h.2.1 hk;have e1:(h.2.2.2.1++[(((0,0,0,0),(0,0,0),(0,0,0),((0,0,0,0,0,0,0,0,0,0,0,0,0,0,0,([]:Bytes)),0,0),false,0):bm)])[k]?=some ((0,0,0,0),(0,0,0),(0,0,0),((0,0,0,0,0,0,0,0,0,0,0,0,0,0,0,([]:Bytes)),0,0),false,0):=by rw[<-m.rx];simp
 have e2:∀y:bm,(h.2.2.2.1++[(((0,0,0,0),(0,0,0),(0,0,0),((0,0,0,0,0,0,0,0,0,0,0,0,0,0,0,([]:Bytes)),0,0),false,0):bm)]).set k y=h.2.2.2.1++[y]:=λy=>by rw[<-m.rx];exact VQ _ _ _
 have e3:∀y:cM,(h.2.2.2.2.1++[(((0,0,0,([]:cL))):cM)]).set k y=h.2.2.2.2.1++[y]:=λy=>by rw[<-m.pl];exact VQ _ _ _
 obtain⟨vs,vl,ve,vb⟩:=m.is;have is0:Jf (h.1,h.2.1,h.2.2.1,h.2.2.2.1++[((0,0,0,0),(0,0,0),(0,0,0),((0,0,0,0,0,0,0,0,0,0,0,0,0,0,0,([]:Bytes)),0,0),false,0)],h.2.2.2.2.1++[(0,0,0,([]:cL))],h.2.2.2.2.2.1++[v],h.2.2.2.2.2.2.1++[false],h.2.2.2.2.2.2.2) k=EL f s c (v::vs):=by rw[EL,<-ve,vl]
 unfold Jf at is0⊢;simp only[e1,e2,e3]at is0⊢;have hp:(wF h.2.1 h.1 k).2.2.1.2.2.2.length<=1000:=by unfold wF;exact aP (HE ..) (oX _ _ _)
 refine⟨o.1,?_,m.maps,m.tx,by show(_++[_]).length=_;rw[aq,m.rx];rfl,?_,by show(_++[_]).length=_;rw[aq,m.pl];rfl,?_,by show(_++[_]).length=_;rw[aq,m.vec];rfl,?_,by show(_++[_]).length=_;rw[aq,m.Vr];rfl,m.rest,⟨v::vs,by simp[vl],is0,λw hw=>?_⟩⟩;show(wF h.2.1 h.1 k).1.length=38;rw[Q4,m.ml];intro r hr;rcases aA.1 hr with hr|hr;exact m.rxs r hr;rw[cH.1 hr];exact⟨VM hk o.2.1 ⟨il _,il _⟩,rfl⟩;intro p hp';rcases aA.1 hp' with hp'|hp';exact m.pls p hp';rw[cH.1 hp'];exact⟨o.2.2,hp⟩;intro w hw;rcases aA.1 hw with hw|hw;exact m.P7 w hw;rw[cH.1 hw];exact hv;rcases cg.1 hw with e|e;rw[e];exact h3;exact vb w e
def agb (h:Host):de:=h.2.2.2.2.2.2.2.2.1
structure K2 (h:Host):Prop where
 aia:Good 0 h
 sz:xp 2000 h
 maps:∀m∈h.2.1,m.2.2.1<(h.1.length:Int)
 led:h.2.2.1.2.2.1=[]/\h.2.2.2.2.2.2.2.2.2.2.2.1=[]/\h.2.2.2.2.2.2.2.2.2.2.2.2.1=[]/\h.2.2.2.2.2.2.2.2.2.2.2.2.2.1=[]
 is:∃f s c vs,vs.length<=2/\acT h=acT (EL f s c vs)/\∀v∈vs,v.2.1<=3/\v.2.2.2.2.1=false
theorem XX {c:Bool}(m:Made f s c k h)(hk:1<=k/\k<=2)(hf:qy f=true)(EH:f.2.2.length<=1000)(hs:eF s (k:Int)=true)(hz:yc s):K2 h:=by have h4:=oX 256 128 8;obtain⟨vs,vl,ve,vb⟩:=m.is;obtain⟨m1,m2,m3,m4,m5,m6,m7,m8,m9,m10,m11,m12,_⟩:=m;obtain⟨mem,maps,tx,rx,pl,vec,Vr,rest⟩:=h;simp only at m1 m2 m3 m4 m5 m6 m7 m8 m9 m10 m11 m12;subst m12 m3 m4;refine⟨⟨m1,ahz,aeV 0 (by omega),hf,?_,by show eF s (rx.length:Int)=true;rw[m5];exact hs,λr hr=>(m6 r hr).1,λp hp=>(m8 p hp).1,m10,?_⟩,⟨?_,?_⟩,?_,⟨rfl,rfl,rfl,rfl⟩,⟨f,s,c,vs,by omega,congrArg acT ve,vb⟩⟩;unfold mV;simp only[ah,bl,bw];omega;intro x hx;simp only[fY,cg,List.not_mem_nil,or_false,or_self]at hx;omega;have hm:=(vy.1 m1).1;refine⟨⟨by show mem.length<=2000;omega,λx hx=>by show x.length<=2000;rw[hm x hx];omega⟩,⟨by show(Dl 38).length<=2000;rw[Ky];omega,λ_ _=>⟨cv,cv,cv,cv⟩⟩,?_,?_,?_,?_,?_,⟨cv,cv,by show f.2.2.length<=2000;omega,λ_ _=>trivial⟩,?_,⟨cd _,λx hx=>by cases hx⟩,cv,⟨cd _,λx hx=>by cases hx⟩,⟨cd _,λx hx=>by cases hx⟩,⟨cd _,λx hx=>by cases hx⟩,cv,cv,cv,cv,cv⟩;exact⟨⟨cv,cv,cv,cv⟩,⟨cv,cv,cv,by show List.length (iy 256 128 8).1.2.2.2<=2000;omega,λ_ _=>trivial⟩,⟨cd _,λx hx=>by cases hx⟩,cv⟩;refine⟨by show rx.length<=2000;omega,λx hx=>?_⟩;have e:=(m6 x hx).1.free (m6 x hx).2;refine⟨⟨cv,cv,cv,cv⟩,⟨cv,cv,cv⟩,⟨cv,cv,cv⟩,?_,cv,cv⟩;rw[e];exact⟨⟨cv,cv,cv,cv,cv,cv,cv,cv,cv,cv,cv,cv,cv,cv,cv,cd _⟩,cv,cv⟩;exact⟨by show pl.length<=2000;omega,λx hx=>⟨cv,cv,cv,by have:=(m8 x hx).2;show x.2.2.2.length<=2000;omega,λ_ _=>trivial⟩⟩;exact⟨by show vec.length<=2000;omega,λx hx=>⟨cv,cv,cv,cv,cv,cv⟩⟩;exact⟨by show Vr.length<=2000;omega,λx hx=>trivial⟩;exact⟨⟨by have:=hz.r;show s.1.length<=2000;omega,λ_ _=>⟨cv,cv,cv,cv,cv,cv,cv,cv,cv⟩⟩,⟨by have:=hz.t;show s.2.1.length<=2000;omega,λ_ _=>⟨cv,⟨cv,cv,cv,cv,cv⟩,cv⟩⟩,by have:=hz.k;show s.2.2.1.length<=2000;omega,by have:=hz.p;show s.2.2.2.length<=2000;omega,λ_ _=>trivial⟩;show List.length (iy 256 128 8).1.2.2.2+0<=2000;omega;intro m hm;have hm:m∈Dl 38:=hm;simp only[Dl,List.mem_map,cW]at hm;obtain⟨i,hi,rfl⟩:=hm;show 37-(i:Int)<(mem.length:Int);omega
theorem aby {a b:Int}(h:(zN a b).2=true):ft (zN a b).1=true:=by grind[zN]
theorem ad5 {a b:Int}(h:(zN a b).2=true)(hb:b<=3):(zN a b).1.2.1<=3/\(zN a b).1.2.2.2.2.1=false:=by grind[zN]
theorem Ob (q:Int)(f:Filter)(s:de)(c:Bool)(a b:Int)(hf:f.2.2.length<=1000)(hs:yc s)(hb3:b<=3):Ends (wU q f s c a b) λr=>(r.2=true->K2 r.1/\agb r.1=s)/\((1<=q/\q<=2)->qy f=true->eF s q=true->(zN a b).2=true->r.2=true):=by
 have z1:=hs.r;have z2:=hs.t;have z3:=hs.p;unfold wU;rw[YA,ab,cx,ab];refine Ends.bind (P:=λx=>(x=false->(1<=q/\q<=2)/\qy f=true/\eF s q=true/\(zN a b).2=true)/\(x=true->(1<=q/\q<=2)->qy f=true->eF s q=true->(zN a b).2=true->False)) ?_ λx hx=>Ends.cond (λhx2=>Ends.pure ⟨(λh=>by cases h),λg1 g2 g3 g4=>(hx.2 hx2 g1 g2 g3 g4).elim⟩) λh=>?_;refine Ends.cond (λk=>Ends.pure ⟨(λh=>by cases h),λ_ g1 _ _ _=>by rw[bl.2 g1]at k;cases k⟩) λh1=>?_;rw[Ei f (by omega),ab];refine Ends.cond (λk=>Ends.pure ⟨(λh=>by cases h),λ_ _ g2 _ _=>by rw[g2]at k;cases k⟩) λh2=>?_;rw[AI s q (by omega) (by omega) (by omega),ab];refine Ends.cond (λk=>Ends.pure ⟨(λh=>by cases h),λ_ _ _ g3 _=>by rw[g3]at k;cases k⟩) λh3=>Ends.pure ⟨λh4=>?_,λk _ _ _ g4=>by rw[g4]at k;cases k⟩;exact⟨bl.1 (by simpa using h1),by simpa using h2,by simpa using h3,by simpa using h4⟩;obtain⟨hq,h1,h2,h3⟩:=hx.1 h;have hm:rT 38=some (L8 38):=Yz 38 (by omega);rw[hm,ab,RB,ab,wK f (by omega),ab,yC s (by omega) (by omega) (by omega),ab];have hv:=aby h3;refine Ends.Ag (λx=>0<=x.1/\x.1<=38/\x.2=Zo f s c x.1.toNat) (λx=>(38-x.1).toNat) ⟨by simp,by simp,rfl⟩ (by simp) λx nx hx hn=>?_;obtain⟨i,y⟩:=x;obtain⟨x1,x2,x3⟩:=hx;simp only at x1 x2 x3;unfold zQ;refine Ends.cond (λk=>?_) λk=>?_;have k:=bI k;have hl:=Ky i.toNat;simp only at k;rw[cx,ab];simp only;rw[ai (n:=i+1) (by omega) (by omega),ai (n:=37-i) (by omega) (by omega)];subst x3;refine Ends.room (by show(Dl i.toNat).length+1<=_;omega) (hn _ ⟨by show 0<=i+1;omega,by show i+1<=38;omega,?_⟩ (by show(38-(i+1)).toNat<(38-i).toNat;omega));have e:(i+1).toNat=i.toNat+1:=by omega
 show(L8 38,Dl i.toNat++_,_)=Zo f s c (i+1).toNat;rw[e];unfold Zo;rw[XY,show((i.toNat:Nat):Int)=i by omega];have k:=dM k;simp only at k;have e:i.toNat=38:=by omega
 rw[e]at x3;have hm0:Made f s c 0 y:=by rw[x3];exact⟨afN (by omega),by show(L8 38).length=38;simp[L8],rfl,rfl,rfl,(λ_ hr=>by cases hr),rfl,(λ_ hr=>by cases hr),rfl,(λ_ hr=>by cases hr),rfl,rfl,⟨[],rfl,rfl,λ_ hv=>by cases hv⟩⟩
 simp only;refine Ends.Ag (λx=>0<=x.1/\x.1<=q/\Made f s c x.1.toNat x.2) (λx=>(q-x.1).toNat) ⟨by simp,by show(0:Int)<=q;omega,hm0⟩ (by simp;omega) λx nx hx hn=>?_;obtain⟨i,y⟩:=x;obtain⟨x1,x2,m⟩:=hx;simp only at x1 x2 m;unfold xT;refine Ends.cond (λk=>?_) λk=>Ends.pure ⟨λ_=>?_,λ_ _ _ _=>rfl⟩;have k:=bI k;simp only at k;have l1:=m.rx;have l2:=m.pl;have l3:=m.vec;have l4:=m.Vr;refine Ends.room (by simp;omega) (Ends.room (by simp;omega) (Ends.room (by simp;omega) (Ends.room (by simp;omega) ?_)));have ho:=abf m (by omega) hv (ad5 h3 hb3);rw[show((i.toNat:Nat):Int)=i by omega]at ho;refine ho.bind λr hr=>?_;simp only;rw[ai (n:=i+1) (by omega) (by omega)];refine hn _ ⟨by show 0<=i+1;omega,by show i+1<=q;omega,?_⟩ (by show(q-(i+1)).toNat<(q-i).toNat;omega);show Made f s c (i+1).toNat r.2;rw[show(i+1).toNat=i.toNat+1 by omega];exact hr;have k:=dM k;simp only at k;have hi:i=q:=by omega
 subst hi;exact⟨XX m (by omega) h1 hf (by rw[show((i.toNat:Nat):Int)=i by omega];exact h2) hs,congrArg (λx=>x.2.1) m.rest⟩
def RO (a:Act):Prop:=a.2.1.2.2.2.2.2.2.2.2.2.2.2.2.2.2.2.length<=1000/\a.2.2.2.2.1.length<=382/\0<=a.1/\a.1<=6
def Ie (r:Bool)(a:Act):Prop:=RO a/\(a.1=6->r=true)
theorem ML {r:Bool}{a:Act}(h:Ie r a):(l++[a]).length<=l.length+1/\∀y∈l++[a],y∈l\/Ie r y:=by grind
theorem WK {Q:R->Prop}{k0:au Act->TA->ax R}{r:Bool}{i x:Int}{b:Bool}(hl:l.length<=1000)(hc:Cu c)(hk:∀l' c',l'.length<=l.length+1->(∀y∈l',y∈l\/Ie r y)->Cu c'->Ends (k0 l' c') Q):Ends (kQ k0 r l ps i x b c) Q:=by
 have add:∀(a:Act)(c':TA),Ie r a->Cu c'->Ends (k0 (l++[a]) c') Q:=λa c' ha Bw=>by grind
 have keep:∀c',Cu c'->Ends (k0 l c') Q:=λc' Bw=>hk _ _ (by omega) (λy hy=>Or.inl hy) Bw;unfold kQ;refine Ends.cond (λ_=>(gx hc (by decide)).bind λr9 p9=>Ends.room (by simp;omega) (by grind[Ie,RO])) λ_=>?_;refine Ends.cond (λ_=>(Q7 hc).bind λmY p10=>(gx p10.2 (by decide)).bind λsL p11=>(iU (P:=λ_=>True) p11.2 (by decide) (by simp)).bind λpA p12=>Ends.room (by simp;omega) (by exact add _ _ ⟨⟨by grind,by simp⟩,by simp⟩ p12.2)) λ_=>?_;grind[Ends.room,Ie,RO]
theorem acK {Q:R->Prop}{k0:au Act->TA->ax R}{r:Bool}{i x:Int}{b:Bool}(hl:l.length<=1000)(hc:Cu c)(hk:∀l' c',l'.length<=l.length+1->(∀y∈l',y∈l\/Ie r y)->Cu c'->Ends (k0 l' c') Q):Ends (ot k0 r l ps i x b c) Q:=by unfold ot;refine Ends.cond (λ_=>Ends.room (by simp;omega) ?_) λ_=>?_;have k:=ML (r:=r) (l:=l) (a:=(4,(0,0,0,0,0,0,0,0,0,0,0,0,0,0,0,([]:Bytes)),0,0,([]:Bytes),0)) (by simp[Ie,RO]);exact hk _ _ k.1 k.2 hc;exact Ends.cond (λ_=>WK hl hc hk) λ_=>Ends.cond (λ_=>WK hl hc hk) λ_=>WK hl hc hk
theorem ags {Q:R->Prop}{k0:au Act->TA->ax R}{r:Bool}{i:Int}(hl:l.length<=900)(hx:x.length<=382)(hc:Cu c)(hk:∀l' c',l'.length<=l.length+2->(∀y∈l',y∈l\/Ie r y)->Cu c'->Ends (k0 l' c') Q):Ends (pY k0 r l ps i x c) Q:=by unfold pY;have k:=ML (r:=r) (l:=l) (a:=(2,(0,0,0,0,0,0,0,0,0,0,0,0,0,0,0,([]:Bytes)),0,0,x,0)) ⟨⟨by simp,hx,by simp,by simp⟩,by simp⟩;generalize hL:l++[((2,(0,0,0,0,0,0,0,0,0,0,0,0,0,0,0,([]:Bytes)),0,0,x,0):Act)]=L at k⊢;have hk2:∀l' c',l'.length<=L.length+1->(∀y∈l',y∈L\/Ie r y)->Cu c'->Ends (k0 l' c') Q:=λl' c' h1 h2 h3=>hk _ _ (by omega) (λy hy=>by rcases h2 y hy with h|h;exact k.2 y h;exact Or.inr h) h3;refine Ends.room (by simp;omega) ((gx hc (by decide)).bind λr8 p8=>?_);refine Ends.cond (λ_=>Ends.room (by simp;omega) ?_) λ_=>?_;have k:=ML (r:=r) (l:=L) (a:=(3,(0,0,0,0,0,0,0,0,0,0,0,0,0,0,0,([]:Bytes)),0,0,([]:Bytes),0)) (by simp[Ie,RO]);exact hk2 _ _ k.1 k.2 p8.2;exact Ends.cond (λ_=>acK (by omega) p8.2 hk2) λ_=>acK (by omega) p8.2 hk2
theorem ah4 {Q:R->Prop}{k0:au Act->Int->TA->ax R}{r:Bool}{i:Int}(hl:l.length<=900)(h0:0<=i)(h1:i<(ps.length:Int))(hn:ps.length<=1000)(hc:Cu c)(hk:∀l' c',l'.length<=l.length+2->(∀y∈l',y∈l\/Ie r y)->Cu c'->Ends (k0 l' (i+1) c') Q):Ends (uV k0 r l ps i c) Q:=by
 have e:ak (i+1)=i+1:=ai (by omega) (by omega);unfold uV;refine Ends.idx h0 h1 λhi=>?_;have hf:=Qw ps[i.toNat];rw[Rs,ab];refine(yz hc 12).bind λr4 p4=>Ends.cond (λ_=>?_) λ_=>ags hl hf p4 λl' c' g1 g2 g3=>by grind[pX]
 refine(Ij p4 _).bind λr5 p5=>(JT p5.2 1).bind λr6 p6=>?_;grind[Cw,ab,ags,wI,pX]
theorem ae7 (h:Cu c)(r:Bool):Ends (Ba c r) λx=>(x.1.length<=20/\∀a∈x.1,Ie r a)/\Cu x.2:=by unfold Ba;refine(afL h (m:=10) (by omega) (by omega)).bind λr1 p1=>?_;have hn:=p1.1.2.2;refine Ends.Ag (λx=>0<=x.2.1/\(x.1.length:Int)<=2*x.2.1/\x.2.1<=(r1.1.length:Int)/\(∀a∈x.1,Ie r a)/\Cu x.2.2) (λx=>((r1.1.length:Int)-x.2.1).toNat) ⟨by simp,by simp,by simp,by simp,p1.2⟩ (by simp;omega) λx nx hx hn=>?_;unfold zY;refine Ends.cond (λk=>?_) λk=>Ends.pure ⟨⟨by have:=hx.2.1;have:=hx.2.2.1;show x.1.length<=20;omega,hx.2.2.2.1⟩,hx.2.2.2.2⟩;have k:=bI k;have h2:=hx.2.1;refine ah4 (by omega) hx.1 k (by omega) hx.2.2.2.2 λl' c' g1 g2 g3=>hn _ ⟨?_,?_,?_,?_,g3⟩ ?_;show 0<=x.2.1+1;have:=hx.1;omega;show(l'.length:Int)<=2*(x.2.1+1);omega;show x.2.1+1<=(r1.1.length:Int);omega;intro a ha;rcases g2 a ha with h|h;exact hx.2.2.2.1 a h;exact h;show((r1.1.length:Int)-(x.2.1+1)).toNat<((r1.1.length:Int)-x.2.1).toNat;omega
theorem afM (n x:Int)(h0:0<=n)(h1:n<=1000000):Ends (iD n x) λr=>(r.length:Int)=n:=by unfold iD;rw[aF ⟨h0,il _⟩];refine Ends.room (by omega) (Ends.Ag (λy=>(y.1.length:Int)=n/\0<=y.2/\y.2<=n) (λy=>(n-y.2).toNat) ⟨by simp;omega,by simp,h0⟩ (by simp;omega) λy nx hy hn=>?_);grind[pT,Ends.pure,aK,ai,Ends.idx]
theorem Vn:qp=some (List.replicate 8 (0,(0,0,0,0,0),0)):=by rfl
theorem XS {k:Bytes}(hk:k.length=16):eF (([]:au iX),List.replicate 8 (0,(0,0,0,0,0),0),k,[0]) 1=true:=by
 have ht:qv (List.replicate 8 (0,(0,0,0,0,0),0))=true:=by decide+kernel
 have hs:xk (k,[0]) 1=true:=by unfold xk;simp only[hk];decide+kernel
 grind[eF,zP]
def Vl (l:au iX):Prop:=∀r∈l,r.2.2.2.2.2.2.1= -2
theorem aaF (h:Cu c):Ends (AZ c) λr=>(K2 r.1/\Vl (agb r.1).1)/\Cu r.2:=by
 unfold AZ;refine Ends.Ag (λx=>0<=x.1/\x.1<=4/\Cu x.2) (λx=>(4-x.1).toNat) ⟨by simp,by simp,h⟩ (by simp) λx nx hx hn=>?_;unfold zW;refine Ends.cond (λk=>?_) λk=>?_;have k:=bI k;refine(aeN hx.2.2).bind λr1 p1=>?_;refine Ends.Ag (λy=>(0<=y.1/\∀(j:Nat) r,(j:Int)<y.1->y.2.1[j]?=some r->r.2.2.2.2.2.2.1= -2)/\yc y.2) (λy=>((y.2.1.length:Int)-y.1).toNat) ⟨⟨by simp,λj r hj=>by simp at hj;omega⟩,p1.1.1⟩ (by have:=p1.1.1.r;simp;omega) λy ny hy hm=>?_;unfold zX;refine Ends.cond (λk2=>?_) λk2=>?_;have k2:=bI k2;have hr:=hy.2.r;rw[ai (n:=y.1+1) (by omega) (by omega)];refine Ends.idx hy.1.1 k2 λ_=>Ends.idx hy.1.1 k2 λ_=>hm _ ⟨⟨?_,λj r hj hr'=>?_⟩,⟨?_,hy.2.t,hy.2.k,hy.2.p⟩⟩ ?_;show 0<=y.1+1;have:=hy.1.1;omega;have hj:(j:Int)<y.1+1:=hj;have h0:=hy.1.1;by_cases hjy:j=y.1.toNat;subst hjy;rw[List.getElem?_set_self (by omega)]at hr';rw[<-cC hr'];rw[aR (λe=>hjy e.symm)]at hr';exact hy.1.2 j r (by omega) hr';show(List.set _ _ _).length<=100;rw[aB];exact hr;show(((List.set _ _ _).length:Int)-(y.1+1)).toNat<_;rw[aB];omega;refine(Ub p1.2).bind λr6 p6=>(gx p6.2 (by decide)).bind λr7 p7=>(gx p7.2 (by decide)).bind λr8 p8=>(gx p8.2 (by decide)).bind λr9 p9=>?_;have hf:r6.1.2.2.length<=1000:=by rcases p6.1.2 with e|e<;>rw[e]<;>simp
 have vl:Vl y.2.1:=λr hr=>by obtain⟨j,hj⟩:=List.getElem?_of_mem hr;obtain⟨gB,_⟩:=aE.1 hj;exact hy.1.2 j r (by have:=dM k2;omega) hj
 refine(Ob _ _ _ _ _ _ hf hy.2 (by have:=p9.1;omega)).bind λmY p10=>Ends.cond (λk3=>Ends.pure ⟨⟨(p10.1 k3).1,by rw[(p10.1 k3).2];exact vl⟩,p9.2⟩) λ_=>?_;rw[ai (n:=x.1+1) (by omega) (by have:=hx.2.1;omega)];refine hn _ ⟨by show 0<=x.1+1;have:=hx.1;omega,by show x.1+1<=4;omega,p9.2⟩ (by show(4-(x.1+1)).toNat<(4-x.1).toNat;omega);simp only[Vn,ab];refine(afM 16 5 (by omega) (by omega)).bind λMb p14=>?_;refine(Ob 1 (2,false,([]:cL)) (([]:au iX),List.replicate 8 (0,(0,0,0,0,0),0),Mb,[0]) true 1 0 (by simp) ⟨by simp,by simp,by show Mb.length=16;omega,by simp⟩ (by omega)).bind λxM p15=>?_;have f15:=p15.1 (p15.2 (by omega) (by decide+kernel) (XS (by omega)) (by decide+kernel));exact Ends.pure ⟨⟨f15.1,by rw[f15.2];exact λr hr=>by cases hr⟩,hx.2.2⟩
def Wr (h:Host)(s:au Stream):Host:=(h.1,h.2.1,h.2.2.1,h.2.2.2.1,h.2.2.2.2.1,h.2.2.2.2.2.1,h.2.2.2.2.2.2.1,h.2.2.2.2.2.2.2.1,h.2.2.2.2.2.2.2.2.1,s,h.2.2.2.2.2.2.2.2.2.2)
theorem Ps (f:K2 h){s:au Stream}(h1:s.length<=2000)(h2:∀x∈s,x.2.2.1=[]):K2 (Wr h s):=by have g:=f.aia;have z:=f.sz.z;refine⟨⟨g.mem,g.maps,g.tx,g.IC,g.lens,g.RE,g.rx,g.pool,g.vec,g.H8⟩,⟨⟨z.1,z.2.1,z.2.2.1,z.2.2.2.1,z.2.2.2.2.1,z.2.2.2.2.2.1,z.2.2.2.2.2.2.1,z.2.2.2.2.2.2.2.1,z.2.2.2.2.2.2.2.2.1,⟨h1,λx hx=>?_⟩,z.2.2.2.2.2.2.2.2.2.2⟩,f.sz.t⟩,f.maps,f.led,f.is⟩;refine⟨⟨cv,cv,cv,cv,cv⟩,cv,?_,cv⟩;show x.2.2.1.length<=2000;rw[h2 x hx];simp
theorem Xi (h:Cu c)(hl:l.length<=20)(ha:∀a∈l,RO a):Ends (yW c l) λr=>(K2 r.1/\Vl (agb r.1).1)/\Cu r.2:=by unfold yW;refine(aaF h).bind λr1 p1=>?_;refine Ends.Ag (λx=>0<=x.2/\(x.1.length:Int)<=x.2/\x.2<=(l.length:Int)) (λx=>((l.length:Int)-x.2).toNat) ⟨by simp,by simp,by simp⟩ (by simp;omega) λx nx hx hn=>?_;unfold xX;refine Ends.cond (λk=>?_) λk=>?_;have k:=bI k;rw[ai (n:=x.2+1) (by omega) (by omega)];refine Ends.idx hx.1 k λhi=>?_;have hx2:=ha _ (aY hi);replace hx2:=hx2.2.1;rw[KV _ (by omega),ab];refine Ends.cond (λ_=>Ends.room (by simp;omega) (hn _ ⟨?_,?_,?_⟩ ?_)) λ_=>hn _ ⟨?_,?_,?_⟩ ?_;show 0<=x.2+1;omega;show((x.1++[_]).length:Int)<=x.2+1;simp;omega;show x.2+1<=_;omega;show((l.length:Int)-(x.2+1)).toNat<_;omega;show 0<=x.2+1;omega;show(x.1.length:Int)<=x.2+1;omega;show x.2+1<=_;omega;show((l.length:Int)-(x.2+1)).toNat<_;omega;exact(afS p1.2 (by omega)).bind λr6 p6=>Ends.pure ⟨⟨Ps p1.1.1 (by omega) p6.1.2,p1.1.2⟩,p6.2⟩
theorem Tu (ha:a.length<=1048576):Ends (nT a) λr=>(K2 r.1/\Vl (agb r.1).1)/\r.2.length<=20/\∀x∈r.2,RO x:=by unfold nT;exact(ahC ha).bind λr1 p1=>(ae7 p1 true).bind λr2 p2=>(Xi p2.2 p2.1.1 λx hx=>(p2.1.2 x hx).1).bind λr3 p3=>Ends.pure ⟨p3.1,p2.1.1,λx hx=>(p2.1.2 x hx).1⟩
theorem YS (ha:a.length<=1048576):Ends (nT a) λr=>K2 r.1/\r.2.length<=20/\∀x∈r.2,RO x:=(Tu ha).mono λr hr=>⟨hr.1.1,hr.2⟩
structure oA (a b:Host):Prop where
 maps:b.2.1=a.2.1
 mem:b.1.length=a.1.length
theorem oA.refl (a:Host):oA a a:=⟨rfl,rfl⟩
theorem oA.trans {a b c:Host}(h:oA a b)(g:oA b c):oA a c:=⟨g.maps.trans h.maps,g.mem.trans h.mem⟩
theorem oA.of {a b:Host}(h:kR k a b):oA a b:=⟨h.maps,h.mem⟩
theorem agc (l:au ay)(m:bD)(d:Int)(q:bm)(k s:Bytes):(iR l m d q k s).1.length=m.length:=by unfold iR;cases !(dB s).2||(((dB s).1.1 !=3)||decide ((dB s).1.2.2.1<((eD q.2.2.2.1.1).1.length:Int)));all_goals grind[Ai,kZ]
theorem afm (l:au ay)(m:bD)(d:Int)(q:bm)(k:Bytes):(ib l m d q k).1.length=m.length:=by unfold ib;cases !Hj q||(!q.2.2.2.2.1||((k.length:Int) !=16));all_goals grind[agc]
theorem acM (l:au ay)(m:bD)(d:Int)(q:bm)(k:Bytes)(p:aD)(c:Bool):(iS l m d q k p c).1.length=m.length:=by unfold iS;cases !Hj q||(!gn p||((k.length:Int) !=16));all_goals grind[afm]
theorem aeA (l:au ay)(m:bD)(d:Int)(t:bX)(p:aD)(c z:Int):(vg l m d t p c z).1.length=m.length:=by unfold vg;cases JY t&&(dm p&&(dy z 1 t.2.1.2.1&&dy c 1 128));rfl;cases Iz t (oK p z.toNat);rfl;simp only[af];cases hw:vm l d t.2.1 z.toNat (iO t.2.1 (oK p z.toNat:Int)).2.1 (ic p).1 m []with|none=>rfl|some x=>have hx:=(Fb _ _ _ _ _ _ _ _ hw).1;simp only;unfold LM sJ;cases hp:oY l d ((mT x.1 c t.2.2.2).map za) x.2 t.1 with|none=>rfl|some y=>exact(LC _ _ _ _ _ hp).trans hx
theorem acm (h:Host)(p:aD)(c z:Int):oA h (Ak h p c z).1:=by unfold Ak;cases dw h with|false=>exact oA.refl h|true=>exact⟨rfl,aeA ..⟩
theorem PZ (h:Host):oA h (iG h):=by unfold iG;cases dw h with|false=>exact oA.refl h|true=>exact⟨rfl,rfl⟩
theorem YK (h:Host):oA h (tu h):=by grind[tu,oA.refl,oA.of,ov,ze]
theorem acn (h:Host):oA h (Am h):=by grind[Am,oA.refl,oA.of,ov,BZ]
theorem Tk (h:Host)(b:Int):oA h (mi h b).1:=by grind[mi,oA.refl,oA.of,xO]
theorem Tj (h:Host)(x:Bytes):oA h (mf h x):=by
 unfold mf;cases dw h;exact oA.refl h;cases (kJ x).2 !=0;case true=>exact⟨rfl,rfl⟩
 cases !nt h.2.2.2.2.2.2.2.1 (kJ x).1;case true=>exact⟨rfl,rfl⟩
 cases ou h.2.2.2.2.2.2.2.2.1 (h.2.2.2.1.length:Int) (kJ x).1== -1;case true=>exact⟨rfl,rfl⟩
 simp only[aj,ae];cases hq:h.2.2.2.1[(ou h.2.2.2.2.2.2.2.2.1 (h.2.2.2.1.length:Int) (kJ x).1).toNat]? with|none=>exact oA.refl h|some q=>exact oA.trans (b:=Br h _ _ _ _) ⟨rfl,rfl⟩ (oA.of (F6 (acM ..)))
theorem JP (h:Host):∀k,oA h (ly h k)
 |0=>oA.refl h
 |k+1=>by refine(JP h k).trans ?_;show oA (ly h k) (xK (ly h k) k 1000).2;generalize ly h k=s;unfold xK;rcases s.2.2.2.1[k]? with _|rx;exact oA.refl s;rcases s.2.2.2.2.1[k]? with _|pl;exact oA.refl s;exact⟨rfl,ZG ..⟩
theorem Hq (h:Host):∀k,oA h (returned h k)
 |0=>JP h _
 |k+1=>by refine(Hq h k).trans ?_;show oA (returned h k) (Ox h.2.2.1.2.2.1 k (returned h k));unfold Ox;cases h.2.2.1.2.2.1[k]? with|none=>exact oA.refl _|some x=>exact⟨rfl,rfl⟩
theorem YL (h:Host):oA h (zO h):=by unfold zO;cases dw h with|false=>exact oA.refl h|true=>have k:=qm (oL h) h.2.2.2.1.length;have r:=Hq h h.2.2.1.2.2.1.length;exact⟨k.maps.trans r.maps,k.mem.trans r.mem⟩
theorem aeM (h:Host)(a:Act):oA h (Bp h a).1:=by
 unfold Bp;cases !dw h|| !Ih a;case true=>exact oA.refl h
 simp only[ae];cases a.1==0;case true=>exact acm ..
 cases a.1==1;case true=>exact PZ h
 cases a.1==2;all_goals grind[Tj,YK,acn,Tk,YL]
theorem afZ (h:Host)(l m:au Act):vI h (l++m)=((vI (vI h l).1 m).1,(vI h l).2++(vI (vI h l).1 m).2):=by
 have acc:∀(m:au Act)(s:Host×cL),m.foldl Wb s=((vI s.1 m).1,s.2++(vI s.1 m).2):=by intro m;induction m with|nil=>intro s;show s=(s.1,s.2++[]);rw[bA]|cons a m ih=>intro s;have e:vI s.1 (a::m)=m.foldl Wb ((Bp s.1 a).1,[(Bp s.1 a).2]):=rfl;rw[List.foldl_cons,ih,e,ih];show((vI (Bp s.1 a).1 m).1,(s.2++[(Bp s.1 a).2])++_)=_;rw[aZ];rfl
 show(l++m).foldl Wb (h,[])=_;rw[List.foldl_append,acc m];rfl
theorem Up:∀(l:au Act){n:Int}{h:Host},n+641*(l.length:Int)<=100000000000->Good n h->Good (n+641*(l.length:Int)) (vI h l).1/\oA h (vI h l).1/\(vI h l).2.length=l.length
 |[],n,h,_,g=>⟨g.mono (by simp),oA.refl h,rfl⟩
 |a::l,n,h,hn,g=>by simp only[bZ]at hn;have e:vI h (a::l)=((vI (Bp h a).1 l).1,[(Bp h a).2]++(vI (Bp h a).1 l).2):=afZ h [a] l;have i:=Up l (n:=n+641) (by omega) (ade (by omega) g a);rw[e];refine⟨i.1.mono (by grind),(aeM h a).trans i.2.1,?_⟩;grind
theorem af0 {n:Int}(g:Good n h)(hn:n<=1000000)(hl:l.length<=40):hH h l=vI h l:=by unfold hH;rw[g.ok (by omega),fT];rfl
theorem Lf (b:Int){n:Int}(g:Good n h):∀k,Good n (Kc b k h)
 |0=>g
 |k+1=>IG (Qy (Lf b g k)) b
theorem Xk {n:Int}(hn:n<=700000000000)(g:Good n h)(b r:Int):Good (n+640) (vM h b r):=by unfold vM;cases dw h&&(dy b 1 1000&&dy r 0 200)with|false=>exact g.mono|true=>exact Lf b (Ns hn (G3 g)) _
theorem abb (h1:l.length<=1048576)(h2:∀x∈l,RO x):cn 1048576 (.sl WH) l:=by refine⟨h1,λx hx=>?_⟩;have k:=h2 x hx;exact⟨cv,⟨cv,cv,cv,cv,cv,cv,cv,cv,cv,cv,cv,cv,cv,cv,cv,aP k.1 (by omega)⟩,cv,cv,aP k.2.1 (by omega),cv⟩
theorem It (a:cL)(ha:acD (.sl (.int .u8)) a):tA a=some true:=by
 refine Ends.true ?_;unfold tA;refine agT rfl λhl=>?_;rw[ae];refine(YS hl).bind λr2 p2=>?_;obtain⟨h,l⟩:=r2;simp only at p2⊢;obtain⟨f,hn,aib⟩:=p2;have hL:=abb (by omega) aib;have z:=f.sz;have g:=f.aia;have hx:∀x∈l,x.2.2.2.2.1.length<=10^9:=λx hx=>by have:=(aib x hx).2.1;omega
 have sa:=FO (n:=2000) (by omega) z l;have ra:=Up l (by omega) g;rw[<-af0 g (by omega) (by omega)]at ra;have hr:l.length<=1000000000000:=by omega
 rw[afv h l (z.mono) hL,ab,Lr h l (z.mono) hx,ab];have e:∀d,WM h l=true->vM (hH h l).1 4 100=d->(oE d==oE h)=true:=by intro d h1 h2;unfold WM at h1;rw[h2]at h1;simp only[ah]at h1;exact h1.2.2
 generalize hH h l=r at sa ra e⊢;have gd:=Xk (by omega) ra.1 4 100;have zd:=Kd (by omega) 4 100 sa.1;rw[QG _ _ _ (sa.1.mono),ab,af2 h l (z.mono) hL];have e:=λhh=>e _ hh rfl;generalize vM r.1 4 100=d at gd zd e⊢;have jY:=nz d (zd.sz (by omega));rw[gd.ok (by omega)]at jY;simp only[ab,SA l hr,Tb l hr,beq_self_eq_true,af,jY];cases hb:WM h l with|false=>exact Ends.pure rfl|true=>rw[uv d (aP zd.z.2.2.2.1.1 (by omega)),uv h (aP z.z.2.2.2.1.1 (by omega))];simp only[ab,aj,ae,e hb,af];exact Ends.pure rfl
end
end Go.Pu
