import Derived.Test.YtehfjiddofkdnaaGreatDnData
import Derived.Test.YtehfjiddofkdnaaGreatPure
open Bool renaming false->G,true->O
open Decidable renaming decide->ay
open Option renaming some->I
namespace Go.Pu
open Go.Dn
open List (range)
open BitVec (toNat)
open Int (fdiv tmod)
set_option linter.unusedSimpArgs false
set_option linter.unusedVariables false
noncomputable section
variable {s t x:Bytes} {h:Host} {a:Int} {m:dY} {k:Nat} {p:bQ} {g:jQ} {R X α σ:Type} {l:dw}
/- Plain laws of the partial operations and of loops. -/
theorem aj {n:Int}(a: -9223372036854775808<=n)(b:n<=9223372036854775807):V n=n:=by grind[IntKind.wrap,IntKind.bits,IntKind.signed]
@[simp] theorem aa a(k:α->aS R):U (I a) k=k a:=rfl
@[simp] theorem atl (k:α->aS R):U none k=none:=rfl
@[simp] theorem aot c x y(k:α->aS R):U (cond c (I x) (I y)) k=k (cond c x y):=by cases c<;>rfl
theorem cD c(x y:α):cond c (I x) (I y)=I (cond c x y):=by cases c<;>rfl
theorem aU {n}{k:aS R}(h:n<=1073741824):room n k=k:=by simp[room,h]
theorem Oa (a:Z α)(i:Nat):idx a (i:Int)=a[i]?:=rfl
theorem aP {a:Z α}{i:Nat}(h:i<a.length):idx a (i:Int)=I a[i]:=by grind[Oa]
def upK (step:Nat->σ->(σ->aS R)->aS R)(a:σ->aS R)(N:Nat):Nat->Nat->σ->aS R
 |0,_,s=>a s
 |n+1,i,s=>step i s (λb=>upK step a N n (i+1) b)
theorem Rb {T}N(e:σ->Nat->X)step(a:σ->aS R)(j:∀i s b,i<N->T b (e s i)=step i s (λc=>b (e c (i+1))))(d:∀s b,T b (e s N)=a s): ∀n i s,i<=N->N-i<n->aQ T n (e s i)=upK step a N (N-i) i s:=by intro n;induction n with|zero=>intro i s _ h;omega|succ n k=>intro i s l m;rw[aQ];rcases ca i N with g|f;rw[j i s _ g,(J:N-i=(N-(i+1))+1),upK];congr 1;funext c;exact k (i+1) c J J;have:i=N:=J;subst this;rw[d,kz,upK]
def Gz (step:α->σ->(σ->aS R)->aS R)(a:σ->aS R):Z α->σ->aS R
 |[],s=>a s
 |x::b,s=>step x s (Gz step a b)
theorem HH {T}(a:Z α)(e:σ->Nat->X)step(b:σ->aS R)(k:∀i (h:i<a.length) s c,T c (e s i)=step a[i] s (λd=>c (e d (i+1))))(g:∀s c,T c (e s a.length)=b s): ∀n i s,i<=a.length->a.length-i<n->aQ T n (e s i)=Gz step b (a.drop i) s:=by intro n;induction n with|zero=>intro i s _ h;omega|succ n l=>intro i s m o;rw[aQ];rcases ca i a.length with f|j;rw[k i f s _,bZ f,Gz];congr 1;funext d;exact l (i+1) d J J;have:i=a.length:=J;subst this;rw[g,gW,Gz]
def szC:(t:CT)->t.D->Nat
 | .int _,_=>0
 | .bool,_=>0
 | .str,s=>s.length
 | .sl e,c=>c.length+(c.map (szC e)).sum
 | .pair a b,x=>szC a x.1+szC b x.2
def cJ (n:Nat):(t:CT)->t.D->Prop
 | .int _,_=>True
 | .bool,_=>True
 | .str,s=>s.length<=n
 | .sl e,c=>c.length<=n/\∀x∈c,cJ n e x
 | .pair a b,x=>cJ n a x.1/\cJ n b x.2
theorem Lr (f:α->Nat):∀(a:Z α)(x:α),x∈a->f x<=(a.map f).sum
 |y::b,x,h=>by rcases bW.1 h with rfl|h;simp;have:=Lr f b x h;simp;omega
theorem Sb {n:Nat}:∀{t:CT}{x:t.D},szC t x<=n->cJ n t x
 | .int _,_,_=>trivial
 | .bool,_,_=>trivial
 | .str,_,h=>h
 | .sl e,d,h=>by simp only[szC]at h;exact⟨J,λx c=>Sb (by have:=Lr (szC e) d x c;omega)⟩
 | .pair a b,x,h=>by simp only[szC]at h;exact⟨Sb J,Sb J⟩
theorem cJ.mono {n m:Nat}(h:n<=m:=by omega):∀{t:CT}{x:t.D},cJ n t x->cJ m t x
 | .int _,_,_=>trivial
 | .bool,_,_=>trivial
 | .str,_,k=>bf k h
 | .sl _,_,k=>⟨bf k.1 h,λx a=>cJ.mono h (k.2 x a)⟩
 | .pair _ _,_,k=>⟨cJ.mono h k.1,cJ.mono h k.2⟩
def alm:(t:CT)->t.D->Prop
 | .int k,n=>k.min<=n/\n<=k.max
 | .bool,_=>True
 | .str,s=>s.length<=9223372036854775807
 | .sl e,c=>c.length<=9223372036854775807/\∀x∈c,alm e x
 | .pair a b,x=>alm a x.1/\alm b x.2
theorem Mz {T}{fin hit:aS R}p(a:Z α)(h:a.length<=1000000000000)(hs:∀i (j:i<a.length) b,T b (i:Int)=cond (p a[i]) hit (b ((i+1:Nat):Int)))(e:∀b,T b (a.length:Int)=fin): aQ T fuel 0=cond (a.any p) hit fin:=by
 have f:=dB;have c:∀n i,i<=a.length->a.length-i<n->aQ T n (i)=cond ((a.drop i).any p) hit fin:=by
  intro n;induction n with
  |zero=>intro i _ h;omega
  |succ n k=>
   intro i j l;rw[aQ];rcases ca i a.length with d|g;rw[hs i d,bZ d,List.any_cons];cases m:p a[i]with|true=>rfl|false=>exact k (i+1) J J
   have:i=a.length:=J;subst this;rw[e,gW];rfl
 exact c fuel 0 J J
theorem iK {T}{fin hit:aS R}p N(h:N<=1000000000000)(hs:∀i a,i<N->T a (i:Int)=cond (!(p i)) hit (a ((i+1:Nat):Int)))(hf:∀a,T a (N:Int)=fin): aQ T fuel 0=cond ((range N).all p) fin hit:=by
 have c:=dB;have b:∀n i,i<=N->N-i<n->aQ T n (i)=cond ((List.range' i (N-i)).all p) fin hit:=by
  intro n;induction n with
  |zero=>intro i _ h;omega
  |succ n f=>
   intro i g j;rw[aQ];rcases ca i N with e|d;rw[hs i _ e,(J:N-i=(N-(i+1))+1),List.range'_succ,cC];cases k:p i with|false=>rfl|true=>exact f (i+1) J J
   have:i=N:=J;subst this;rw[hf,kz];rfl
 have:=b fuel 0 J J;rw[Nat.sub_zero,<-List.range_eq_range']at this;exact this
theorem yp {T}{fin hit:aS R}p(a:Z α)(h:a.length<=1000000000000)(hs:∀i (c:i<a.length) b,T b (i:Int)=cond (!(p a[i])) hit (b ((i+1:Nat):Int)))(hf:∀b,T b (a.length:Int)=fin): aQ T fuel 0=cond (a.all p) fin hit:=by have:=Mz (λx=> !(p x)) a h hs hf;grind
theorem fold_iter {T}(a:Z α)(e:σ->Nat->X)g(b:σ->aS R)(h:a.length<=1000000000000)(j:∀i (m:i<a.length) s d,T d (e s i)=d (e (g s a[i]) (i+1)))(f:∀s d,T d (e s a.length)=b s)s: aQ T fuel (e s 0)=b (a.foldl g s):=by have l:=dB;have c:=HH a e (λx s k=>k (g s x)) b j f fuel 0 s J J;rw[c,ik];clear c j f h;induction a generalizing s with|nil=>rfl|cons x a n=>simp_all[Gz]
theorem NT {T}{fin hit:aS R}(e:Nat->X)p N(h:N<=1000000000000)(hs:∀i a,i<N->(∀j,j<i->p j=O)->T a (e i)=cond (!(p i)) hit (a (e (i+1))))(g:(∀j,j<N->p j=O)->∀a,T a (e N)=fin): aQ T fuel (e 0)=cond ((range N).all p) fin hit:=by
 have k:=dB;have d:∀n i,i<=N->N-i<n->(∀j,j<i->p j=O)->aQ T n (e i)=cond ((List.range' i (N-i)).all p) fin hit:=by
  intro n;induction n with
  |zero=>intro i _ h;omega
  |succ n q=>
   intro i r s c;rw[aQ];rcases ca i N with m|l;rw[hs i _ m c,(J:N-i=(N-(i+1))+1),List.range'_succ,cC];cases o:p i with|false=>rfl|true=>refine q (i+1) J J λj f=>?_;by_cases b:j=i;rw[b];exact o;exact c j J
   have:i=N:=J;subst this;rw[g c,kz];rfl
 have:=d fuel 0 J J (λj f=>absurd f J);rw[Nat.sub_zero,<-List.range_eq_range']at this;exact this
theorem HE {T fin}{hit:Int->aS R}p(a:Z α)(h:a.length<=1000000000000)(hs:∀i (g:i<a.length) b,T b (i:Int)=cond (p a[i]) (hit (i:Int)) (b ((i+1:Nat):Int)))(hf:∀b,T b (a.length:Int)=fin): aQ T fuel 0=(match a.findIdx? p with|some i=>hit (i:Int)|none=>fin):=by
 have e:=dB;have c:∀n i,i<=a.length->a.length-i<n->aQ T n (i)=(match (a.drop i).findIdx? p with|some j=>hit ((i+j:Nat))|none=>fin):=by
  intro n;induction n with
  |zero=>intro i _ h;omega
  |succ n k=>
   intro i g l;rw[aQ];rcases ca i a.length with d|f;rw[hs i d,bZ d,List.findIdx?_cons];cases m:p a[i]with|true=>rfl|false=>have:=k (i+1) J J;refine this.trans ?_;cases (a.drop (i+1)).findIdx? p with|none=>rfl|some j=>simp only[eP,bD,cY];congr 2;omega
   have:i=a.length:=J;subst this;rw[hf,gW];rfl
 have:=c fuel 0 J J;refine this.trans ?_;rw[ik];cases a.findIdx? p with|none=>rfl|some j=>simp only[cR]
theorem cF a b:(bif a then b else G)=(a&&b):=by cases a<;>rfl
theorem cT a b:(bif a then O else b)=(a||b):=by cases a<;>rfl
theorem cN a b:(bif a then G else b)=(!a&&b):=by cases a<;>rfl
def LA (g:α->σ->Except (aS R) σ)(a:σ->aS R):Z α->σ->aS R
 |[],s=>a s
 |x::c,s=>match g x s with| .error r=>r| .ok b=>LA g a c b
theorem vG {T}a(e:σ->Nat->X)(Inv:Nat->σ->Prop)(g:α->σ->Except (aS R) σ)b(h:a.length<=1000000000000)(hs:∀i (l:i<a.length) s d,Inv i s->T d (e s i)=match g a[i] s with| .error r=>r| .ok c=>d (e c (i+1)))(hn:∀i (l:i<a.length) s c,Inv i s->g a[i] s=.ok c->Inv (i+1) c)(hf:∀s d,Inv a.length s->T d (e s a.length)=b s)s(m:Inv 0 s): aQ T fuel (e s 0)=LA g b a s:=by
 have k:∀n i s,i<=a.length->a.length-i<n->Inv i s->aQ T n (e s i)=LA g b (a.drop i) s:=by
  intro n;induction n with
  |zero=>intro i s _ h;omega
  |succ n t=>
   intro i s l u f;rw[aQ];rcases ca i a.length with j|q;rw[hs i j s _ f,bZ j,LA];cases p:g a[i] s with|error r=>rfl|ok c=>exact t (i+1) c J J (hn i j s c f p)
   have:i=a.length:=J;subst this;rw[hf s _ f,gW,LA]
 have o:=dB;have:=k fuel 0 s J J m;rwa[ik]at this
theorem LB (f:σ->α->σ)(a:σ->aS R):∀(b:Z α)(s:σ),LA (λx s=> .ok (f s x)) a b s=a (b.foldl f s)
 |[],_=>rfl
 |x::b,s=>by exact LB f a b (f s x)
theorem bJ {T}{b:aS R}(e:Nat->X)N(h:N<=1000000000000)(f:∀i a,i<N->T a (e i)=a (e (i+1)))(c:∀a,T a (e N)=b):aQ T fuel (e 0)=b:=by rw[NT (hit:=b) e (λ_=>O) N h (λi a d _=>by rw[f i a d];rfl) (λ_ a=>c a)];grind
theorem fi {l:Z α}{k:aS R}(h:l.length<=10^9):room (List.length ([]:Z α)+l.length) k=k:=aU gA
def dF (a c b:Int):=decide (c<=a)&&decide (a<=b)
theorem aR {c b}:dF a c b=O↔c<=a/\a<=b:=by simp[dF]
theorem cz a b c:aN a b c=I (dF a b c):=by grind[aN,aa,dF]
theorem cP a b c:aE a b c=I (dF a b c):=cz a b c
theorem cU {l:Z α}{i}h d:l.getD i d=l[i]:=gA
def Pn (l:dw)i:=dF (l.getD i 0) 0 4095&& !(ay (0<i)&&decide (l.getD i 0<=l.getD (i-1) 0))
def gu (f:Filter):=(range f.2.2.length).all (Pn f.2.2)&&(dF f.1 0 281474976710654&&decide ((f.2.2.length:Int)<=8))
theorem re f(h:f.2.2.length<=10^9):iy f=I (gu f):=by
 unfold iy;rw[iK (fin:=some (dF f.1 0 281474976710654&&decide ((f.2.2.length:Int)<=8))) (Pn f.2.2) f.2.2.length J (λi d b=>?hs) (λd=>?hf)]
 case hs=>
  simp only[zg]
  rw[iG,aP b,aj (n:=(i)+1) J J]
  simp only[ae,aa,cz,Pn,cU b]
  by_cases a:0<i
  ·have e:V ((i)-1)=((i-1:Nat)):=by rw[aj J J];omega
   have c:i-1<f.2.2.length:=J
   rw[e,aP c,ax (J:(i:Int)>0),ax a,cU c]
   simp only[ae,aa,bg]
   cases dF f.2.2[i] 0 4095<;>cases decide (f.2.2[i]<=f.2.2[i-1])<;>rfl
  ·rw[aw (J:¬(i:Int)>0),aw a]
   cases dF f.2.2[i] 0 4095<;>rfl
 case hf=>
  simp only[zg]
  rw[ga]
  simp only[ab,cz,aa,cD]
  cases dF f.1 0 281474976710654<;>rfl
 unfold gu;cases (range f.2.2.length).all (Pn f.2.2)<;>rfl
theorem uk f(h:f.2.2.length<=10^9):jL f=I (gu f):=by
 unfold jL;rw[iK (fin:=some (dF f.1 0 281474976710654&&decide ((f.2.2.length:Int)<=8))) (Pn f.2.2) f.2.2.length J (λi d b=>?hs) (λd=>?hf)]
 case hs=>
  simp only[yy]
  rw[iG,aP b,aj (n:=(i)+1) J J]
  simp only[ae,aa,cP,Pn,cU b]
  by_cases a:0<i
  ·have e:V ((i)-1)=((i-1:Nat)):=by rw[aj J J];omega
   have c:i-1<f.2.2.length:=J
   rw[e,aP c,ax (J:(i:Int)>0),ax a,cU c]
   simp only[ae,aa,bg,ge_iff_le]
   cases dF f.2.2[i] 0 4095<;>cases decide (f.2.2[i]<=f.2.2[i-1])<;>rfl
  ·rw[aw (J:¬(i:Int)>0),aw a]
   cases dF f.2.2[i] 0 4095<;>rfl
 case hf=>
  simp only[yy]
  rw[ga]
  simp only[ab,cP,aa,cD]
  cases dF f.1 0 281474976710654<;>rfl
 unfold gu;cases (range f.2.2.length).all (Pn f.2.2)<;>rfl
def KF r:=(qP r).getD G
theorem Ye r:qP r=I (KF r):=by simp_all[qP,cz,cD,KF]
theorem apQ r:Jg r=I (KF r):=Ye r
theorem afW {r}(h:KF r=O):r.2.2.2.2.2.2.2.1=0\/r.2.2.2.2.2.2.2.2=0:=by
 by_cases a:r.2.2.2.2.2.2.2.1=0;exact .inl a;by_cases b:r.2.2.2.2.2.2.2.2=0;exact .inr b;exfalso;have d:(r.2.2.2.2.2.2.2.1==0)=false:=by simp[a]
 have e:(r.2.2.2.2.2.2.2.2==0)=false:=by simp[b]
 revert h;unfold KF;simp only[qP,cz,aa,cD,d,e,ab,gj];have z:∀c:Bool,(bif c then G else G)=false:=by intro c;cases c<;>rfl
 simp only[z];intro h;cases h
def Gl (l:Z IV):=l.all KF&&decide ((l.length:Int)<=12)
theorem Oy l(h:l.length<=10^9):DK l=I (Gl l):=by unfold DK;rw[yp (hit:=some G) (fin:=some (ay ((l.length:Int)<=12))) KF l J (λi b a=>?hs) (λa=>?hf)];all_goals grind[Gp,aP,aj,aa,Ye,Gl]
theorem aap l(h:l.length<=10^9):G2 l=I (Gl l):=by rw[<-Oy l h];rfl
theorem aAO x:((BitVec.ofInt 64 x&&&BitVec.ofInt 64 7).toNat:Int)=x%8:=by have a:(BitVec.ofInt 64 7).toNat=2^3-1:=eR;rw[BitVec.toNat_and,a,Nat.and_two_pow_sub_one_eq_mod];grind[BitVec.toNat_ofInt]
theorem auh x:((ie x&&&ie 7).toNat:Int)=x%8:=aAO x
theorem asd x:lO x 8=I (x%8):=by grind[lO,aj]
def OX (f:zZ):=(f.1%8+f.2.1%8+f.2.2.1%8+f.2.2.2.1%8+f.2.2.2.2%8)%8
theorem aeA f:0<=OX f/\OX f<8:=by unfold OX;omega
theorem ata {n:Int}(h:0<=n):tmod n 8=n%8:=fD h
theorem aqR f:Fv f=I (OX f):=by
 unfold Fv;generalize b:[f.1,f.2.1,f.2.2.1,f.2.2.2.1,f.2.2.2.2]=L;have c:L.length=5:=by rw[<-b];rfl
 have d:=dB;have a:=HH (T:=tE (λ(h) (j)=>if 8=0 then none else(I (tmod h 8))) L) L (λ(s) i=>(s,(i))) (λx s k=>k (V (s+V (x%8)))) (λs=>I (tmod s 8)) (λi e s g=>by simp only[tE];rw[iG,aP e,aj J J];grind[aa,auh]) (λs g=>by grind[tE]) fuel 0 0 J J;refine a.trans ?_;rw[<-b];simp(disch:=omega)[Gz,aj,ata,OX]
theorem apG f:E5 f=I (OX f):=by
 unfold E5;generalize b:[f.1,f.2.1,f.2.2.1,f.2.2.2.1,f.2.2.2.2]=L;have c:L.length=5:=by rw[<-b];rfl
 have d:=dB;have a:=HH (T:=sM (λ(g) (j)=>if 8=0 then none else(I (tmod g 8))) L (L.length)) L (λ(s) i=>(s,(i))) (λx s k=>k (V (s+(x%8)))) (λs=>I (tmod s 8)) (λi h s e=>by grind[sM,aP,aj,aa,asd]) (λs e=>by grind[sM]) fuel 0 0 J J;refine a.trans ?_;rw[<-b];simp(disch:=omega)[Gz,aj,ata,OX]
def jv (t:Z Slot)i:=t.getD i (0,(0,0,0,0,0),0)
theorem EG {t i}h:jv t i=t[i]:=cU h _
def pN f k:=((OX f).toNat+k)%8
theorem Sl f k:pN f k<8:=Nat.mod_lt _ J
theorem agQ f(k:Nat)(h:k<8):tmod (V (OX f+(k:Int))) 8=(pN f k:Int):=by have:=aeA f;grind[aj,pN]
def vY (s:Slot)f:=(s.1==1)&&decide (s.2.1=f)
theorem Vv (p q:zZ):((p.1==q.1)&&((p.2.1==q.2.1)&&((p.2.2.1==q.2.2.1)&&((p.2.2.2.1==q.2.2.2.1)&&((p.2.2.2.2==q.2.2.2.2)&&O)))))=decide (p=q):=by grind
def walk (t:Z Slot)(f:zZ):Nat->Nat->Int
 |0,_=> -1
 |n+1,k=>if(jv t (pN f k)).1=0 then-1 else if vY (jv t (pN f k)) f then(pN f k:Int) else walk t f n (k+1)
theorem agk t f(m:t.length=8):Hs t f=I (walk t f 8 0):=by
 have e:=dB
 have b:=Rb (T:=Bt (λ(o)=>I (-1)) (λ(l) (p)=>I l) 0 t f) 8 (λ(_) i=>(i))
  (λi s k=>if(jv t (pN f i)).1=0 then I (-1) else if vY (jv t (pN f i)) f then I (pN f i) else k s) (λ_=>I (-1))
  (λi s j g=>by
   have c:pN f i<t.length:=by have:=Sl f i;omega
   simp only[Bt,aqR];rw[iG,aj J J];simp only[ae,aa,agQ f i g,aP c,EG c,Vv,vY,cD,aa];by_cases a:t[pN f i].1=0;simp[a];have d:(t[pN f i].1==0)=false:=by simp[a]
   rw[d,aK a];cases (t[pN f i].1==1)<;>cases decide (t[pN f i].2.1=f)<;>rfl)
  (λs j=>by rfl)
  fuel 0 () J J
 refine b.trans ?_;have main:∀n i,upK (R:=Int) (λi (s) k=>if(jv t (pN f i)).1=0 then I (-1) else if vY (jv t (pN f i)) f then I (pN f i) else k s) (λ_=>I (-1)) 8 n i ()=I (walk t f n i):=by intro n;induction n with|zero=>intro i;rfl|succ n h=>intro i;rw[upK,walk];split;rfl;split;rfl;exact h (i+1)
 exact main 8 0
def Gi (f:zZ):Z Slot->Int->Int
 |[],_=> -1
 |s::r,i=>if vY s f then i else Gi f r (i+1)
theorem ae1 t f(h:t.length<=10^9):Ji t f=I (Gi f t 0):=by
 have c:=dB;have a:∀n i,i<=t.length->t.length-i<n->aQ (Dc (λ(m)=>I (-1)) (λ(j) (o)=>I j) 0 t ((List.length t)) f) n (i)=I (Gi f (t.drop i) i):=by
  intro n;induction n with
  |zero=>intro i _ h;omega
  |succ n g=>
   intro i k l;rw[aQ];simp only[Dc];rcases ca i t.length with b|d;rw[iG,aP b,bZ b,Gi,aj J J];simp only[ae,aa,Vv,cD];have e:(bif t[i].1==1 then decide (t[i].2.1=f) else G)=vY t[i] f:=by unfold vY;cases (t[i].1==1)<;>rfl
   rw[e];cases vY t[i] f with|true=>rfl|false=>exact g (i+1) J J
   have:i=t.length:=J;subst this;rw[ga,gW];rfl
 exact a fuel 0 J J
theorem ar2 f:P5 f=I ((range 8).map λk=>(pN f k:Int)):=by have b:=dB;have a:=Rb (T:=Fh (λ(d) (g)=>I d) f) 8 (λ(_) i=>((range i).map (λk=>(pN f k)),(i))) (λ_ s k=>k s) (λ_=>I ((range 8).map λk=>(pN f k))) (λi s c e=>by grind[Fh,apG,aj,aa,agQ,aU,ja]) (λs c=>by rfl) fuel 0 () J J;exact a
def clear (t:Z Slot)(f:zZ)(i:Nat):Nat->Nat->Bool
 |0,_=>O
 |n+1,k=>if pN f k=i then O else if(jv t (pN f k)).1=0 then G else clear t f i n (k+1)
theorem amd j k1(b a:aS R)(o:∀x,j x=a)(r:∀x,k1 G x=b)q(i:Nat)d e g t f(A:t.length=8): aQ (sR j k1 q (i:Int) d e g ((range 8).map λk=>(pN f k:Int)) (((range 8).map λk=>(pN f k:Int)).length:Int) t) fuel 0=cond (clear t f i 8 0) a b:=by
 have u:=dB;have z:((range 8).map λk=>(pN f k:Int)).length=8:=aD
 have l:=Rb (T:=sR j k1 q (i) d e g ((range 8).map λk=>(pN f k)) (((range 8).map λk=>(pN f k:Int)).length) t) 8 (λ(_) i=>(i))
  (λk s c=>if pN f k=i then a else if(jv t (pN f k)).1=0 then b else c s) (λ_=>a)
  (λk s w y=>by
   have p:pN f k<t.length:=by have:=Sl f k;omega
   simp only[sR];rw[iG,aP (show k<((range 8).map λk=>(pN f k:Int)).length by omega),aj J J];simp only[ae,aa,List.getElem_map,List.getElem_range,aP p,EG p,o,r];by_cases m:pN f k=i;subst m;simp;have:((pN f k:Int)==(i))=false:=by simp;omega
   rw[this,aK m];by_cases h:t[pN f k].1=0;simp[h];have:(t[pN f k].1==0)=false:=by simp[h]
   rw[this,aK h];rfl)
  (λs w=>by exact o _)
  fuel 0 () J J
 refine l.trans ?_;have main:∀n k,upK (λk (s) c=>if pN f k=i then a else if(jv t (pN f k)).1=0 then b else c s) (λ_=>a) 8 n k ()=cond (clear t f i n k) a b:=by intro n;induction n with|zero=>intro k;rfl|succ n v=>intro k;rw[upK,clear];split;rfl;split;rfl;exact v (k+1)
 exact main 8 0
def aed:zZ:=(0,0,0,0,0)
theorem aee p:((p.1==0)&&((p.2.1==0)&&((p.2.2.1==0)&&((p.2.2.2.1==0)&&((p.2.2.2.2==0)&&O)))))=decide (p=aed):=Vv p aed
def abd (s:Slot):=dF s.1 0 2&&dF s.2.2 0 3&&((s.1==1)||(s.2.2==0)&&decide (s.2.1=aed))
def tn t i:=abd (jv t i)&&(!((jv t i).1==1)||(walk t (jv t i).2.1 8 0==(i:Int)))
def Cb t i:=abd (jv t i)&&(!((jv t i).1==1)||(Gi (jv t i).2.1 t 0==(i:Int))&&clear t (jv t i).2.1 i 8 0)
def BX t:=(t.length==8)&&(range 8).all (tn t)
theorem abn t:DM t=I (BX t):=by
 unfold DM BX;by_cases a:t.length=8
 ·have e:((t.length:Int) !=8)=false:=by rw[a];rfl
  have b:(t.length==8)=true:=by rw[a];rfl
  rw[e,b];rw[iK (tn t) 8 J (λi d f=>?hs) (λd=>?hf)]
  case hs=>
   have c:i<t.length:=J
   simp only[Bp]
   rw[iG,aP c,aj J J]
   simp only[ae,aa,cz,cD,aee,agk t _ a,tn,EG c,abd,bne]
   cases dF t[i].1 0 2<;>cases dF t[i].2.2 0 3<;>cases (t[i].1==1)<;>cases (t[i].2.2==0)<;>cases decide (t[i].2.1=aed)<;>first|rfl|(cases (walk t t[i].2.1 8 0==(i))<;>rfl)
  case hf=>
   simp only[Bp]
   rw[ga];rfl
  cases (range 8).all (tn t)<;>rfl
 have e:((t.length:Int) !=8)=true:=by simp;omega
 have b:(t.length==8)=false:=by simp[a]
 rw[e,b];rfl
theorem aid t:yL t=I ((t.length==8)&&(range 8).all (Cb t)):=by
 unfold yL;by_cases a:t.length=8
 ·have e:((t.length:Int) !=8)=false:=by rw[a];rfl
  have b:(t.length==8)=true:=by rw[a];rfl
  rw[e,b];rw[iK (Cb t) 8 J (λi c f=>?hs) (λc=>?hf)]
  case hs=>
   have d:i<t.length:=J
   simp only[Bb]
   rw[iG,aP d,aj J J]
   simp only[ae,aa,cP,cD,aee,ae1 t _ (J:t.length<=10^9),ar2,Cb,EG d,abd,bne]
   rw[amd (λ_=>c ((i)+1)) (λ(y) (_)=>I y) (I G) (c ((i)+1)) (λ_=>rfl) (λ_=>rfl) _ _ _ _ _ _ _ a]
   cases dF t[i].1 0 2<;>cases dF t[i].2.2 0 3<;>cases (t[i].1==1)<;>cases (t[i].2.2==0)<;>cases decide (t[i].2.1=aed)<;>first|rfl|(cases (Gi t[i].2.1 t 0==(i))<;>first|rfl|(cases clear t t[i].2.1 i 8 0<;>rfl))
  case hf=>
   simp only[Bb]
   rw[ga];rfl
  cases (range 8).all (Cb t)<;>rfl
 have e:((t.length:Int) !=8)=true:=by simp;omega
 have b:(t.length==8)=false:=by simp[a]
 rw[e,b];rfl
theorem abF (t:Z Slot)(f:zZ)(i:Nat):∀n k,walk t f n k=(i:Int)->vY (jv t i) f=O/\clear t f i n k=O/\∃j,j<n/\pN f (k+j)=i
 |0,k,h=>by unfold walk at h;omega
 |n+1,k,h=>by unfold walk at h;unfold clear;by_cases d:(jv t (pN f k)).1=0;omega;rw[aK d]at h;by_cases c:vY (jv t (pN f k)) f=O;rw[aI c]at h;have:pN f k=i:=J;subst this;exact⟨c,aD,0,J,rfl⟩;rw[aK c]at h;obtain⟨a,b,j,g,e⟩:=abF t f i n (k+1) h;refine⟨a,?_,j+1,J,by rw[<-e];congr 1;omega⟩;rw[aK d,b];split<;>rfl
theorem alh (t:Z Slot)(f:zZ)(i:Nat)(c:vY (jv t i) f=O)(d:∀j,j<8->vY (jv t j) f=O->j=i):∀n k,clear t f i n k=O->(∃j,j<n/\pN f (k+j)=i)->walk t f n k=(i:Int)
 |0,k,_,h=>J
 |n+1,k,a,⟨j,m,e⟩=>by unfold walk;unfold clear at a;by_cases g:pN f k=i;rw[g,aK,aI c];intro b;unfold vY at c;rw[b]at c;simp at c;rw[aK g]at a;by_cases b:(jv t (pN f k)).1=0;rw[aI b]at a;cases a;rw[aK b]at a;rw[aK b,aK (λl=>g (d _ (Sl f k) l))];refine alh t f i c d n (k+1) a ?_;cases j with|zero=>exact absurd e g|succ j=>exact⟨j,J,by rw[<-e];congr 1;omega⟩
theorem asM f i(a:i<8):∃j,j<8/\pN f (0+j)=i:=by have:=aeA f;refine⟨(i+8-(OX f).toNat)%8,J,?_⟩;unfold pN;omega
theorem MN (f:zZ):∀(t:Z Slot)(m:Nat),(∃j,j<t.length/\vY (jv t j) f=O)->∃j,j<t.length/\vY (jv t j) f=O/\Gi f t m=((m+j:Nat):Int)
 |[],_,h=>by obtain⟨j,b,_⟩:=h;simp at b
 |s::r,m,⟨j,b,e⟩=>by unfold Gi;by_cases a:vY s f=O;rw[aI a];exact⟨0,aD,by simpa[jv]using a,aD⟩;rw[aK a];cases j with|zero=>exact absurd (by simpa[jv]using e) a|succ j=>obtain⟨i,c,d,g⟩:=MN f r (m+1) ⟨j,by simpa using b,by simpa[jv]using e⟩;refine⟨i+1,by simpa using c,by simpa[jv]using d,?_⟩;have:((m:Int)+1)=((m+1:Nat)):=J;rw[this,g];congr 1;omega
theorem ajh t(q:t.length=8):(range 8).all (Cb t)=(range 8).all (tn t):=by
 rw[fE,aL,aL];simp only[bK];constructor;intro h i g;have c:=h i g;unfold Cb at c;unfold tn;simp only[af,dW,aW,bw]at c⊢;refine⟨c.1,?_⟩;rcases c.2 with d|⟨d,n⟩;exact .inl d;by_cases k:((jv t i).1==1)=O;right;have l:vY (jv t i) (jv t i).2.1=true:=by unfold vY;rw[k];simp
 refine alh t _ i l (λj m a=>?_) 8 0 n (asM _ i g);have f:=h j m;unfold Cb at f;unfold vY at a;simp only[af,bO]at a;simp only[af,dW,aW,bw]at f;rcases f.2 with b|⟨b,_⟩;rw[a.1]at b;cases b;rw[a.2]at b;omega;exact .inl (by simpa using k);intro h i g;have c:=h i g;unfold tn at c;unfold Cb;simp only[af,dW,aW,bw]at c⊢;refine⟨c.1,?_⟩;rcases c.2 with d|d;exact .inl d;right;obtain⟨k,o,_⟩:=abF t _ i 8 0 d;refine⟨?_,o⟩;obtain⟨j,m,a,e⟩:=MN (jv t i).2.1 t 0 ⟨i,J,k⟩;have f:=h j J;unfold tn at f;unfold vY at a;simp only[af,bO]at a;simp only[af,dW,aW,bw]at f;rcases f.2 with b|b;rw[a.1]at b;cases b;rw[a.2,d]at b;have p:Gi (jv t i).2.1 t 0=((0+j)):=e;omega
theorem aat t:yL t=I (BX t):=by
 rw[aid,BX];by_cases a:t.length=8;rw[ajh t a];have b:(t.length==8)=false:=by simp[a]
 rw[b];rfl
def akX (n:Int):=(n==1)||(n==2)||(n==4)||(n==8)||(n==16)
theorem aiu n:Hq n=I (akX n):=by grind[Hq,aa,akX]
def BG (s:Ms)q:=dF q 1 4&&((s.1.length:Int)==16)&&akX s.2.length&&s.2.all λx=>dF x 0 (q-1)
theorem Qe s q(h:s.2.length<=10^9):AI s q=I (BG s q):=by
 unfold AI BG;simp only[cz,aiu,aa,cD,bne];by_cases a:dF q 1 4=O
 ·rw[yp (λx=>dF x 0 (q-1)) s.2 J (λi c d=>?hs) (λd=>?hf)]
  case hs=>
   rw[aR]at a
   simp only[zG]
   rw[iG,aP c,aj J J,aj J J]
   simp only[ae,aa,cz];rfl
  case hf=>
   simp only[zG]
   rw[ga];rfl
  rw[a];cases ((s.1.length:Int)==16)<;>cases akX s.2.length<;>cases s.2.all (λx=>dF x 0 (q-1))<;>rfl
 have b:dF q 1 4=false:=by simpa using a
 rw[b];rfl
theorem W8 s q(h:s.2.length<=10^9):Fe s q=I (BG s q):=by rw[<-Qe s q h];rfl
def fK (s:jx)q:=Gl s.1&&BX s.2.1&&BG s.2.2 q&&s.1.all (λr=> !(ay (r.2.2.2.2.2.2.2.2>=q)))&&s.2.1.all (λx=> !(ay (x.2.2>=q)))
theorem Ds s q(b:s.1.length<=10^9)(e:s.2.1.length<=10^9)(c:s.2.2.2.length<=10^9):nA s q=I (fK s q):=by
 unfold nA fK;simp only[Oy _ b,abn,Qe _ _ c,aa,cD];rw[yp (hit:=some G) (fin:=cond (s.2.1.all (λx=> !(ay (x.2.2>=q)))) (I O) (I G)) (λr:IV=> !(ay (r.2.2.2.2.2.2.2.2>=q))) s.1 J (λi d a=>?hs) (λa=>?hf)]
 case hs=>
  grind[uZ,aP,aj,aa]
 case hf=>
  simp only[uZ]
  rw[ga]
  simp only[ab]
  rw[yp (λx:Slot=> !(ay (x.2.2>=q))) s.2.1 J (λi d a=>?hs) (λa=>?hf)]
  all_goals grind[BV,aP,aj,aa]
 grind
theorem Lj s q(k:s.1.length<=10^9)(m:s.2.1.length<=10^9)(l:s.2.2.2.length<=10^9):pZ s q=I (fK s q):=by
 unfold pZ fK;simp only[aap _ k,aat,W8 _ _ l,aa,cD];rw[yp (λr:IV=> !((r.2.2.2.2.2.2.2.1==0)&&decide (r.2.2.2.2.2.2.2.2>=q))) s.1 J (λi c g=>?hs) (λg=>?hf)]
 case hs=>
  simp only[uB]
  rw[iG,aP c,aj J J]
  simp only[ae,aa,nm,cD]
  cases (s.1[i].2.2.2.2.2.2.2.1==0)<;>rfl
 case hf=>
  simp only[uB]
  rw[ga]
  simp only[ab]
  rw[yp (λx:Slot=> !((x.1==1)&&decide (x.2.2>=q))) s.2.1 J (λi c g=>?hs) (λg=>?hf)]
  case hs=>
   simp only[rN]
   rw[iG,aP c,aj J J]
   simp only[ae,aa,nm,cD]
   cases (s.2.1[i].1==1)<;>rfl
  case hf=>
   simp only[rN]
   rw[ga];rfl
 cases e:Gl s.1 with
 |false=>rfl
 |true=>
  cases f:BX s.2.1 with
  |false=>rfl
  |true=>
   cases hs:BG s.2.2 q with
   |false=>rfl
   |true=>
    have n:1<=q:=by unfold BG at hs;simp only[af,aR]at hs;exact hs.1.1.1.1
    have h:s.1.all (λr=> !((r.2.2.2.2.2.2.2.1==0)&&decide (r.2.2.2.2.2.2.2.2>=q)))=s.1.all (λr=> !(ay (r.2.2.2.2.2.2.2.2>=q))):=by unfold Gl at e;simp only[af,aL]at e;rw[fE,aL,aL];refine forall_congr' λr=>forall_congr' λd=>?_;rcases afW (e.1 r d)with b|b;rw[b];simp;rw[b];simp only[aw (J:¬(0)>=q),ij]
    have j:s.2.1.all (λx=> !((x.1==1)&&decide (x.2.2>=q)))=s.2.1.all (λx=> !(ay (x.2.2>=q))):=by unfold BX at f;simp only[af,aL,bK,bw]at f;rw[fE,aL,aL];refine forall_congr' λx=>forall_congr' λd=>?_;obtain⟨i,c,rfl⟩:=List.mem_iff_getElem.1 d;have a:=f.2 i J;unfold tn abd at a;rw[EG c]at a;simp only[af,dW,bw]at a;rcases a.1.2 with b|⟨b,_⟩;rw[b];simp;rw[b];simp only[aw (J:¬(0)>=q),ij]
    rw[h,j];cases s.1.all (λr=> !(ay (r.2.2.2.2.2.2.2.2>=q)))<;>cases s.2.1.all (λx=> !(ay (x.2.2>=q)))<;>rfl
theorem jf {n:Nat}(h:n<9223372036854775808):V (n:Int)=(n:Int):=aj J J
theorem Sn {n:Nat}(h:n<4294967296:=by omega):IntKind.wrap .u32 (n:Int)=(n:Int):=by grind[IntKind.wrap,IntKind.bits,IntKind.signed]
theorem nU (b:UInt8):b.toNat<256:=b.toNat_lt
def aG v:=(cO v).getD []
theorem kg v:cO v=I (aG v):=by grind[aG,cO,cz,aa]
theorem oR v:dk v=I (aG v):=kg v
theorem IT v:(aG v).length=bif dF v 0 65535 then 2 else 0:=by have h:=kg v;simp only[cO,cz,aa]at h;cases a:dF v 0 65535<;>rw[a]at h<;>(rw[<-bu h];rfl)
theorem cj v:(aG v).length<=2:=by grind[IT]
def cx v:=(fT v).getD []
theorem mc v:fT v=I (cx v):=by grind[cx,fT,cz,aa]
theorem BN v:iH v=I (cx v):=mc v
theorem L3 v:(cx v).length=bif dF v 0 4294967295 then 4 else 0:=by have h:=mc v;simp only[fT,cz,aa]at h;cases a:dF v 0 4294967295<;>rw[a]at h<;>(rw[<-bu h];rfl)
theorem eG v:(cx v).length<=4:=by grind[L3]
def cr (s:Bytes)i:=(s.getD i 0).toNat
theorem gT s i:cr s i<256:=nU _
theorem nH {i}(h:i<s.length:=by omega):∃x,idx s (i:Int)=I x/\x.toNat=cr s i:=⟨s[i],aP h,by rw[cr,cU h]⟩
def gG (s:Bytes)a n:=decide (0<=a/\a+n<=(s.length:Int))
theorem Nx s a n(h:s.length<=10^9)(hn:0<=n):tQ s a n=I (gG s a n):=by
 unfold tQ gG;by_cases b:0<=a;by_cases c:a<=(s.length:Int)
 rw[ax (show a>=0 from b),ax c,aj J J];simp only[ae,aa];congr 1;rw[decide_eq_decide];omega;rw[ax (show a>=0 from b),aw c,aw (J:¬(0<=a/\a+n<=(s.length:Int)))];rfl;rw[aw (show¬a>=0 from b),aw (J:¬(0<=a/\a+n<=(s.length:Int)))];rfl
def dg s a:=bif gG s a 2 then((cr s a.toNat*256+cr s (a.toNat+1):Nat):Int) else-1
def eK s a:=bif gG s a 4 then(((cr s a.toNat*256+cr s (a.toNat+1))*65536+(cr s (a.toNat+2)*256+cr s (a.toNat+3)):Nat):Int) else-1
theorem yY s a(h:s.length<=10^9):fS s a=I (dg s a):=by unfold fS dg;rw[Nx s a 2 h J,aa];cases b:gG s a 2 with|false=>rfl|true=>simp only[gG,bO]at b;obtain⟨n,rfl⟩:=ar b.1;obtain⟨x,f,d⟩:=nH (s:=s) (i:=n);obtain⟨y,j,e⟩:=nH (s:=s) (i:=n+1);have g:=gT s n;have k:=gT s (n+1);rw[aj (n:=(n:Int)+1) J J,f,(J:(n:Int)+1=((n+1:Nat):Int)),j];simp only[ak,ab,aa,au,ae];rw[nQ,d,e,jf J,jf J];have c:tZ 8=8:=rfl;rw[c,aj (n:=((cr s n:Nat):Int)*2^8) J J,aj J J];congr 1;all_goals omega
theorem EH s a(h:s.length<=10^9):jw s a=I (eK s a):=by
 unfold jw eK;rw[Nx s a 4 h J,aa];cases b:gG s a 4 with
 |false=>rfl
 |true=>
  simp only[gG,bO]at b;obtain⟨n,rfl⟩:=ar b.1;have d:gG s (n:Int) 2=true:=by grind[gG]
  have e:gG s ((n:Int)+2) 2=true:=by grind[gG]
  have f:=gT s n;have g:=gT s (n+1);have i:=gT s (n+2);have j:=gT s (n+3);rw[aj (n:=(n:Int)+2) J J,yY s _ h,yY s _ h];simp only[ak,ab,aa,ae,dg,d,e,au];rw[nQ,(J:((n:Int)+2).toNat=n+2),(J:n+2+1=n+3)];have c:tZ 16=16:=rfl;rw[c,aj (n:=((cr s n*256+cr s (n+1):Nat):Int)*2^16) J J,aj J J];congr 1;all_goals omega
theorem aBq (a b:Nat)(c:a<9223372036854775808)(d:b<9223372036854775808):toNat (ie (a:Int)|||ie (b:Int))=a|||b:=by show(BitVec.ofInt 64 (a:Int)|||BitVec.ofInt 64 (b:Int)).toNat=_;grind
theorem aoL (a b:Nat)(c:a<9223372036854775808:=by omega)(d:b<9223372036854775808:=by omega):toNat (ie (a:Int)&&&ie (b:Int))=a&&&b:=by show(BitVec.ofInt 64 (a:Int)&&&BitVec.ofInt 64 (b:Int)).toNat=_;grind
theorem alj (a b:Nat)(c:a<9223372036854775808)(d:b<9223372036854775808):toNat (ie (a:Int)^^^ie (b:Int))=a^^^b:=by show(BitVec.ofInt 64 (a:Int)^^^BitVec.ofInt 64 (b:Int)).toNat=_;grind
theorem aug (a b:Nat)(c:a<4294967296)(d:b<4294967296):toNat (BitVec.ofInt (IntKind.bits .u32) (a:Int)&&&BitVec.ofInt (IntKind.bits .u32) (b:Int))=a&&&b:=by show(BitVec.ofInt 32 (a:Int)&&&BitVec.ofInt 32 (b:Int)).toNat=_;grind
theorem atb (a b:Nat)(c:a<4294967296)(d:b<4294967296):toNat (BitVec.ofInt (IntKind.bits .u32) (a:Int)^^^BitVec.ofInt (IntKind.bits .u32) (b:Int))=a^^^b:=by show(BitVec.ofInt 32 (a:Int)^^^BitVec.ofInt 32 (b:Int)).toNat=_;grind
theorem Qa (x k y:Nat)(a:y<2^k:=by omega)(h:2^k*x+y<9223372036854775808:=by omega):V (toNat (ie ((2^k*x:Nat):Int)|||ie (y:Int)):Int)=((2^k*x+y:Nat):Int):=by rw[aBq _ _ J J,<-Nat.two_pow_add_eq_or_of_lt a];exact jf h
theorem UP s a n:(cond (ay (a<0)) (I O) (I (ay (a>(s.length:Int)-n))))=I (!gG s a n):=by grind[gG]
theorem Em s a(h:s.length<=10^9):ia s a=I (dg s a):=by unfold ia dg;rw[aj (n:=(s.length:Int)-2) J J];rw[UP,aa];cases b:gG s a 2 with|false=>rfl|true=>simp only[gG,bO]at b;obtain⟨n,rfl⟩:=ar b.1;obtain⟨x,f,d⟩:=nH (s:=s) (i:=n);obtain⟨y,j,e⟩:=nH (s:=s) (i:=n+1);have g:=gT s n;have k:=gT s (n+1);rw[aj (n:=(n:Int)+1) J J,f,(J:(n:Int)+1=((n+1:Nat):Int)),j];simp only[ak,ab,ae,aa,au];rw[nQ,d,e,jf (n:=cr s n) J,jf (n:=cr s (n+1)) J];have c:tZ 8=8:=rfl;rw[c,(J:((cr s n:Nat):Int)*2^8=((2^8*cr s n:Nat):Int)),jf (n:=2^8*cr s n) J,Qa (cr s n) 8 (cr s (n+1))];congr 1;all_goals omega
theorem En s a(h:s.length<=10^9):ka s a=I (eK s a):=by unfold ka eK;rw[aj (n:=(s.length:Int)-4) J J];rw[UP,aa];cases e:gG s a 4 with|false=>rfl|true=>simp only[gG,bO]at e;obtain⟨n,rfl⟩:=ar e.1;obtain⟨w,m,g⟩:=nH (s:=s) (i:=n);obtain⟨x,o,j⟩:=nH (s:=s) (i:=n+1);obtain⟨y,p,k⟩:=nH (s:=s) (i:=n+2);obtain⟨z,q,l⟩:=nH (s:=s) (i:=n+3);have r:=gT s n;have t:=gT s (n+1);have u:=gT s (n+2);have v:=gT s (n+3);rw[aj (n:=(n:Int)+1) J J,aj (n:=(n:Int)+2) J J,aj (n:=(n:Int)+3) J J,m,(J:(n:Int)+1=((n+1:Nat):Int)),o,(J:(n:Int)+2=((n+2:Nat):Int)),p,(J:(n:Int)+3=((n+3:Nat):Int)),q];simp only[ak,ab,ae,aa,au];rw[nQ,nQ,nQ,g,j,k,l];generalize cr s n=b at*;generalize cr s (n+1)=c at*;generalize cr s (n+2)=d at*;generalize cr s (n+3)=f at*;have f24:tZ 24=24:=rfl;have f16:tZ 16=16:=rfl;have f8:tZ 8=8:=rfl;rw[jf (n:=b) J,jf (n:=c) J,jf (n:=d) J,jf (n:=f) J,f24,f16,f8,(J:((b:Nat):Int)*2^24=((2^24*b:Nat):Int)),(J:((c:Nat):Int)*2^16=((2^16*c:Nat):Int)),(J:((d:Nat):Int)*2^8=((2^8*d:Nat):Int)),jf (n:=2^24*b) J,jf (n:=2^16*c) J,jf (n:=2^8*d) J,Qa b 24 (2^16*c),(J:2^24*b+2^16*c=2^16*(2^8*b+c)),Qa _ 16 (2^8*d),(J:2^16*(2^8*b+c)+2^8*d=2^8*(2^8*(2^8*b+c)+d)),Qa _ 8 f];congr 1;all_goals omega
def PB c:=if c%2=1 then(c/2)^^^3988292384 else c/2
def Cp:Nat->Nat->Nat
 |0,c=>c
 |n+1,c=>PB (Cp n c)
def aAQ c(s:Bytes):=s.foldl (λc b=>Cp 8 (c^^^b.toNat)) c
def ZN s:=4294967295-(aAQ 4294967295 s:Int)
theorem J5 {a b}(c:a<4294967296)(d:b<4294967296):a^^^b<4294967296:=Nat.xor_lt_two_pow (n:=32) c d
theorem alH {c}(h:c<4294967296):PB c<4294967296:=by grind[PB,J5]
theorem QA {c:Nat}(h:c<4294967296):∀n,Cp n c<4294967296
 |0=>h
 |n+1=>alH (QA h n)
theorem aqN e(k:Int->aS R)(p:∀x y,e x y=k x)j l(c:Nat)(h:c<4294967296):aQ (wu e j l) fuel ((c:Int),0)=k (Cp 8 c:Int):=by
 have o:=dB
 have f:=Rb (T:=wu e j l) 8 (λ(_:Unit) i=>((Cp i c:Int),(i:Int))) (λ_ s d=>d s) (λ_=>k (Cp 8 c:Int))
  (λi s d u=>by
   have t:=QA h i;simp only[wu];have g:=aoL (Cp i c) 1;have r:=alj (Cp i c/2) 3988292384 J J;simp only[Int.natCast_one]at g
   rw[iG,ae,g,Nat.and_one_is_mod,
    show tZ 1=1 from rfl,show fdiv ((Cp i c:Nat):Int) (2^1)=((Cp i c/2:Nat):Int) from by rw[Int.fdiv_eq_ediv_of_nonneg _ J];rfl,
    show(3988292384:Int)=((3988292384:Nat):Int) from rfl,r,
    jf (n:=Cp i c%2) J,jf (n:=(Cp i c/2)^^^3988292384) (by have:=J5 (a:=Cp i c/2) (b:=3988292384) J J;omega),nQ,nQ,aj (n:=(i:Int)+1) J J]
   show _=d ((PB (Cp i c):Int),((i+1:Nat):Int));unfold PB;by_cases q:Cp i c%2=1;rw[q,aI rfl];rfl;have m:Cp i c%2=0:=J;rw[m,nQ];rfl)
  (λs d=>by simp only[wu];rw[ga,ab,p])
  fuel 0 () J J
 refine f.trans ?_;rfl
theorem apC b(k:Int->aS R)(m:∀x y,b x y=k x)f g(c:Nat)(h:c<4294967296):aQ (wj b f g) fuel ((c:Int),0)=k (Cp 8 c:Int):=by
 have l:=dB
 have d:=Rb (T:=wj b f g) 8 (λ(_:Unit) i=>((Cp i c:Int),(i:Int))) (λ_ s a=>a s) (λ_=>k (Cp 8 c:Int))
  (λi s a r=>by
   have q:=QA h i;simp only[wj];have e:=aug (Cp i c) 1 J J;have p:=atb (Cp i c/2) 3988292384 J J;simp only[Int.natCast_one]at e
   rw[iG,ae,e,Nat.and_one_is_mod,
    show min (Int.toNat 1) (IntKind.bits .u32)=1 from rfl,show fdiv ((Cp i c:Nat):Int) (2^1)=((Cp i c/2:Nat):Int) from by rw[Int.fdiv_eq_ediv_of_nonneg _ J];rfl,
    show(3988292384:Int)=((3988292384:Nat):Int) from rfl,p,
    Sn (n:=Cp i c%2),Sn (n:=(Cp i c/2)^^^3988292384) (J5 J J),nQ,aj (n:=(i:Int)+1) J J]
   show _=a ((PB (Cp i c):Int),((i+1:Nat):Int));unfold PB;by_cases o:Cp i c%2=1;rw[o,aI rfl];rfl;have j:Cp i c%2=0:=J;rw[j,nQ];rfl)
  (λs a=>by simp only[wj];rw[ga,ab,m])
  fuel 0 () J J
 refine d.trans ?_;rfl
theorem ak1 s(h:s.length<=10^9):IC s=I (ZN s):=by
 unfold IC;have:=vG (T:=AD (λ(g:Int) (_:Int)=>I (V (4294967295-g))) s) s (λ(c:Nat) i=>((c:Int),(i:Int))) (λ_ c=>c<4294967296) (λb c=> .ok (Cp 8 (c^^^b.toNat))) (λc=>I (4294967295-(c:Int))) J (λi d c e a=>?hs) (λi d c j a l=>?hn) (λc e a=>?hf) 4294967295 J
 case hs=>
  have k:=nU s[i]
  simp only[AD]
  rw[iG,aP d,ae,aa,jf (n:=s[i].toNat) J,alj c s[i].toNat J J]
  have f:=J5 a (J:s[i].toNat<4294967296)
  rw[jf J,aqN _ (λy=>e (y,(i:Int)+1)) (λx y=>by grind[aj]) _ _ _ f];rfl
 case hn=>
  grind[QA,J5,nU]
 case hf=>
  grind[AD,aj]
 rw[LB]at this;exact this
theorem not_xor (c:Nat)(h:c<4294967296):toNat (BitVec.ofInt (IntKind.bits .u32) (IntKind.max .u32)^^^BitVec.ofInt (IntKind.bits .u32) (c:Int))=4294967295-c:=by show(BitVec.ofInt 32 4294967295^^^BitVec.ofInt 32 (c:Int)).toNat=_;rw[(eR:BitVec.ofInt 32 4294967295=BitVec.allOnes 32),BitVec.ofInt_natCast,BitVec.allOnes_xor,BitVec.toNat_not,BitVec.toNat_ofNat,Nat.mod_eq_of_lt (J:c<2^32)]
theorem aks s(h:s.length<=10^9):Ie s=I (ZN s):=by
 unfold Ie;have:=vG (T:=Ao (λ(g:Int) (_:Int)=>I (V (IntKind.wrap .u32 (toNat (BitVec.ofInt (IntKind.bits .u32) (IntKind.max .u32)^^^BitVec.ofInt (IntKind.bits .u32) g))))) s) s (λ(c:Nat) i=>((c:Int),(i:Int))) (λ_ c=>c<4294967296) (λb c=> .ok (Cp 8 (c^^^b.toNat))) (λc=>I (4294967295-(c:Int))) J (λi d c f a=>?hs) (λi d c j a l=>?hn) (λc f a=>?hf) 4294967295 J
 case hs=>
  have k:=nU s[i]
  simp only[Ao]
  rw[iG,aP d,ae,aa,Sn (n:=s[i].toNat),atb c s[i].toNat J J]
  have e:=J5 a (J:s[i].toNat<4294967296)
  rw[Sn e,apC _ (λy=>f (y,(i:Int)+1)) (λx y=>by grind[aj]) _ _ _ e];rfl
 case hn=>
  grind[QA,J5,nU]
 case hf=>
  simp only[Ao]
  rw[ga,ab,not_xor c a,Sn,jf J]
  congr 1
  all_goals omega
 rw[LB]at this;exact this
def dC (m:cL):=m.all (λx=>(x.length:Int)==128)&&decide ((m.length:Int)<=64)
theorem LI m(h:m.length<=10^9):wx m=I (dC m):=by
 unfold wx dC;rw[yp (fin:=some (ay ((m.length:Int)<=64))) (λx:Bytes=>(x.length:Int)==128) m J (λi a b=>?hs) (λb=>?hf)]
 case hs=>
  simp only[zw]
  rw[iG,aP a,aj J J];rfl
 all_goals grind[zw]
theorem P1 m(h:m.length<=10^9):Aq m=I (dC m):=LI m h
def acG:cE:=(0,0,0,G)
def S6 (m:cE):=dF m.1 0 7&&(dF m.2.1 0 1023&&dF m.2.2.1 0 63)
def Ce d p(m:cE):=(m.1==d)&&(m.2.1==p)
def acE (l:Z cE)i:=S6 (l.getD i acG)&&(range i).all (λj=> !(Ce (l.getD i acG).1 (l.getD i acG).2.1 (l.getD j acG)))
def gU l:=decide ((l.length:Int)<=96)&&(range l.length).all (acE l)
theorem RV l(h:l.length<=10^9):vL l=I (gU l):=by
 unfold vL gU;rw[iK (hit:=some G) (fin:=some O) (acE l) l.length J (λi a c=>?hs) (λa=>?hf)]
 case hs=>
  simp only[uT]
  rw[iG,aP c,aj J J]
  simp only[ae,aa,cz,cD]
  rw[iK (hit:=some G) (fin:=a ((i)+1)) (λj=> !(Ce l[i].1 l[i].2.1 (l.getD j acG))) i J (λj a d=>?hs2) (λa=>?b)]
  case hs2=>
   grind[sa,aP,aj,aa,Ce]
  all_goals grind[sa,acE,S6]
 all_goals grind[uT]
def afA (l:Z cE)(d p:Int):Int:=match l.findIdx? (Ce d p)with|some i=>(i:Int)|none=> -1
theorem aeW l d p(h:l.length<=10^9):sT l d p=I (afA l d p):=by unfold sT afA;rw[HE (hit:=λi=>I i) (fin:=some (-1)) (Ce d p) l J (λi c a=>?hs) (λa=>?b)];all_goals grind[Ab,aP,aj,aa,Ce]
theorem aiT l(i:Nat)m:(afA l l[i].1 l[i].2.1==(i:Int))=(range i).all (λj=> !(Ce l[i].1 l[i].2.1 (l.getD j acG))):=by
 have b:Ce l[i].1 l[i].2.1 l[i]=true:=by simp[Ce]
 unfold afA;cases c:l.findIdx? (Ce l[i].1 l[i].2.1)with|none=>rw[List.findIdx?_eq_none_iff]at c;rw[c l[i] (az m)]at b;cases b|some k=>rw[List.findIdx?_eq_some_iff_getElem]at c;obtain⟨n,g,h⟩:=c;rw[fE,aL];simp only[bK,bw,aW];constructor;intro e j o;have f:j<l.length:=J;rw[cU f];have:=h j J;simpa using this;intro d;rcases Nat.lt_trichotomy k i with a|a|a;have:=d k a;rw[cU n,g]at this;cases this;omega;have:=h i a;rw[b]at this;simp at this
theorem QV l(h:l.length<=10^9):vy l=I (gU l):=by
 unfold vy gU;rw[iK (hit:=some G) (fin:=some (ay ((l.length:Int)<=96))) (acE l) l.length J (λi b a=>?hs) (λb=>?hf)]
 case hs=>
  simp only[uv]
  rw[iG,aP a,aj J J]
  grind[aa,cP,aeW,aiT,acE,S6,dF]
 all_goals grind[uv]
def H3 n(l:dw)i:=dF (l.getD i 0) 0 (n-1)&& !((l.take i).contains (l.getD i 0))
def eD (p:gL):=dF p.1 0 130944&&(dF p.2.1 1 512&&(dF p.2.2.1 0 16&&(range p.2.2.2.length).all (H3 p.2.2.1 p.2.2.2)))
def Mg (n:Int)(l:dw):=(range n.toNat).map λk:Nat=>l.contains (k:Int)
theorem aa9 n l:(Mg n l).length=n.toNat:=by simp[Mg]
theorem Om n l k(h:k<(Mg n l).length):(Mg n l)[k]=l.contains (k:Int):=by simp[Mg]
theorem anD n l k(h:k<n.toNat):(Mg n l).set k O=Mg n (l++[(k:Int)]):=by
 apply List.ext_getElem;simp[Mg];intro j a b;rw[List.getElem_set];split;rename_i e;subst e;rw[Om];simp;rename_i e;rw[Om,Om];simp only[List.contains_append];have:([(k:Int)].contains (j))=false:=by simp;omega
 rw[this];simp
theorem afF {T}n l(j:l.length<=10^9)
 (hs:∀i (d:i<l.length)(s:Z Bool) c,T c (s,(i:Int))=U (cond (!(dF l[i] 0 (n-1))) (I O) (U (idx s l[i]) λx=>I x)) λq=>
  cond q (I G) (U (idx s l[i]) λ_=>U (idx s l[i]) λ_=>c (s.set l[i].toNat O,((i+1:Nat):Int)))) (hf:∀s c,T c (s,(l.length:Int))=I O):
 aQ T fuel (List.replicate n.toNat G,0)=I ((range l.length).all (H3 n l)):=by
 have g:(List.replicate n.toNat G,(0))=(Mg n (l.take 0),((0:Nat):Int)):=by congr 1;simp only[Mg,List.take_zero,List.contains_nil,List.map_const',List.length_range]
 rw[g,NT (λi=>(Mg n (l.take i),(i:Int))) (H3 n l) l.length J (λi c d m=>?hs) (λ_ c=>hf _ c)]
 case hs=>
  rw[hs i d]
  unfold H3
  rw[cU d]
  by_cases a:dF l[i] 0 (n-1)=O
  ·have h:=a
   rw[aR]at h
   obtain⟨k,f⟩:∃k:Nat,l[i]=(k):=⟨l[i].toNat,J⟩
   have b:k<(Mg n (l.take i)).length:=by rw[aa9];omega
   rw[a,f,aP b,Om]
   simp only[ak,ab,aa,bg,nm,au]
   rw[anD _ _ _ (by rw[aa9]at b;exact b),<-f,<-aM d]
  ·have e:dF l[i] 0 (n-1)=false:=by simpa using a
   rw[e];rfl
 cases (range l.length).all (H3 n l)<;>rfl
theorem AB p(h:p.2.2.2.length<=10^9):lP p=I (eD p):=by
 unfold lP eD;simp only[cz,aa,cD];by_cases a:dF p.2.2.1 0 16=O
 ·have b:=a;rw[aR]at b;rw[zip,aU J,afF p.2.2.1 p.2.2.2 h (λi c s e=>?hs) (λs e=>?hf)]
  case hs=>
   simp only[DH]
   rw[iG,aP c,aj J J,aj J J]
   simp only[ae,aa,cz];rfl
  case hf=>
   simp only[DH]
   rw[ga];rfl
  rw[a];cases dF p.1 0 130944<;>cases dF p.2.1 1 512<;>rfl
 have d:dF p.2.2.1 0 16=false:=by simpa using a
 rw[d];cases dF p.1 0 130944<;>cases dF p.2.1 1 512<;>rfl
theorem CG p(h:p.2.2.2.length<=10^9):lN p=I (eD p):=by
 unfold lN eD;simp only[cP,aa,cD];by_cases a:dF p.2.2.1 0 16=O
 ·have b:=a;rw[aR]at b;rw[zip,aU J,afF p.2.2.1 p.2.2.2 h (λi c s e=>?hs) (λs e=>?hf)]
  case hs=>
   simp only[CV]
   rw[iG,aP c,aj J J,aj J J]
   simp only[ae,aa,cP];rfl
  case hf=>
   simp only[CV]
   rw[ga];rfl
  rw[a];cases dF p.1 0 130944<;>cases dF p.2.1 1 512<;>rfl
 have d:dF p.2.2.1 0 16=false:=by simpa using a
 rw[d];cases dF p.1 0 130944<;>cases dF p.2.1 1 512<;>rfl
def lG (n:Int):=(n==2)||((n==4)||((n==8)||(n==16)))
theorem Lp n:zO n=I (lG n):=by grind[zO,aa,lG]
theorem Nq n:Ax n=I (lG n):=Lp n
theorem jN {n}:lG n=O↔n=2\/n=4\/n=8\/n=16:=by simp[lG]
theorem KV x k(b:k<=64:=by omega):V x%(2^k:Int)=x%(2^k:Int):=by
 obtain⟨c,a⟩:∃c:Int,(18446744073709551616)=2^k*c:=⟨2^(64-k),by rw[<-Int.pow_add,(J:k+(64-k)=64)];rfl⟩
 have:V x=x\/∃q:Int,V x=x+18446744073709551616*q:=by right;simp only[V,iQ,IntKind.wrap,IntKind.bits,IntKind.signed];simp;split;exact⟨-(x/18446744073709551616)-1,J⟩;exact⟨-(x/18446744073709551616),J⟩
 rcases this with h|⟨q,h⟩;all_goals simp_all[Int.mul_assoc]
theorem Ka x k(d:k<63:=by omega):((ie x&&&ie (2^k-1)).toNat:Int)=x%2^k:=by
 have c:(2)^k<=2^62:=by have:(2)^k<=2^62:=Nat.pow_le_pow_right J J;exact_mod_cast this
 have a:(ie (2^k-1)).toNat=2^k-1:=by show(BitVec.ofInt 64 (2^k-1)).toNat=2^k-1;grind
 rw[BitVec.toNat_and,a,Nat.and_two_pow_sub_one_eq_mod];have b:0<=x%18446744073709551616:=J;have e:(((x%18446744073709551616).toNat%2^k))=(x%18446744073709551616)%2^k:=by push_cast;rw[Int.toNat_of_nonneg b]
 refine e.trans ?_;exact Int.emod_emod_of_dvd x ⟨2^(64-k),by rw[<-Int.pow_add,(J:k+(64-k)=64)];rfl⟩
theorem S9 x n(a:0<n:=by omega)(b:n<=4611686018427387904:=by omega):lO x n=I (x%n):=by unfold lO;have:=Int.emod_nonneg x (J:n≠0);grind[jr,aj]
def cQ (r:rn):=if lG r.2.1 then(r.2.2.2-r.2.2.1)%(2*r.2.1) else 0
theorem IB (r:rn):mG r=I (cQ r):=by unfold mG cQ;rw[Lp,aa];cases a:lG r.2.1 with|false=>rfl|true=>congr 1;rcases jN.1 a with h|h|h|h<;>rw[h];have e:V (V (2*2)-1)=2^2-1:=eR;rw[e,Ka _ 2,KV _ 2,aj J J];rfl;have e:V (V (2*4)-1)=2^3-1:=eR;rw[e,Ka _ 3,KV _ 3,aj J J];rfl;have e:V (V (2*8)-1)=2^4-1:=eR;rw[e,Ka _ 4,KV _ 4,aj J J];rfl;have e:V (V (2*16)-1)=2^5-1:=eR;rw[e,Ka _ 5,KV _ 5,aj J J];rfl
theorem Ia (r:rn):mz r=I (cQ r):=by unfold mz cQ;rw[Nq,aa];cases a:lG r.2.1 with|false=>rfl|true=>have b:=jN.1 a;rw[aj J J];simp only[S9 _ (2*r.2.1) (J:0<2*r.2.1),aa];grind[aj]
def eQ r:=dF r.1 0 130944&&(lG r.2.1&&(dF r.2.2.1 0 (2*r.2.1-1)&&(dF r.2.2.2 0 (2*r.2.1-1)&&decide (cQ r<=r.2.1))))
theorem HK {n}(h:lG n=O):V (V (2*n)-1)=2*n-1:=by grind[jN,aj]
theorem F9 (r:rn):mT r=I (eQ r):=by unfold mT eQ;simp only[cz,Lp,IB,aa,cD,cF];grind[lG,HK]
theorem FR (r:rn):mO r=I (eQ r):=by unfold mO eQ;simp only[cP,Nq,Ia,aa,cD,cF];grind[lG,HK]
theorem Et p(h:p.2.2.2.length<=10^9):mH p=I p:=by grind[mH,aU]
theorem qj l(h:l.length<=10^9):iT l=I l:=by grind[iT,aU]
theorem B7 p(h:p.2.2.2.length<=10^9):kZ p=I p:=by simp_all[kZ,qj]
def kU (p:gL)(l:dw):gL:=(p.1,p.2.1,p.2.2.1,p.2.2.2++l)
def Ki p l:=eD p&&eD (kU p l)
def H4 p l:=bif Ki p l then(kU p l,O) else(p,G)
theorem X7 p l(h:p.2.2.2.length+l.length<=10^9):jW p l=I (H4 p l):=by unfold jW;rw[Et p J,aa,aU J,AB p J];rw[AB (p.1,p.2.1,p.2.2.1,p.2.2.2++l) (by simp;omega)];show _=I (bif eD p&&eD (p.1,p.2.1,p.2.2.1,p.2.2.2++l) then _ else _);cases eD p<;>cases eD (p.1,p.2.1,p.2.2.1,p.2.2.2++l)<;>rfl
theorem W3 p l(h:p.2.2.2.length+l.length<=10^9):jl p l=I (H4 p l):=by unfold jl;rw[B7 p J,aa,aU J,CG p J];rw[CG (p.1,p.2.1,p.2.2.1,p.2.2.2++l) (by simp;omega)];show _=I (bif eD p&&eD (p.1,p.2.1,p.2.2.1,p.2.2.2++l) then _ else _);cases eD p<;>cases eD (p.1,p.2.1,p.2.2.1,p.2.2.2++l)<;>rfl
theorem apn p l:(H4 p l).2=Ki p l:=by grind[H4]
def lT n(s:xw):=dF s.2.1 1 n&&dF s.1 0 65535
def bM (l:Z xw):=l.flatMap (·.2.2)
def eI (l:Z xw):=(l.map (·.2.1)).sum
def Ql (t:eT):=eQ t.1&&(eD t.2.1&&(dF t.2.2.2 0 65535&&(t.2.2.1.all (lT t.1.2.1)&&(Ki t.2.1 (bM t.2.2.1)&&decide (eI t.2.2.1<=t.1.2.1)))))
theorem GM (n:Int):∀l:Z xw,l.all (lT n)=O->0<=eI l
 |[],_=>by simp[eI]
 |x::l,h=>by simp only[cC,af]at h;have:=GM n l h.2;grind[lT,aR,eI]
theorem abk (p:gL)(n:Int)(j:0<=n/\n<=16)(b:Int×dw->aS Bool)(d:∀s:Int×dw,p.2.2.2.length+s.2.length<=10^9->b s=I (Ki p s.2&&decide (s.1<=n))):
 ∀(l:Z xw)(sum:Int)(a:dw),0<=sum->sum+16*l.length<=100000000000->p.2.2.2.length+(a.length+(bM l).length)<=10^9->
 Gz (λx (s:Int×dw) k=>cond (!(lT n x)) (I G) (room (s.2.length+x.2.2.length) (k (V (s.1+x.2.1),s.2++x.2.2)))) b l (sum,a)
  =I (l.all (lT n)&&(Ki p (a++bM l)&&decide (sum+eI l<=n)))
 |[],sum,a,i,f,g=>by simp_all[Gz,bM,eI]
 |x::l,sum,a,i,f,g=>by
  have h:bM (x::l)=x.2.2++bM l:=by simp[bM]
  rw[h,aq]at g;rw[Gz,cC];cases m:lT n x with
  |false=>rfl
  |true=>
   have c:=m;unfold lT at c;simp only[af,aR]at c;simp only[bj,Int.natCast_add,Int.natCast_one]at f;simp only[ak,ab,bg];rw[aU J,aj J J,abk p n j b d l _ _ J J (by rw[aq];omega)];rw[h,aH];have e:sum+x.2.1+eI l=sum+eI (x::l):=by grind[eI]
   rw[e]
theorem aaq (p:gL)(n:Int)(o:n<=16)(b:Int×dw->aS Bool)(c:∀s:Int×dw,p.2.2.2.length+s.2.length<=10^9->b s=I (Ki p s.2)):
 ∀(l:Z xw)(left:Int)(a:dw),0<=left->left<=n->p.2.2.2.length+(a.length+(bM l).length)<=10^9->
 Gz (λx (s:Int×dw) k=>cond (ay (x.2.1<1)||(ay (x.2.1>s.1)|| !(dF x.1 0 65535))) (I G) (room (s.2.length+x.2.2.length) (k (V (s.1-x.2.1),s.2++x.2.2)))) b l (left,a)
  =I (l.all (lT n)&&(Ki p (a++bM l)&&decide (eI l<=left)))
 |[],left,a,g,i,d=>by rw[Gz,c _ (by exact d)];simp[bM,eI,g]
 |x::l,left,a,g,i,d=>by
  have h:bM (x::l)=x.2.2++bM l:=by simp[bM]
  have m:eI (x::l)=x.2.1+eI l:=by simp only[eI,gC,List.sum_cons]
  rw[h,aq]at d;rw[Gz,cC,h,m];by_cases c1:x.2.1<1;have e:lT n x=false:=by unfold lT dF;rw[aw (J:¬1<=x.2.1)];rfl
  rw[e,ax c1];rfl;rw[aw c1];by_cases f:x.2.1>left;rw[ax f];cases j:l.all (lT n)with|false=>simp|true=>have:=GM n l j;rw[aw (J:¬x.2.1+eI l<=left)];simp
  rw[aw f];have e:lT n x=dF x.1 0 65535:=by have:dF x.2.1 1 n=true:=aR.2 ⟨J,J⟩;unfold lT;rw[this];rfl
  rw[e];cases dF x.1 0 65535 with
  |false=>rfl
  |true=>
   simp only[cq,ak,ab,bg];rw[aU J,aj J J,aaq p n o b c l _ _ J J (by rw[aq];omega),aH];have e:decide (eI l<=left-x.2.1)=decide (x.2.1+eI l<=left):=by simp;omega
   rw[e]
theorem ajz t(l:t.2.2.1.length<=10^9)(e:t.2.1.2.2.2.length+(bM t.2.2.1).length<=10^9):HL t=I (Ql t):=by
 unfold HL Ql;simp only[F9,AB _ (J:t.2.1.2.2.2.length<=10^9),cz,aa,cD];cases n:eQ t.1 with
 |false=>rfl
 |true=>
  have g:0<=t.1.2.1/\t.1.2.1<=16:=by grind[eQ,jN]
  have f:=dB;have b:=HH (T:=DP (λ(j) (c) (_)=>U (jW t.2.1 c) λa=>I (bif a.2 then decide (j<=t.1.2.1) else G)) (λ(d) (_) (_) (_)=>I d) G t) t.2.2.1 (λ(s) i=>(s.1,s.2,(i))) (λx (s) k=>cond (!(lT t.1.2.1 x)) (I G) (room (s.2.length+x.2.2.length) (k (V (s.1+x.2.1),s.2++x.2.2)))) (λs=>U (jW t.2.1 s.2) λa=>I (a.2&&decide (s.1<=t.1.2.1))) (λi m s h=>by simp(disch:=omega)[DP,ax,aP,aj,cz,lT]) (λs h=>by grind[DP]) fuel 0 (0,([])) J J;rw[ik,abk t.2.1 t.1.2.1 g _ (λs hs=>by grind[X7,aa,apn]) _ _ _ J J (by simpa using e)]at b;grind
theorem aie t(j:t.2.2.1.length<=10^9)(e:t.2.1.2.2.2.length+(bM t.2.2.1).length<=10^9):HG t=I (Ql t):=by
 unfold HG Ql;simp only[FR,CG _ (J:t.2.1.2.2.2.length<=10^9),cP,aa,cD];cases n:eQ t.1 with
 |false=>rfl
 |true=>
  have m:0<=t.1.2.1/\t.1.2.1<=16:=by grind[eQ,jN]
  have f:=dB;have a:=HH (T:=C1 (λ(_) (h) (_)=>U (jl t.2.1 h) λb=>I b.2) (λ(d) (_) (_) (_)=>I d) G t.2.2.1 ((List.length t.2.2.1)) t) t.2.2.1 (λ(s) i=>(s.1,s.2,(i))) (λx (s) k=>cond (ay (x.2.1<1)||(ay (x.2.1>s.1)|| !(dF x.1 0 65535))) (I G) (room (s.2.length+x.2.2.length) (k (V (s.1-x.2.1),s.2++x.2.2)))) (λs=>U (jl t.2.1 s.2) λc=>I c.2) (λi l s g=>by simp(disch:=omega)[C1,ax,aP,aj,cP,cD]) (λs g=>by grind[C1]) fuel 0 (t.1.2.1,([])) J J;rw[ik,aaq t.2.1 t.1.2.1 J _ (λs hs=>by grind[W3,aa,apn]) _ _ _ J J (by simpa using e)]at a;grind
def vH (s:jQ):=dF s.2.1 0 65535&&(dF s.2.2.1 0 65535&&(!decide ((List.length s.2.2.2.2.2.2.2:Int)>320)&&
 (bif s.1==17 then(s.2.2.2.1==0)&&((s.2.2.2.2.1==0)&&((s.2.2.2.2.2.1==0)&&(s.2.2.2.2.2.2.1==0)))
  else(s.1==6)&&(dF s.2.2.2.1 0 4294967295&&(dF s.2.2.2.2.1 0 4294967295&&(dF s.2.2.2.2.2.1 0 31&&dF s.2.2.2.2.2.2.1 0 65535))))))
theorem ak4 s:yi s=I (vH s):=by simp_all[yi,cz,cD,Bool.and_assoc,vH]
theorem akv s:xI s=I (vH s):=by simp only[xI,cP,aa,cD,cF,cT,cN,Bool.not_or,nm,Bool.and_assoc,vH];by_cases h:s.1=17;rw[h];rfl;rw[show(s.1==17)=G from by simpa using h];cases s.1==6<;>rfl
def JJ (f:Int):=(f==16)||(f==17)||(f==24)||(f==25)
theorem PJ f(h:dF f 0 31=O):(V (toNat (ie f&&&~~~ ie 9))==16)=JJ f:=by have a:∀k:Fin 32,(V (toNat (ie (k.val:Int)&&&~~~ ie 9))==16)=JJ (k.val:Int):=eR;rw[aR]at h;have:=a ⟨f.toNat,J⟩;grind
theorem Wx f(h:dF f 0 31=O):xP f=I (JJ f):=by have a:∀k:Fin 32,((V (toNat (ie (k.val:Int)&&&ie 16)) !=0)&&(V (toNat (ie (k.val:Int)&&&~~~ ie 25))==0))=JJ (k.val:Int):=eR;rw[aR]at h;have:=a ⟨f.toNat,J⟩;rw[(J:((f.toNat:Nat):Int)=f)]at this;grind[xP,aa]
theorem On {s}(h:vH s=O)(a:(s.1==6)=O):dF s.2.2.2.2.2.1 0 31=true:=by grind[vH]
def vn (p:bQ):=dF p.1 0 281474976710655&&(dF p.2.1 0 281474976710655&&(dF p.2.2.1 (-1) 4095&&(dF p.2.2.2.1 0 255&&(dF p.2.2.2.2.2.1 0 255&&(dF p.2.2.2.2.1 0 65535&&(dF p.2.2.2.2.2.2.1 0 4294967295&&(dF p.2.2.2.2.2.2.2.1 0 4294967295&&vH p.2.2.2.2.2.2.2.2)))))))
def di p:=vn p&&(ay ((List.length p.2.2.2.2.2.2.2.2.2.2.2.2.2.2.2:Int)<=128)||(p.2.2.2.2.2.2.2.2.1==6)&&JJ p.2.2.2.2.2.2.2.2.2.2.2.2.2.1)
theorem CB (h:vn p=O):vH p.2.2.2.2.2.2.2.2=true:=by grind[vn]
theorem tp p:jz p=I (di p):=by unfold jz di;simp only[cz,ak4,aa,cD,cF,cT,cN,Bool.not_or,nm];rw[show(dF p.1 0 281474976710655&&(dF p.2.1 0 281474976710655&&(dF p.2.2.1 (-1) 4095&&(dF p.2.2.2.1 0 255&&(dF p.2.2.2.2.2.1 0 255&&(dF p.2.2.2.2.1 0 65535&&(dF p.2.2.2.2.2.2.1 0 4294967295&&(dF p.2.2.2.2.2.2.2.1 0 4294967295&&vH p.2.2.2.2.2.2.2.2))))))))=vn p from rfl];grind[PJ,On,CB,Bool.or_comm]
theorem pX p:je p=I (di p):=by unfold je di;simp only[cP,akv,aa];grind[vn,Wx,On,aa]
def iE (q:J6):=dF q.1 0 130944&&(lG q.2.1&&dF q.2.2 0 (V ((V (2*q.2.1))-1)))
theorem TD (q:J6):uW q=I (iE q):=by grind[uW,cz,Lp,aa,iE]
theorem SV (q:J6):uy q=I (iE q):=by grind[uy,cP,Nq,aa,iE]
def aoe:HP:=((0,0,0,0,0,0,0,0,0,0,0,0,0,0,0,([]:Bytes)),0,0)
def agE (p:HP):=(p.1.1==0)&&((p.1.2.1==0)&&((p.1.2.2.1==0)&&((p.1.2.2.2.1==0)&&((p.1.2.2.2.2.1==0)&&((p.1.2.2.2.2.2.1==0)&&((p.1.2.2.2.2.2.2.1==0)&&((p.1.2.2.2.2.2.2.2.1==0)&&((p.1.2.2.2.2.2.2.2.2.1==0)&&((p.1.2.2.2.2.2.2.2.2.2.1==0)&&((p.1.2.2.2.2.2.2.2.2.2.2.1==0)&&((p.1.2.2.2.2.2.2.2.2.2.2.2.1==0)&&((p.1.2.2.2.2.2.2.2.2.2.2.2.2.1==0)&&((p.1.2.2.2.2.2.2.2.2.2.2.2.2.2.1==0)&&((p.1.2.2.2.2.2.2.2.2.2.2.2.2.2.2.1==0)&&((p.1.2.2.2.2.2.2.2.2.2.2.2.2.2.2.2==([]:Bytes))&&((p.2.1==0)&&((p.2.2==0)&&O)))))))))))))))))
def KI (r:dq):=(eQ r.1&&(iE r.2.1&&(iE r.2.2.1&&((r.2.1.1==r.2.2.1.1)&&((r.2.1.2.1==r.2.2.1.2.1)&&dF r.2.2.2.2.2 0 1000000000000)))))&&
 (bif r.2.2.2.2.1 then di r.2.2.2.1.1&&(dF r.2.2.2.1.2.1 0 320&&dF r.2.2.2.1.2.2 1 320) else agE r.2.2.2.1)
theorem aq1 p:agE p=O↔p=aoe:=by grind[agE,aoe]
theorem adf r:EK r=I (KI r):=by unfold EK KI agE;simp_all[F9,TD,cz,tp,cD,bne]
theorem acy r:Er r=I (KI r):=by unfold Er KI agE;simp_all[FR,SV,cP,pX,cD,bne]
def fO v:=(kt v).getD G
theorem yb v:kt v=I (fO v):=by simp_all[kt,yj,cz,cD,fO]
theorem Ib v:qX v=I (fO v):=yb v
theorem To (l:Z α)p:(range l.length).all (λi=>l[i]?.all p)=l.all p:=by rw[fE,aL,aL];constructor;intro h x b;obtain⟨i,a,rfl⟩:=fP b;have:=h i (bK.2 a);rwa[ah a]at this;intro h i a;rw[ah (bK.1 a)];exact h _ (az _)
theorem ajZ (l:Z α)p q:l.all (λx=>p x&&q x)=(l.all p&&l.all q):=by grind
def jH (h:Host):=[h.2.2.2.2.2.2.2.2.2.2.2.2.2.2.1,h.2.2.2.2.2.2.2.2.2.2.2.2.2.2.2.1,h.2.2.2.2.2.2.2.2.2.2.2.2.2.2.2.2.1,h.2.2.2.2.2.2.2.2.2.2.2.2.2.2.2.2.2.1,h.2.2.2.2.2.2.2.2.2.2.2.2.2.2.2.2.2.2]
def ru (h:Host):=dF (h.2.2.2.1.length:Int) 1 2&&(((h.2.2.2.2.1.length:Int)==(h.2.2.2.1.length:Int))&&(((h.2.2.2.2.2.1.length:Int)==(h.2.2.2.1.length:Int))&&((h.2.2.2.2.2.2.1.length:Int)==(h.2.2.2.1.length:Int))))
def aa0 (h:Host):=h.2.2.2.1.all KI&&(h.2.2.2.2.1.all eD&&h.2.2.2.2.2.1.all fO)
def eJ h:=dC h.1&&(gU h.2.1&&(Ql h.2.2.1&&(gu h.2.2.2.2.2.2.2.1&&(ru h&&(fK h.2.2.2.2.2.2.2.2.1 (h.2.2.2.1.length:Int)&&(aa0 h&&(jH h).all (λx=>dF x 0 1000000000000)))))))
structure KX (h:Host):Prop where
 a1:h.1.length<=10^9
 a2:h.2.1.length<=10^9
 t1:h.2.2.1.2.2.1.length<=10^9
 t2:h.2.2.1.2.1.2.2.2.length+(bM h.2.2.1.2.2.1).length<=10^9
 f1:h.2.2.2.2.2.2.2.1.2.2.length<=10^9
 s1:h.2.2.2.2.2.2.2.2.1.1.length<=10^9
 s2:h.2.2.2.2.2.2.2.2.1.2.1.length<=10^9
 s3:h.2.2.2.2.2.2.2.2.1.2.2.2.length<=10^9
 p1:∀p∈h.2.2.2.2.1,p.2.2.2.length<=10^9
theorem mA (l:ru h=O):h.2.2.2.1.length<=2/\h.2.2.2.2.1.length=h.2.2.2.1.length/\h.2.2.2.2.2.1.length=h.2.2.2.1.length/\h.2.2.2.2.2.2.1.length=h.2.2.2.1.length:=by grind[ru,aR]
theorem aa1 {T}{fin hit:aS R}l(hs:∀i (d:i<h.2.2.2.1.length) a,T a (i:Int)=cond (!(KI h.2.2.2.1[i]&&(eD (h.2.2.2.2.1[i]'((mA l).2.1▸d))&&fO (h.2.2.2.2.2.1[i]'((mA l).2.2.1▸d))))) hit (a ((i+1:Nat):Int)))(hf:∀a,T a (h.2.2.2.1.length:Int)=fin):aQ T fuel 0=cond (aa0 h) fin hit:=by
 have e:=mA l;rw[iK (fin:=fin) (hit:=hit) (λi=>h.2.2.2.1[i]?.all KI&&(h.2.2.2.2.1[i]?.all eD&&h.2.2.2.2.2.1[i]?.all fO)) h.2.2.2.1.length J ?hs hf]
 case hs=>
  grind
 rw[ajZ,ajZ,To];have b:=To h.2.2.2.2.1 eD;have c:=To h.2.2.2.2.2.1 fO;rw[e.2.1]at b;rw[e.2.2.1]at c;rw[b,c];rfl
theorem TU {T}{fin hit:aS R}h(hs:∀i (b:i<(jH h).length) a,T a (i:Int)=cond (!(dF (jH h)[i] 0 1000000000000)) hit (a ((i+1:Nat):Int)))(hf:∀a,T a ((jH h).length:Int)=fin):aQ T fuel 0=cond ((jH h).all (λx=>dF x 0 1000000000000)) fin hit:=yp (λx=>dF x 0 1000000000000) (jH h) (by simp[jH]) hs hf
theorem vI h(z:KX h):kM h=I (eJ h):=by
 unfold kM eJ;simp only[LI _ z.a1,RV _ z.a2,ajz _ z.t1 z.t2,re _ z.f1,Ds _ _ z.s1 z.s2 z.s3,cz,aa,cD];cases dC h.1;rfl;cases gU h.2.1;rfl;cases Ql h.2.2.1;rfl;cases gu h.2.2.2.2.2.2.2.1;rfl;simp only[ak,ab,cT,bne];rw[show(!dF (h.2.2.2.1.length:Int) 1 2||(!((h.2.2.2.2.1.length:Int)==(h.2.2.2.1.length:Int))||(!((h.2.2.2.2.2.1.length:Int)==(h.2.2.2.1.length:Int))||(!((h.2.2.2.2.2.2.1.length:Int)==(h.2.2.2.1.length:Int))|| !fK h.2.2.2.2.2.2.2.2.1 (h.2.2.2.1.length:Int)))))= !(ru h&&fK h.2.2.2.2.2.2.2.2.1 (h.2.2.2.1.length:Int)) by unfold ru;simp only[Bool.not_and,Bool.or_assoc]];cases d:ru h;rfl;cases fK h.2.2.2.2.2.2.2.2.1 (h.2.2.2.1.length:Int);rfl;have c:=mA d;simp only[gB,ak,ab,bg];rw[aa1 (h:=h) (hit:=some G) (fin:=some ((jH h).all (λx=>dF x 0 1000000000000))) d ?hs ?hf]
 case hs=>
  intro i a b
  simp only[DD]
  rw[iG,aP a,aP (c.2.1▸a),aP (c.2.2.1▸a),aj (n:=(i:Int)+1) J J]
  simp only[ae,aa,adf,yb,AB _ (z.p1 _ (az _)),cD,cT,Bool.not_and]
  rfl
 case hf=>
  intro b
  simp only[DD]
  rw[ga]
  simp only[ab]
  refine(TU (fin:=some O) (hit:=some G) h ?_ ?_).trans ?_
  ·intro i a b
   simp only[Bg]
   have e:i<5:=a
   change (bif decide ((i:Int)<5) then U (idx (jH h) (i:Int)) _ else _)=_
   rw[iG,aP a,aj (n:=(i:Int)+1) J J,aa,cz]
   rfl
  ·intro b
   simp only[Bg]
   rw[aw (by simp[jH])];rfl
  ·cases (jH h).all (λx=>dF x 0 1000000000000)<;>rfl
 cases aa0 h<;>rfl
theorem CF h(z:KX h):lM h=I (eJ h):=by
 unfold lM eJ;simp only[P1 _ z.a1,QV _ z.a2,aie _ z.t1 z.t2,uk _ z.f1,Lj _ _ z.s1 z.s2 z.s3,cP,aa,cD];cases dC h.1;rfl;cases gU h.2.1;rfl;cases Ql h.2.2.1;rfl;cases gu h.2.2.2.2.2.2.2.1;rfl;simp only[ak,ab,cT,bne];rw[show(!dF (h.2.2.2.1.length:Int) 1 2||(!((h.2.2.2.2.1.length:Int)==(h.2.2.2.1.length:Int))||(!((h.2.2.2.2.2.1.length:Int)==(h.2.2.2.1.length:Int))|| !((h.2.2.2.2.2.2.1.length:Int)==(h.2.2.2.1.length:Int)))))= !(ru h) by unfold ru;simp only[Bool.not_and]];cases d:ru h;rfl;have c:=mA d;simp only[ak,ab,bg];rw[aa1 (h:=h) (hit:=some G) (fin:=some ((jH h).all (λx=>dF x 0 1000000000000)&&fK h.2.2.2.2.2.2.2.2.1 (h.2.2.2.1.length:Int))) d ?hs ?hf]
 case hs=>
  intro i a b
  simp only[CO]
  rw[iG,aP a,aP (c.2.1▸a),aP (c.2.2.1▸a),aj (n:=(i:Int)+1) J J]
  simp only[ae,aa,acy,Ib,CG _ (z.p1 _ (az _)),cD,cT,Bool.not_and]
  rfl
 case hf=>
  intro b
  simp only[CO]
  rw[ga]
  simp only[ab]
  refine(TU (fin:=some (fK h.2.2.2.2.2.2.2.2.1 (h.2.2.2.1.length:Int))) (hit:=some G) h ?_ ?_).trans ?_
  ·intro i a b
   simp only[AR]
   have e:i<5:=a
   change (bif decide ((i:Int)<5) then U (idx (jH h) (i:Int)) _ else _)=_
   rw[iG,aP a,aj (n:=(i:Int)+1) J J,aa,cP]
   rfl
  ·intro b
   simp only[AR]
   rw[aw (by simp[jH])];rfl
  ·cases (jH h).all (λx=>dF x 0 1000000000000)<;>rfl
 cases aa0 h<;>cases fK h.2.2.2.2.2.2.2.2.1 (h.2.2.2.1.length:Int)<;>cases (jH h).all (λx=>dF x 0 1000000000000)<;>rfl
def als a b:=(uM a b).getD 0
theorem VF a b:uM a b=I (als a b):=by grind[als,uM,cz,aa]
theorem aeK a b:GU a b=I (als a b):=VF a b
theorem art {b}(h:0<=a/\a<=65535)(k:0<=b/\b<=65535):0<=als a b/\als a b<=65535:=by have e:=VF a b;simp only[uM,cz,aa,aR.2 h,aR.2 k,ak,ab]at e;rw[aj (n:=a+b) J J]at e;by_cases c:a+b>65535;rw[ax c,ae,aj J J]at e;rw[<-bu e];omega;rw[aw c,ab]at e;rw[<-bu e];omega
def sw (s:Bytes):Nat->Int
 |0=>0
 |j+1=>als (sw s j) ((cr s (2*j)*256+cr s (2*j+1):Nat):Int)
theorem ala (s:Bytes):∀j,0<=sw s j/\sw s j<=65535
 |0=>by simp[sw]
 |j+1=>by have a:=gT s (2*j);have b:=gT s (2*j+1);exact art (ala s j) J
theorem Pw {i}(h:s.length<=i:=by omega):cr s i=0:=by simp_all[cr]
theorem asy s(h:s.length<=10^9):FE s=I (sw s ((s.length+1)/2)):=by unfold FE;refine bJ (λj=>(sw s j,((2*j:Nat):Int))) ((s.length+1)/2) J (λj l p=>?_) (λl=>?_);have m:=gT s (2*j);have o:=gT s (2*j+1);obtain⟨x,f,c⟩:=nH (s:=s) (i:=2*j);simp only[zI];rw[iG,ae,f,aa,nQ,aj (n:=((2*j:Nat):Int)+1) J J,aj (n:=((2*j:Nat):Int)+2) J J,c,jf J];have b:tZ 8=8:=rfl;have a:((2*j:Nat):Int)+2=((2*(j+1):Nat):Int):=J;rw[b,aj (n:=((cr s (2*j):Nat):Int)*2^8) J J];by_cases e:2*j+1<s.length;obtain⟨y,g,d⟩:=nH (s:=s) (i:=2*j+1) e;rw[iG,ae,(J:((2*j:Nat):Int)+1=((2*j+1:Nat):Int)),g,aa,d,jf (n:=cr s (2*j+1)) J,aj J J,VF,aa,a,(J:((cr s (2*j):Nat):Int)*2^8+((cr s (2*j+1):Nat):Int)=((cr s (2*j)*256+cr s (2*j+1):Nat):Int))];rfl;have k:=Pw (s:=s) (i:=2*j+1);rw[ga,ab,VF,aa,a,show((cr s (2*j):Nat):Int)*2^8=((cr s (2*j)*256+cr s (2*j+1):Nat):Int) by rw[k];omega];rfl;simp only[zI];rw[ga];rfl
theorem ar1 s(h:s.length<=10^9):Ff s=I (sw s ((s.length+1)/2)):=by unfold Ff;refine bJ (λj=>(sw s j,((2*j:Nat):Int))) ((s.length+1)/2) J (λj l p=>?_) (λl=>?_);have m:=gT s (2*j);have o:=gT s (2*j+1);obtain⟨x,f,c⟩:=nH (s:=s) (i:=2*j);simp only[yK];rw[iG,ae,f,aa,nQ,aj (n:=((2*j:Nat):Int)+1) J J,aj (n:=((2*j:Nat):Int)+2) J J,c,jf J];have b:tZ 8=8:=rfl;have a:((2*j:Nat):Int)+2=((2*(j+1):Nat):Int):=J;rw[b,(J:((cr s (2*j):Nat):Int)*2^8=((2^8*cr s (2*j):Nat):Int)),jf (n:=2^8*cr s (2*j)) J];by_cases e:2*j+1<s.length;obtain⟨y,g,d⟩:=nH (s:=s) (i:=2*j+1) e;rw[iG,ae,(J:((2*j:Nat):Int)+1=((2*j+1:Nat):Int)),g,aa,d,jf (n:=cr s (2*j+1)) J,Qa (cr s (2*j)) 8 (cr s (2*j+1)),aeK,aa,a,(J:2^8*cr s (2*j)+cr s (2*j+1)=cr s (2*j)*256+cr s (2*j+1))];rfl;have k:=Pw (s:=s) (i:=2*j+1);rw[ga,ab,aeK,aa,a,show((2^8*cr s (2*j):Nat):Int)=((cr s (2*j)*256+cr s (2*j+1):Nat):Int) by rw[k];omega];rfl;simp only[yK];rw[ga];rfl
def Sy s:=65535-sw s ((s.length+1)/2)
theorem RM s(h:s.length<=10^9):oy s=I (Sy s):=by have:=ala s ((s.length+1)/2);simp only[oy,asy s h,aa];rw[aj J J];rfl
theorem Vw s(h:s.length<=10^9):mw s=I (Sy s):=by have:=ala s ((s.length+1)/2);simp only[mw,ar1 s h,aa];rw[aj J J];rfl
def wC (s:Bytes)(a:Int)(p:Bytes):Bytes:=bif gG s a (p.length:Int) then(s.take a.toNat++p)++s.drop (a.toNat+p.length) else s
theorem Dq s a p:(wC s a p).length=s.length:=by grind[wC,gG]
theorem afO s a(p:Bytes)(h:s.length<=10^9)(g:gG s a (p.length:Int)=O): (U (sub s 0 a) λc=>room (List.length c+List.length p) (U (sub s (V (a+((List.length p:Int)))) ((List.length s:Int))) λd=>room (List.length (c++p)+List.length d) (I ((c++p)++d))))=I (wC s a p):=by
 have b:=g;simp only[gG,bO]at b;obtain⟨n,rfl⟩:=ar b.1;have e:sub s 0 (n:Int)=I (s.take n):=by grind[sub]
 have f:sub s (((n+p.length:Nat):Int)) (s.length:Int)=I (s.drop (n+p.length)):=by grind[sub,bB]
 rw[e,aj J J,(J:(n:Int)+(p.length:Int)=((n+p.length:Nat):Int)),f,aa,aU gA,aa,aU gA];grind[wC]
theorem Hf s a p(h:s.length<=10^9):fQ s a p=I (wC s a p):=by grind[fQ,Nx,aa,wC,afO]
theorem Li s a p(h:s.length<=10^9:=by omega)(d:p.length<=10^9:=by omega):iS s a p=I (wC s a p):=by
 unfold iS;rw[aj (n:=(s.length:Int)-(p.length:Int)) J J];cases b:gG s a (p.length:Int)with
 |true=>have c:=b;simp only[gG,bO]at c;rw[aw (J:¬a<0),aw (J:¬a>(s.length:Int)-(p.length:Int))];exact afO s a p h b
 |false=>
  have d:wC s a p=s:=by grind[wC]
  rw[d];simp only[gG,cp]at b;by_cases e:a<0;all_goals simp(disch:=omega)[ax]
def bs2 (x y:Int):Bytes:=aZ [x,y]
theorem Vm x y:(bs2 x y).length=2:=rfl
def Dp a b k n:=dF a 0 4294967295&&(dF b 0 4294967295&&(dF k 0 255&&dF n 0 65535))
def Dm a b k n:=((cx a++cx b)++bs2 0 (iQ k))++aG n
theorem Oi a b k n:(Dm a b k n).length<=12:=by grind[eG,cj,Dm,Vm]
theorem LJ a b k n:ni a b k n=I (bif Dp a b k n then(Dm a b k n,O) else([],G)):=by have:=eG a;have:=eG b;have:=cj n;unfold ni Dp;simp only[cz,aa,mc,kg];cases dF a 0 4294967295;rfl;cases dF b 0 4294967295;rfl;cases dF k 0 255;rfl;cases dF n 0 65535;rfl;simp only[ak,ab,bR,ae,aa];have e:(aZ [0,iQ k]).length=2:=rfl;rw[aU J,aU gA,aU gA];rfl
theorem W7 a b k n:wP a b k n=I (bif Dp a b k n then(Dm a b k n,O) else([],G)):=LJ a b k n
def bare (g:jQ):=bif g.1==6 then
    (((((aG g.2.1++aG g.2.2.1)++cx g.2.2.2.1)++cx g.2.2.2.2.1)++bs2 80 (iQ g.2.2.2.2.2.1))++aG g.2.2.2.2.2.2.1)++cx 0++g.2.2.2.2.2.2.2
 else(((aG g.2.1++aG g.2.2.1)++aG (8+(g.2.2.2.2.2.2.2.length:Int)))++aG 0)++g.2.2.2.2.2.2.2
theorem Qr g:(bare g).length<=20+g.2.2.2.2.2.2.2.length:=by have:=cj g.2.1;have:=cj g.2.2.1;have:=eG g.2.2.2.1;have:=eG g.2.2.2.2.1;have:=cj g.2.2.2.2.2.2.1;have:=eG 0;have:=cj 0;have:=cj (8+(g.2.2.2.2.2.2.2.length:Int));unfold bare;cases g.1==6<;>simp only[ae,ab,aq,Vm]<;>omega
theorem TL:aG 0++aG 0=cx 0:=by rfl
theorem apB g(h:g.2.2.2.2.2.2.2.length<=1000000):yQ g=I (bare g):=by have:=cj g.2.1;have:=cj g.2.2.1;have:=eG g.2.2.2.1;have:=eG g.2.2.2.2.1;have:=cj g.2.2.2.2.2.2.1;have:=cj 0;have:=cj (8+(g.2.2.2.2.2.2.2.length:Int));have e:∀x,(aZ [80,iQ x]).length=2:=λ_=>rfl;unfold yQ bare;rw[aj (n:=8+(g.2.2.2.2.2.2.2.length:Int)) J J];simp only[oR,BN,aa];rw[aU J];cases g.1==6 with|true=>simp only[ae];rw[aU (by simp only[aq,e];omega),aU (by simp only[aq,e];omega),aU (by simp only[aq,e];omega),aU (by simp only[aq,e];omega),aU (by simp only[aq,e];omega),aU (by simp only[aq,e];omega),aU (by simp only[aq,e];omega)];rw[<-TL];simp only[bs2,aH]|false=>simp only[ab];rw[aU (by simp only[aq];omega),aU (by simp only[aq];omega),aU (by simp only[aq];omega)]
def Ph a b g:=bif (Sy (Dm a b g.1 ((bare g).length:Int)++bare g)==0)&&(g.1==17) then 65535 else Sy (Dm a b g.1 ((bare g).length:Int)++bare g)
def D9 a b g:=wC (bare g) (bif g.1==6 then 16 else 6) (aG (Ph a b g))
def ED a b g:=vH g&&Dp a b g.1 ((bare g).length:Int)
def EE a b g:=bif ED a b g then(D9 a b g,O) else([],G)
theorem Iv (h:vH g=O):g.2.2.2.2.2.2.2.length<=320:=by grind[vH]
theorem Nw a b g:ng a b g=I (EE a b g):=by
 unfold ng EE ED;rw[ak4,aa];cases f:vH g;rfl;have h:=Iv f;have i:=Qr g;have j:=Oi a b g.1 ((bare g).length:Int);have:=cj g.2.1;have:=cj g.2.2.1;have:=eG g.2.2.2.1;have:=eG g.2.2.2.2.1;have:=cj g.2.2.2.2.2.2.1;have:=eG 0;have:=cj 0;have:=cj (8+(g.2.2.2.2.2.2.2.length:Int));have e:∀x,(aZ [80,iQ x]).length=2:=λ_=>rfl;rw[aj (n:=8+(g.2.2.2.2.2.2.2.length:Int)) J J];simp only[kg,mc,aa,ak,ab,bg];rw[aU J];cases d:g.1==6 with
 |true=>
  have c:bare g=(((((aG g.2.1++aG g.2.2.1)++cx g.2.2.2.1)++cx g.2.2.2.2.1)++aZ [80,iQ g.2.2.2.2.2.1])++aG g.2.2.2.2.2.2.1)++cx 0++g.2.2.2.2.2.2.2:=by unfold bare;rw[d];rfl
  simp only[ae];rw[aU gA,aU gA,aU gA,aU gA,aU gA,aU gA,<-c,LJ,aa];cases Dp a b g.1 ((bare g).length:Int);rfl;simp only[ae,ak,ab];rw[aU J,RM _ gA];simp only[aa,cD,Hf _ _ _ (J:(bare g).length<=10^9),D9,Ph,d,ae,cF];cases (Sy (Dm a b g.1 ((bare g).length:Int)++bare g)==0)&&(g.1==17)<;>rfl
 |false=>
  have c:bare g=(((aG g.2.1++aG g.2.2.1)++aG (8+(g.2.2.2.2.2.2.2.length:Int)))++aG 0)++g.2.2.2.2.2.2.2:=by unfold bare;rw[d];rfl
  simp only[ab];rw[aU (by simp_all;omega),aU (by simp_all;omega),aU (by simp_all;omega),<-c,LJ,aa];cases Dp a b g.1 ((bare g).length:Int);rfl;simp only[ae,ak,ab];rw[aU J,RM _ (by simp_all;omega)];simp only[aa,cD,Hf _ _ _ (J:(bare g).length<=10^9),D9,Ph,d,ab,cF];cases (Sy (Dm a b g.1 ((bare g).length:Int)++bare g)==0)&&(g.1==17)<;>rfl
theorem M3 a b g:mW a b g=I (EE a b g):=by
 unfold mW EE ED;rw[akv,aa];cases d:vH g;rfl;have e:=Iv d;have f:=Qr g;have h:=Oi a b g.1 ((bare g).length:Int);have c:ix g.1=I (bif g.1==6 then 16 else 6):=by unfold ix;rw[cD]
 have i:=cj 65535;have j:=cj (Sy (Dm a b g.1 ((bare g).length:Int)++bare g));simp only[apB g J,W7,aa,ak,ab,bg];cases Dp a b g.1 ((bare g).length:Int);rfl;simp only[ae,ak,ab];rw[aU J,Vw _ gA];simp only[aa,cD,c,oR,Li _ _ _ (J:(bare g).length<=10^9) (J:(aG 65535).length<=10^9),Li _ _ _ (J:(bare g).length<=10^9) (J:(aG (Sy (Dm a b g.1 ((bare g).length:Int)++bare g))).length<=10^9),D9,Ph,cF];grind
theorem ac0 a b g:(EE a b g).1.length<=340:=by unfold EE;cases h:ED a b g with|false=>exact cg _|true=>simp only[ED,af]at h;have:=Iv h.1;have:=Qr g;show(wC _ _ _).length<=340;rw[Dq];omega
def ipB (d:Ip):=dF d.1 0 255&&(dF d.2.2.1 0 255&&(dF d.2.2.2.1 0 255&&(dF d.2.1 0 65535&&(dF d.2.2.2.2.1 0 4294967295&&(dF d.2.2.2.2.2.1 0 4294967295&&decide ((d.2.2.2.2.2.2.length:Int)<=380))))))
theorem agm d:Oz d=I (ipB d):=by simp_all[Oz,cz,cD,ipB]
theorem apJ d:SY d=I (ipB d):=agm d
def GD (d:Ip):=((((((bs2 69 (iQ d.1)++aG (20+(d.2.2.2.2.2.2.length:Int)))++aG d.2.1)++aG 16384)++bs2 (iQ d.2.2.1) (iQ d.2.2.2.1))++aG 0)++cx d.2.2.2.2.1)++cx d.2.2.2.2.2.1
theorem Xd d:(GD d).length<=20:=by have:=cj (20+(d.2.2.2.2.2.2.length));have:=cj d.2.1;have:=cj 16384;have:=cj 0;have:=eG d.2.2.2.2.1;have:=eG d.2.2.2.2.2.1;simp_all[GD,Vm];omega
def De d:=wC (GD d) 10 (aG (Sy (GD d)))
theorem ajs d:Fx d=I (bif ipB d then(De d,O) else([],G)):=by
 unfold Fx;rw[agm,aa];cases b:ipB d;rfl;have hn:(d.2.2.2.2.2.2.length)<=380:=by grind[ipB]
 have:=cj (20+(d.2.2.2.2.2.2.length));have:=cj d.2.1;have:=cj 16384;have:=cj 0;have:=eG d.2.2.2.2.1;have:=eG d.2.2.2.2.2.1;have c:=Xd d;have e:∀x y,(aZ [x,y]).length=2:=λ_ _=>rfl;rw[aj J J];simp only[kg,mc,aa,ak,ab,ae];rw[aU gA,aU gA,aU (by simp_all;omega),aU (by simp_all;omega),aU (by simp_all;omega),aU (by simp_all;omega),aU (by simp_all;omega)];have a:((((((aZ [69,iQ d.1]++aG (20+(d.2.2.2.2.2.2.length)))++aG d.2.1)++aG 16384)++aZ [iQ d.2.2.1,iQ d.2.2.2.1])++aG 0)++cx d.2.2.2.2.1)++cx d.2.2.2.2.2.1=GD d:=rfl;rw[a,RM _ J,aa,Hf _ _ _ J];rfl
theorem ah7 d:E7 d=I (bif ipB d then(De d,O) else([],G)):=by
 unfold E7;rw[apJ,aa];cases b:ipB d;rfl;have hn:(d.2.2.2.2.2.2.length)<=380:=by grind[ipB]
 have:=cj (20+(d.2.2.2.2.2.2.length));have:=cj d.2.1;have:=cj 16384;have:=cj 0;have:=eG d.2.2.2.2.1;have:=eG d.2.2.2.2.2.1;have c:=Xd d;have f:=cj (Sy (GD d));have e:∀x y,(aZ [x,y]).length=2:=λ_ _=>rfl;rw[aj J J];simp only[oR,BN,aa,ak,ab,ae];rw[aU gA,aU gA,aU (by simp_all;omega),aU (by simp_all;omega),aU (by simp_all;omega),aU (by simp_all;omega),aU (by simp_all;omega)];have a:((((((aZ [69,iQ d.1]++aG (20+(d.2.2.2.2.2.2.length)))++aG d.2.1)++aG 16384)++aZ [iQ d.2.2.1,iQ d.2.2.2.1])++aG 0)++cx d.2.2.2.2.1)++cx d.2.2.2.2.2.1=GD d:=rfl;rw[a,Vw _ J,aa,Li _ _ _];rfl
def ipR d:=bif ipB d then(De d++d.2.2.2.2.2.2,O) else([],G)
theorem S1 d:(De d).length<=20:=by grind[De,Dq,Xd]
theorem aqS d:Du d=I (ipR d):=by grind[Du,ipR,ajs,aa,ipB,S1,aU]
theorem apI d:CH d=I (ipR d):=by grind[CH,ipR,ah7,aa,ipB,S1,aU]
def xu (n:Nat):Bytes:=aZ (List.replicate n (0:Int))
theorem Cn n:(xu n).length=n:=by simp[xu,aZ]
theorem X8 (n:Nat)(h:n<=10^9:=by omega):gO (n:Int) 0=I (xu n):=by unfold gO;rw[zip,aU J,au];refine bJ (λi=>(List.replicate n (0),(i:Int))) n J (λi b a=>?_) (λb=>?_);simp only[nB];rw[iG,aP (by simpa using a),aj J J];simp only[ae,aa,au,List.set_replicate_self];rfl;simp only[nB];rw[ga];rfl
theorem aku (n:Nat)(h:n<=10^9:=by omega):ue 0 (n:Int)=I (xu n):=by unfold ue;rw[zip,aU J,au];refine bJ (λi=>(List.replicate n (0),(i:Int))) n J (λi b a=>?_) (λb=>?_);simp only[Db];rw[ax (by simp;omega),aP (by simpa using a),aj J J];simp only[ae,aa,au,List.set_replicate_self];rfl;simp only[Db];rw[aw aD];rfl
def pad s:=if s.length<46 then s++xu (46-s.length) else s
theorem Rp s:(pad s).length=max 46 s.length:=by grind[pad,Cn]
theorem asx s(h:s.length<=10^9):Hk s=I (pad s):=by unfold Hk pad;by_cases a:s.length<46;rw[iG,aI a,aj J J,(J:(46:Int)-(s.length)=((46-s.length:Nat))),X8 _];simp only[ae,aa];rw[aU (by rw[Cn];omega)];rw[ga,aK a];rfl
theorem arZ s(h:s.length<=10^9):GZ s=I (pad s):=by unfold GZ pad;by_cases a:s.length<46;rw[ga,aI a,aj J J,(J:(46:Int)-(s.length)=((46-s.length:Nat))),aku _];simp only[ab,aa];rw[aU (by rw[Cn];omega)];rw[iG,aK a];rfl
def BK (e:Eth):=dF e.1 0 281474976710655&&(dF e.2.1 0 281474976710655&&(dF e.2.2.1 (-1) 4095&&(dF e.2.2.2.1 1536 65535&&((e.2.2.2.1 !=33024)&&dF (e.2.2.2.2.length:Int) 46 400))))
theorem Tz e:EJ e=I (BK e):=by simp_all[EJ,cz,cD,BK]
theorem aak e:Ig e=I (BK e):=Tz e
def Cq a:=(kC a).getD []
theorem Jv a:kC a=I (Cq a)/\(Cq a).length<=6:=by
 have h:∃x,kC a=I x/\x.length<=6:=by unfold kC;simp only[kg,mc,aa];have b:=cj (fdiv a (2^(tZ 32)));grind[eG,aU]
 grind[Cq]
theorem arY a:Fg a=I (Cq a):=(Jv a).1
def I8 (e:Eth):=(bif decide (e.2.2.1>=0) then(((Cq e.1++Cq e.2.1)++aG 33024)++aG e.2.2.1) else Cq e.1++Cq e.2.1)++aG e.2.2.2.1++e.2.2.2.2
theorem ao7 e:(I8 e).length<=18+e.2.2.2.2.length:=by have:=(Jv e.1).2;have:=(Jv e.2.1).2;grind[cj,I8]
def YR e:=bif BK e then(I8 e,O) else([],G)
theorem asv e:Fk e=I (YR e):=by
 unfold Fk YR;rw[Tz,aa];cases a:BK e;rfl;have hn:(e.2.2.2.2.length)<=400:=by grind[BK,aR]
 have:=(Jv e.1).2;have:=(Jv e.2.1).2;have:=cj 33024;have:=cj e.2.2.1;have:=cj e.2.2.2.1;simp only[(Jv _).1,kg,aa,ak,ab,ae,I8];grind[aU]
theorem arW e:EX e=I (YR e):=by
 unfold EX YR;rw[aak,aa];cases a:BK e;rfl;have hn:(e.2.2.2.2.length)<=400:=by grind[BK,aR]
 have:=(Jv e.1).2;have:=(Jv e.2.1).2;have:=cj 33024;have:=cj e.2.2.1;have:=cj e.2.2.2.1;simp only[arY,oR,aa,ak,ab,ae,I8];grind[aU]
def Mn (p:bQ):=EE p.2.2.2.2.2.2.1 p.2.2.2.2.2.2.2.1 p.2.2.2.2.2.2.2.2
def ipP p:=ipR (p.2.2.2.1,p.2.2.2.2.1,p.2.2.2.2.2.1,p.2.2.2.2.2.2.2.2.1,p.2.2.2.2.2.2.1,p.2.2.2.2.2.2.2.1,(Mn p).1)
def alL p:=YR (p.1,p.2.1,p.2.2.1,2048,pad (ipP p).1)
def dE p:=bif di p then alL p else([],G)
theorem S2 p:(ipP p).1.length<=360:=by grind[ac0,ipP,ipR,Mn,S1]
theorem KO p:jP p=I (dE p):=by have a:=S2 p;unfold jP dE;simp only[tp,Nw,aqS,aa];rw[show(ipR (p.2.2.2.1,p.2.2.2.2.1,p.2.2.2.2.2.1,p.2.2.2.2.2.2.2.2.1,p.2.2.2.2.2.2.1,p.2.2.2.2.2.2.2.1,(EE p.2.2.2.2.2.2.1 p.2.2.2.2.2.2.2.1 p.2.2.2.2.2.2.2.2).1))=ipP p from rfl,asx _ J,aa,asv];cases di p<;>rfl
theorem Km p:jK p=I (dE p):=by have a:=S2 p;unfold jK dE;simp only[pX,M3,apI,aa];rw[show(ipR (p.2.2.2.1,p.2.2.2.2.1,p.2.2.2.2.2.1,p.2.2.2.2.2.2.2.2.1,p.2.2.2.2.2.2.1,p.2.2.2.2.2.2.2.1,(EE p.2.2.2.2.2.2.1 p.2.2.2.2.2.2.2.1 p.2.2.2.2.2.2.2.2).1))=ipP p from rfl,arZ _ J,aa,arW];cases di p<;>rfl
theorem El (h:di p=O):(dE p).2=true:=by grind[S2,vn,di,Rp,dE,alL,YR,BK,aR]
theorem pV p:(dE p).1.length<=378:=by grind[S2,Rp,dE,alL,YR,ao7]
def fcs (c:Int):Bytes:=aZ [iQ c,iQ (fdiv c (2^(tZ 8))),iQ (fdiv c (2^(tZ 16))),iQ (fdiv c (2^(tZ 24)))]
def L0 s:=s++fcs (ZN s)
theorem arI c:(fcs c).length=4:=rfl
theorem ak3 s(h:s.length<=10^9):DQ s=I (L0 s):=by unfold DQ;rw[ak1 s h,aa,nQ,nQ,nQ];exact aU (by show s.length+4<=_;omega)
theorem akt s(h:s.length<=10^9):C3 s=I (L0 s):=by unfold C3;rw[aks s h,aa,nQ,nQ,nQ];exact aU (by show s.length+4<=_;omega)
def eU p:=di p&&decide ((p.2.2.2.2.2.2.2.2.2.2.2.2.2.2.2.length:Int)<=128)
theorem BR p:lg p=I (eU p):=by grind[lg,tp,aa,eU]
theorem Eo p:my p=I (eU p):=by grind[my,pX,aa,eU]
def Ei p:=bif eU p then(L0 (dE p).1,O) else([],G)
theorem Ou p:nz p=I (Ei p):=by grind[pV,nz,BR,KO,ak3,aa,Ei]
theorem aal p:vq p=I (Ei p):=by grind[pV,vq,Eo,Km,akt,aa,Ei,eU,El]
theorem Ej p:(Ei p).1.length<=382:=by grind[pV,Ei,L0,arI]
def XD (p:bQ)(z:Int)(k:Nat):bQ:=
 (p.1,p.2.1,p.2.2.1,p.2.2.2.1,tmod (V (p.2.2.2.2.1+(k:Int))) 65536,p.2.2.2.2.2.1,p.2.2.2.2.2.2.1,p.2.2.2.2.2.2.2.1,p.2.2.2.2.2.2.2.2.1,p.2.2.2.2.2.2.2.2.2.1,p.2.2.2.2.2.2.2.2.2.2.1,
   tmod (V (p.2.2.2.2.2.2.2.2.2.2.2.1+((k:Int)*z))) 4294967296,p.2.2.2.2.2.2.2.2.2.2.2.2.1,
   (bif decide (((k:Int)+1)*z<(p.2.2.2.2.2.2.2.2.2.2.2.2.2.2.2.length:Int)) then V (toNat (ie p.2.2.2.2.2.2.2.2.2.2.2.2.2.1&&&~~~ ie 9)) else p.2.2.2.2.2.2.2.2.2.2.2.2.2.1),
   p.2.2.2.2.2.2.2.2.2.2.2.2.2.2.1,(p.2.2.2.2.2.2.2.2.2.2.2.2.2.2.2.take (min ((k+1)*z.toNat) p.2.2.2.2.2.2.2.2.2.2.2.2.2.2.2.length)).drop (k*z.toNat))
def mZ n z:=(n+z-1)/z
def JZ p z:=bif di p&&dF z 1 128 then
    (bif (p.2.2.2.2.2.2.2.2.1 !=6)||decide ((p.2.2.2.2.2.2.2.2.2.2.2.2.2.2.2.length:Int)<=z) then [p] else(range (mZ p.2.2.2.2.2.2.2.2.2.2.2.2.2.2.2.length z.toNat)).map (XD p z)) else []
theorem Tm {n z}(a:0<z:=by omega):k<mZ n z↔k*z<n:=by grind[mZ,Nat.lt_div_iff_mul_lt]
theorem ES (h:di p=O):p.2.2.2.2.2.2.2.2.2.2.2.2.2.2.2.length<=320:=by grind[di,Iv,CB]
theorem abq {b:Bytes}{z}(c:k*z<b.length)(a:b.length<=320):sub b ((k*z:Nat):Int) ((min ((k+1)*z) b.length:Nat):Int)=I ((b.take (min ((k+1)*z) b.length)).drop (k*z)):=by grind[sub]
theorem anY p z:LO p z=I (JZ p z):=by
 unfold LO JZ;simp only[tp,cz,aa];cases l:di p;rfl;cases q:dF z 1 128;rfl;have r:=aR.1 q;have g:=ES l;simp only[ak,ab,bR,ae,aa,cD,cT];cases t:(p.2.2.2.2.2.2.2.2.1 !=6)||decide ((p.2.2.2.2.2.2.2.2.2.2.2.2.2.2.2.length)<=z)with
 |true=>rfl
 |false=>
  obtain⟨m,rfl⟩:=ar (J:0<=z);have c:∀k,k<mZ p.2.2.2.2.2.2.2.2.2.2.2.2.2.2.2.length m↔k*m<p.2.2.2.2.2.2.2.2.2.2.2.2.2.2.2.length:=λk=>Tm;have d:mZ p.2.2.2.2.2.2.2.2.2.2.2.2.2.2.2.length m<=320:=by rcases ca 320 (mZ p.2.2.2.2.2.2.2.2.2.2.2.2.2.2.2.length m)with h|h;have:=(c 320).1 h;omega;exact h
  refine bJ (λk=>((range k).map (XD p (m)),(k:Int))) (mZ p.2.2.2.2.2.2.2.2.2.2.2.2.2.2.2.length m) J (λk s i=>?_) (λs=>?_);have a:=(c k).1 i;have j:(k+1)*m=k*m+m:=by rw[dA,gJ]
  have b:(k:Int)*(m)=((k*m:Nat)):=by push_cast;rfl
  have e:((k:Int)+1)*(m)=(((k+1)*m:Nat)):=by push_cast;rfl
  simp only[FD];rw[aj (n:=(k)+1) J J,b,e,jf J,jf J,iG,ae];have f:(if(((k+1)*m:Nat):Int)<(p.2.2.2.2.2.2.2.2.2.2.2.2.2.2.2.length) then(((k+1)*m:Nat):Int) else(p.2.2.2.2.2.2.2.2.2.2.2.2.2.2.2.length))=((min ((k+1)*m) p.2.2.2.2.2.2.2.2.2.2.2.2.2.2.2.length)):=by split<;>omega
  rw[f,abq a g,aa,nQ,nQ];rw[ja,df,List.map_singleton];simp only[XD,b,e,au];cases decide ((((k+1)*m:Nat):Int)<(p.2.2.2.2.2.2.2.2.2.2.2.2.2.2.2.length))with|true=>rw[aU (by simp;omega)];rfl|false=>simp only[ab];rw[aU (by simp;omega)];rfl
  have a:¬mZ p.2.2.2.2.2.2.2.2.2.2.2.2.2.2.2.length m*m<p.2.2.2.2.2.2.2.2.2.2.2.2.2.2.2.length:=λh=>absurd ((c _).2 h) (sy _);have o:mZ p.2.2.2.2.2.2.2.2.2.2.2.2.2.2.2.length m*m<=320*128:=Nat.mul_le_mul d J;have b:((mZ p.2.2.2.2.2.2.2.2.2.2.2.2.2.2.2.length m):Int)*(m)=((mZ p.2.2.2.2.2.2.2.2.2.2.2.2.2.2.2.length m*m:Nat)):=by push_cast;rfl
  simp only[FD];rw[b,jf J,ga];rfl
theorem amu p z:Ll p z=I (JZ p z):=by
 unfold Ll JZ;simp only[pX,cP,aa];cases o:di p;rfl;cases r:dF z 1 128;rfl;have s:=aR.1 r;have i:=ES o;simp only[ak,ab,bR,ae,aa,cD,cT];cases u:(p.2.2.2.2.2.2.2.2.1 !=6)||decide ((p.2.2.2.2.2.2.2.2.2.2.2.2.2.2.2.length)<=z)with
 |true=>rfl
 |false=>
  obtain⟨m,rfl⟩:=ar (J:0<=z);have d:∀k,k<mZ p.2.2.2.2.2.2.2.2.2.2.2.2.2.2.2.length m↔k*m<p.2.2.2.2.2.2.2.2.2.2.2.2.2.2.2.length:=λk=>Tm;have e:mZ p.2.2.2.2.2.2.2.2.2.2.2.2.2.2.2.length m<=320:=by rcases ca 320 (mZ p.2.2.2.2.2.2.2.2.2.2.2.2.2.2.2.length m)with h|h;have:=(d 320).1 h;omega;exact h
  refine bJ (λk=>((range k).map (XD p (m)),(k:Int))) (mZ p.2.2.2.2.2.2.2.2.2.2.2.2.2.2.2.length m) J (λk t j=>?_) (λt=>?_);have b:=(d k).1 j;have l:(k+1)*m=k*m+m:=by rw[dA,gJ]
  have c:(k:Int)*(m)=((k*m:Nat)):=by push_cast;rfl
  have f:((k:Int)+1)*(m)=(((k+1)*m:Nat)):=by push_cast;rfl
  have a:=abq b i;simp only[Fc];rw[aj (n:=(k)+1) J J,c,f,jf J,jf J,iG,ae];rw[ja,df,List.map_singleton];simp only[XD,c,f,au];by_cases g:(((k+1)*m:Nat):Int)<(p.2.2.2.2.2.2.2.2.2.2.2.2.2.2.2.length);rw[ax g];rw[(J:min ((k+1)*m) p.2.2.2.2.2.2.2.2.2.2.2.2.2.2.2.length=(k+1)*m)]at a⊢;rw[a,aa,nQ,nQ,aU (by simp;omega)];rfl;rw[aw g];rw[(J:min ((k+1)*m) p.2.2.2.2.2.2.2.2.2.2.2.2.2.2.2.length=p.2.2.2.2.2.2.2.2.2.2.2.2.2.2.2.length)]at a⊢;rw[a,aa,nQ,nQ,aU (by simp;omega)];rfl;have b:¬mZ p.2.2.2.2.2.2.2.2.2.2.2.2.2.2.2.length m*m<p.2.2.2.2.2.2.2.2.2.2.2.2.2.2.2.length:=λh=>absurd ((d _).2 h) (sy _);have q:mZ p.2.2.2.2.2.2.2.2.2.2.2.2.2.2.2.length m*m<=320*128:=Nat.mul_le_mul e J;have c:((mZ p.2.2.2.2.2.2.2.2.2.2.2.2.2.2.2.length m):Int)*(m)=((mZ p.2.2.2.2.2.2.2.2.2.2.2.2.2.2.2.length m*m:Nat)):=by push_cast;rfl
  simp only[Fc];rw[c,jf J,ga];rfl
theorem Qg p z:(JZ p z).length<=320:=by unfold JZ;cases a:di p&&dF z 1 128;exact cg _;simp only[af,aR]at a;have b:=ES a.1;cases (p.2.2.2.2.2.2.2.2.1 !=6)||decide ((p.2.2.2.2.2.2.2.2.2.2.2.2.2.2.2.length)<=z)with|true=>simp only[ae,aO];omega|false=>simp only[ae,ab,bt,List.length_range];rcases ca 320 (mZ p.2.2.2.2.2.2.2.2.2.2.2.2.2.2.2.length z.toNat)with h|h;have:=(Tm).1 h;omega;exact h
def VQ a p:=bif (Ei p).2 then a++[(Ei p).1] else a
theorem VR a p:(VQ a p).length<=a.length+1:=by grind[VQ]
def N5 (l:Z bQ):=l.foldl VQ []
theorem T3:∀(l:Z bQ)(a:cL),(l.foldl VQ a).length<=a.length+l.length
 |[],a=>aD
 |p::l,a=>by have:=T3 l (VQ a p);grind[VR]
theorem OR:∀(l:Z bQ)(a:cL),(∀x∈a,x.length<=382)->∀x∈l.foldl VQ a,x.length<=382
 |[],a,h=>h
 |p::l,a,h=>by refine OR l _ (λx b=>?_);grind[VQ,Ej]
theorem ajo l(h:l.length<=10^9):Fu l=I (N5 l):=by
 unfold Fu N5;have:=vG (T:=tD (λ(d) (_)=>I d) l) l (λ(s) i=>(s,(i))) (λi s=>s.length<=i) (λp s=> .ok (VQ s p)) (λs=>I s) J (λi b s c a=>?hs) (λi b s j a f=>?g) (λs c a=>?e) [] aD
 case hs=>
  grind[tD,aP,aj,aa,Ou,VQ,aU]
 all_goals grind[VR,tD,LB]
theorem ah3 l(h:l.length<=10^9):E4 l=I (N5 l):=by
 unfold E4 N5;have:=vG (T:=sL (λ(d) (_)=>I d) l (l.length)) l (λ(s) i=>(s,(i))) (λi s=>s.length<=i) (λp s=> .ok (VQ s p)) (λs=>I s) J (λi b s c a=>?hs) (λi b s j a f=>?g) (λs c a=>?e) [] aD
 case hs=>
  grind[sL,aP,aj,aa,aal,VQ,aU]
 all_goals grind[VR,sL,LB]
def GI p z:=N5 (JZ p z)
theorem agt p z:vQ p z=I (GI p z):=by have:=Qg p z;simp only[vQ,anY,ajo _ (J:(JZ p z).length<=10^9),aa];rfl
theorem apS p z:AZ p z=I (GI p z):=by have:=Qg p z;simp only[AZ,amu,ah3 _ (J:(JZ p z).length<=10^9),aa];rfl
theorem Tw p z:(GI p z).length<=320/\∀x∈GI p z,x.length<=382:=by have:=Qg p z;have:=T3 (JZ p z) [];exact⟨by grind[GI,N5],OR _ [] aD⟩
def hasB (l:dw)v:=l.any (·==v)
theorem QP {v}:hasB l v=O↔v∈l:=by grind[hasB]
theorem LH l v(h:l.length<=10^9):kO l v=I (hasB l v):=by
 unfold kO hasB;rw[Mz (hit:=some O) (fin:=some G) (λx:Int=>x==v) l J (λi b a=>?hs) (λa=>?hf)]
 case hs=>
  simp(disch:=omega)[DT,ax,aP,aj]
 all_goals grind[DT]
theorem Je l v(h:l.length<=10^9):jo l v=I (hasB l v):=by
 unfold jo hasB;rw[Mz (hit:=some O) (fin:=some G) (λx:Int=>x==v) l J (λi b a=>?hs) (λa=>?hf)]
 case hs=>
  simp(disch:=omega)[C8,ax,aP,aj]
 all_goals grind[C8]
def ins (v:Int):dw->dw
 |[]=>[v]
 |x::l=>bif decide (v<x) then v::x::l else x::ins v l
theorem Vx (v:Int):∀l,(ins v l).length=l.length+1
 |[]=>rfl
 |x::l=>by rw[ins];cases decide (v<x)with|true=>rfl|false=>simp only[ab,bj,Vx v l]
theorem akF (v x:Int):∀l,x∈ins v l↔x=v\/x∈l
 |[]=>by simp[ins]
 |y::l=>by rw[ins];cases decide (v<y)with|true=>simp|false=>simp only[ab,bW,akF v x l];grind
theorem aik (v:Int):∀l:dw,v∉l->l.take (l.findIdx (λx=> !decide (x<v)))++[v]++l.drop (l.findIdx (λx=> !decide (x<v)))=ins v l
 |[],_=>rfl
 |x::l,h=>by rw[ins,List.findIdx_cons];have b:v≠x:=λe=>h (by simp[e]);have a:v∉l:=λe=>h (by simp[e]);by_cases c:x<v;rw[ax c,aw (J:¬v<x)];have:=aik v l a;simpa using this;rw[aw c,ax (J:v<x)];rfl
def Ea l v:=bif hasB l v then l else ins v l
theorem VS l v:(Ea l v).length<=l.length+1:=by unfold Ea;cases hasB l v with|true=>simp|false=>simp only[ab,Vx];omega
theorem ap8 {v x}(h:x∈l):x∈Ea l v:=by unfold Ea;cases hasB l v with|true=>exact h|false=>exact(akF v x l).2 (.inr h)
theorem alu {v}(h:v∈l):Ea l v=l:=by grind[Ea,QP]
theorem KT:∀(a l:dw),(a.foldl Ea l).length<=l.length+a.length
 |[],l=>aD
 |v::a,l=>by have:=KT a (Ea l v);grind[VS]
theorem S8:∀(a:dw){l:dw}{x:Int},x∈l->x∈a.foldl Ea l
 |[],_,_,h=>h
 |v::a,l,x,h=>S8 a (l:=Ea l v) (ap8 h)
theorem ad8 p(k:Int->aS R)(l:Z α):(match l.findIdx? p with|some i=>k (i:Int)|none=>k (l.length:Int))=k (l.findIdx p:Int):=by grind
theorem Yo (l:Z α)j(h:j<=l.length):sub l 0 (j:Int)=I (l.take j):=by grind[sub]
theorem KR (l:Z α)j(h:j<=l.length):sub l (j:Int) (l.length:Int)=I (l.drop j):=by simp_all[sub]
theorem abp a b(h:a.length+b.length<=10^9):AM a b=I (b.foldl Ea a):=by
 unfold AM;rw[aU gA];rw[bF];have:=vG (T:=tV (λ(l:dw) (_:Int)=>I l) b) b (λ(s:dw) i=>(s,(i:Int))) (λi s=>s.length<=a.length+i) (λv s=> .ok (Ea s v)) (λs=>I s) J (λi o s g m=>?hs) (λi o s w m r=>?hn) (λs g m=>?hf) a aD
 case hs=>
  simp only[tV]
  rw[iG,aP o,aj (n:=(i:Int)+1) J J]
  simp only[ae,aa,LH s b[i] J]
  unfold Ea
  cases t:hasB s b[i]with
  |true=>rfl
  |false=>
   have q:b[i]∉s:=λe=>by grind[QP]
   simp only[ab]
   rw[HE (hit:=λf=>U (sub s 0 f) λc=>room (List.length ([]:dw)+List.length c) (room (List.length (([]:dw)++c)+List.length ([b[i]])) (U (sub s f (s.length:Int)) λd=>room (List.length ((([]:dw)++c)++([b[i]]))+List.length d) (g (((([]:dw)++c)++([b[i]]))++d,(i:Int)+1)))))
    (fin:=U (sub s 0 (s.length:Int)) λc=>room (List.length ([]:dw)+List.length c) (room (List.length (([]:dw)++c)+List.length ([b[i]])) (U (sub s (s.length:Int) (s.length:Int)) λd=>room (List.length ((([]:dw)++c)++([b[i]]))+List.length d) (g (((([]:dw)++c)++([b[i]]))++d,(i:Int)+1)))))
    (λx=> !decide (x<b[i])) s J (λj u k=>?hs2) (λk=>?hf2)]
   case hs2=>
    grind[zR,aP,aj,aa]
   case hf2=>
    simp_all[zR]
   refine Eq.trans (ad8 (λx=> !decide (x<b[i])) (λf=>U (sub s 0 f) λc=>room (List.length ([]:dw)+List.length c) (room (List.length (([]:dw)++c)+List.length ([b[i]])) (U (sub s f (s.length:Int)) λd=>room (List.length ((([]:dw)++c)++([b[i]]))+List.length d) (g (((([]:dw)++c)++([b[i]]))++d,(i:Int)+1))))) s) ?_
   have p:s.findIdx (λx=> !decide (x<b[i]))<=s.length:=List.findIdx_le_length
   have e:=aik b[i] s q
   generalize s.findIdx (λx=> !decide (x<b[i]))=j at*
   grind[Yo,KR,aa,aU]
 all_goals grind[VS,tV,LB]
theorem akp l v(h:l.length<=10^9):nq l v=I (ins v l):=by
 unfold nq
 have f:∀(l:dw)(a:dw)(d:Bool),a.length+l.length+(bif d then 0 else 1)<=1073741824->
  Gz (λ(x:Int) (s:dw×Bool) (k:dw×Bool->aS dw)=>cond (cond (!s.2) (ay (v<x)) G) (room (List.length s.1+List.length ([v])) (room (List.length (s.1++([v]))+List.length ([x])) (k ((s.1++([v]))++([x]),O)))) (room (List.length s.1+List.length ([x])) (k (s.1++([x]),s.2))))
   (λs=>cond (!s.2) (room (List.length s.1+List.length ([v])) (I (s.1++([v])))) (I s.1)) l (a,d)=I (a++bif d then l else ins v l):=by
  intro l
  induction l with
  |nil=>
   intro a d c
   rw[Gz]
   simp only[fF]at c
   cases d with
   |true=>simp
   |false=>
    simp only[bS,ae,ab]at c⊢
    rw[aU (by simp;omega)];rfl
  |cons x l o=>
   grind[Gz,aU,ins]
 have e:=dB;have g:=HH (T:=oX (λ(b:dw) (m:Bool) (_:Int)=>cond (!m) (room (List.length b+List.length ([v])) (I (b++([v])))) (I b)) v l (l.length:Int)) l (λ(s:dw×Bool) i=>(s.1,s.2,(i:Int))) (λ(x:Int) (s:dw×Bool) (k:dw×Bool->aS dw)=>cond (cond (!s.2) (ay (v<x)) G) (room (List.length s.1+List.length ([v])) (room (List.length (s.1++([v]))+List.length ([x])) (k ((s.1++([v]))++([x]),O)))) (room (List.length s.1+List.length ([x])) (k (s.1++([x]),s.2)))) (λs=>cond (!s.2) (room (List.length s.1+List.length ([v])) (I (s.1++([v])))) (I s.1)) (λi n s j=>by grind[oX,aP,aj,aa]) (λs j=>by grind[oX]) fuel 0 (([]:dw),G) J J;grind
def ry:Port:=(0,[],0,G)
def VA (p:Port):=gu (p.1,G,p.2.1)&&hasB p.2.1 p.2.2.1
def XI (l:Z Port)i:=VA (l.getD i ry)&&(range i).all (λj=> !((j !=0)&&((l.getD j ry).1==(l.getD i ry).1)))
def kH l:=dF (l.length:Int) 1 8&&(range l.length).all (XI l)
theorem ai5 i(q:Nat->Bool):(range (i-1)).all (λj=> !(q (j+1)))=(range i).all (λj=> !((j !=0)&&q j)):=by
 rw[fE,aL,aL];simp only[bK];constructor;intro h j a;cases j with|zero=>rfl|succ j=>have:=h j J;simpa using this
 intro h j a;have:=h (j+1) J;simpa using this
theorem Ow l(h:l.length<=10^9)(k:∀p∈l,p.2.1.length<=10^9):qO l=I (kH l):=by
 unfold qO kH;rw[iK (hit:=some G) (fin:=some O) (XI l) l.length J (λi e b=>?hs) (λe=>?hf)]
 case hs=>
  have a:=k _ (az b)
  simp only[Bk]
  rw[iG,aP b,aj J J]
  simp only[ae,aa,re (l[i].1,G,l[i].2.1) a,LH _ _ a]
  have f:(1:Int)=(((0:Nat)+1:Nat):Int):=rfl
  rw[f,NT (hit:=some G) (fin:=e ((i:Int)+1)) (λj=>((j+1:Nat):Int)) (λj=> !((l.getD (j+1) ry).1==l[i].1)) (i-1) J (λj d m g=>?hs2) (λg d=>?hf2)]
  case hs2=>
   have c:j+1<l.length:=J
   simp only[Bl]
   rw[iG,aP c,aP b,aj J J]
   simp_all
  case hf2=>
   grind[Bl]
  rw[ai5 i (λj=>(l.getD j ry).1==l[i].1)]
  simp only[XI,VA,cU b]
  grind
 all_goals grind[Bk,cz,aa]
def K7 (p:Nat->Bool):gw->Int
 |[]=> -1
 |j::r=>bif p j then(j:Int) else K7 p r
theorem ad9 (p:Nat->Bool):∀n s i,s<=i->i<s+n->p i=O->(K7 p (List.range' s n)==(i:Int))=(List.range' s (i-s)).all (λj=> !(p j))
 |0,s,i,b,c,_=>J
 |n+1,s,i,b,c,a=>by
  rw[List.range'_succ,K7];rcases ca s i with g|d;obtain⟨k,e⟩:∃k,i-s=k+1:=⟨i-s-1,J⟩
  rw[e,List.range'_succ,cC];cases f:p s with|true=>simp only[ae,ak,iR];have:¬(s:Int)=(i:Int):=J;simpa using this|false=>simp only[ab,bS,bg];rw[ad9 p n (s+1) i J J a,(J:i-(s+1)=k)]
  have:s=i:=J;subst this;rw[a,kz];simp
theorem XR (p:Nat->Bool)(b:Nat->aS R)(a:aS R)(k:Int->aS R)(c:∀j:Nat,b j=k (j:Int))(d:a=k (-1)):∀l:gw,LA (λ(j:Nat) (s:Unit)=>bif p j then .error (b j) else .ok ()) (λ_=>a) l ()=k (K7 p l)
 |[]=>d
 |j::l=>by rw[LA,K7];cases p j with|true=>exact c j|false=>exact XR p b a k c d l
theorem ae6 l a(h:l.length<=10^9):Aw l a=I (K7 (λj=>(j !=0)&&((l.getD j ry).1==a)) (List.range' 0 l.length)):=by
 unfold Aw;have:=vG (T:=sU (λ(_:Int)=>I (-1)) (λ(c:Int) (_:Int)=>I c) a 0 l (l.length:Int)) (List.range' 0 l.length) (λ(_:Unit) i=>(i:Int)) (λ_ _=>True) (λ(j:Nat) (s:Unit)=>bif (j !=0)&&((l.getD j ry).1==a) then .error (I (j:Int)) else .ok ()) (λ_=>I (-1)) (by simp;omega) (λi d s b _=>?hs) (λ_ _ _ _ _ _=>trivial) (λs b _=>?hf) () trivial
 case hs=>
  grind[sU,aP,aj,aa]
 case hf=>
  grind[sU]
 rw[XR (λj=>(j !=0)&&((l.getD j ry).1==a)) _ _ (λx=>I x) (λ_=>rfl) rfl]at this;exact this
theorem Oc l(h:l.length<=10^9)(e:∀p∈l,p.2.1.length<=10^9):qx l=I (kH l):=by
 unfold qx kH;rw[iK (hit:=some G) (fin:=some O) (XI l) l.length J (λi f b=>?hs) (λf=>?hf)]
 case hs=>
  have a:=e _ (az b)
  simp only[AX]
  rw[iG,aP b,aj J J]
  simp only[ae,aa,JN,uk (l[i].1,G,l[i].2.1) a,Je _ _ a,ae6 l _ h,cD,bne]
  have c:((i:Int)==0)=(i==0):=by rw[fE];simp
  rw[c]
  simp only[XI,VA,cU b]
  cases k:i==0 with
  |true=>
   grind
  |false=>
   have d:(i !=0)=true:=gA
   have g:=ad9 (λj=>(j !=0)&&((l.getD j ry).1==l[i].1)) l.length 0 i J J gA
   grind[List.range_eq_range']
 all_goals grind[AX,cP,aa]
def oZ (m:dY):=gu m.1&&(dF m.2.1 0 1000000000000&&dF m.2.2.2 0 1000000000000)
theorem ago m(h:m.1.2.2.length<=10^9):yh m=I (oZ m):=by grind[yh,re,cz,aa,oZ]
theorem aeV m(h:m.1.2.2.length<=10^9):xH m=I (oZ m):=by grind[xH,uk,cP,aa,oZ]
theorem Kv (h:oZ m=O):m.1.2.2.length<=8:=by grind[oZ,gu]
def acP (m:dY):Port:=(m.1.1,m.1.2.2.foldl Ea [0],0,O)
def Mk (s:dw×Z Port)m:=(m.1.2.2.foldl Ea s.1,s.2++[acP m])
def oc (K:Z dY):Z Port:=(0,(K.foldl Mk ([0],[])).1,0,G)::(K.foldl Mk ([0],[])).2
def cK K:=bif dF (K.length:Int) 1 3&&(K.all oZ&&kH (oc K)) then(oc K,O) else([],G)
theorem XQ (p:α->Bool)(f:σ->α->σ)(r:aS R)(a:σ->aS R):∀(l:Z α)(s:σ),LA (λx s=>bif p x then .ok (f s x) else .error r) a l s=bif l.all p then a (l.foldl f s) else r
 |[],s=>rfl
 |x::l,s=>by rw[LA,cC,List.foldl_cons];cases p x with|false=>rfl|true=>simp only[ae,bg];exact XQ p f r a l (f s x)
def ady i(s:dw×Z Port):=s.1.length<=1+9*i/\s.2.length=i/\∀p∈s.2,p.2.1.length<=9
theorem ady.port {i s}(h:ady i s)(b:oZ m=O)U(c:U.length<=s.1.length+9:=by omega):ady (i+1) (U,s.2++[acP m]):=by have d:=Kv b;have:=KT m.1.2.2 [0];refine⟨?_,?_,?_⟩;have:=h.1;simp only;omega;have:=h.2.1;simp;omega;intro p a;rcases aB.1 a with a|a;exact h.2.2 p a;simp only[aY]at a;subst a;simp only[acP,aO]at this⊢;omega
theorem Ni {i s}(h:ady i s)(d:i<=3):((0,s.1,0,G)::s.2:Z Port).length<=10^9/\∀p∈((0,s.1,0,G)::s.2:Z Port),p.2.1.length<=10^9:=by have b:=h.1;have c:=h.2.1;refine⟨gA,λp a=>?_⟩;rcases bW.1 a with rfl|a;simp only;omega;have:=h.2.2 p a;omega
theorem qG K(h:∀m∈K,m.1.2.2.length<=10^9):lz K=I (cK K):=by
 unfold lz cK;simp only[cz,aa];cases hn:dF (K.length:Int) 1 3 with
 |false=>rfl
 |true=>
  have t:=aR.1 hn;simp only[ak,ab,bg];have:=vG (T:=vO (λ(c:Z Port) (_:Int)=>U (qO c) λe=>cond (!e) (I (([]:Z Port),G)) (I (c,O))) (λ(f:Z Port) (g:Bool) (_:Z Port) (_:Int)=>I (f,g)) K ([]:Z Port) G) K (λ(s:dw×Z Port) i=>((0,s.1,0,G)::s.2,(i:Int))) ady (λm s=>bif oZ m then .ok (Mk s m) else .error (I (([]:Z Port),G))) (λs=>I (bif kH ((0,s.1,0,G)::s.2) then((0,s.1,0,G)::s.2,O) else([],G))) J (λi d s o b=>?hs) (λi d s u b j=>?hn) (λs o b=>?hf) ([0],[]) ⟨aD,rfl,aD⟩
  case hs=>
   simp only[vO]
   have l:=h _ (az d)
   rw[iG,aP d,aj (n:=(i:Int)+1) J J]
   simp only[ae,aa,ago _ l]
   cases a:oZ K[i]with
   |false=>rfl
   |true=>
    have r:=Kv a
    have q:=b.1
    have p:=b.2.1
    have k:idx ((0,s.1,0,G)::s.2:Z Port) 0=I (0,s.1,0,G):=rfl
    simp only[ak,ab,ae,k,aa]
    rw[abp s.1 _ J,abp [0] _ (by simp;omega)]
    simp only[aa]
    rw[aU (by simp;omega)]
    rfl
  case hn=>
   cases a:oZ K[i]with
   |false=>grind
   |true=>
    rw[a]at j
    cases j
    have:=KT K[i].1.2.2 s.1
    have:=Kv a
    exact b.port a _
  case hf=>
   grind[vO,Ni,Ow,aa]
  rw[XQ]at this;grind[oc]
def abr (s:dw×Z Port)m:=(([0]++m.1.2.2).foldl Ea s.1,s.2++[acP m])
theorem aq0 {s}(h:(0:Int)∈s.1):abr s m=Mk s m:=by grind[abr,Mk,alu]
theorem Yj:∀(K:Z dY)(s:dw×Z Port),(0:Int)∈s.1->K.foldl abr s=K.foldl Mk s
 |[],_,_=>rfl
 |m::K,s,h=>by rw[List.foldl_cons,List.foldl_cons,aq0 h];exact Yj K _ (S8 _ h)
theorem agA K(h:K≠[]):K.foldl abr ([],[])=K.foldl Mk ([0],[]):=by cases K with|nil=>exact absurd rfl h|cons m K=>rw[List.foldl_cons,List.foldl_cons];have e:abr ([],[]) m=Mk ([0],[]) m:=rfl;rw[e];exact Yj K _ (S8 _ aD)
theorem amk g(k:dw->dw->aS R)(w:∀a b i,g a b i=k a b)p q r d f v20 j c all(h:all.length+c.length<=10^9): aQ (oD g p q r d f v20 c (c.length:Int) j) fuel (all,([]:dw),0)=k (c.foldl Ea all) (c.foldl Ea []):=by
 have:=vG (T:=oD g p q r d f v20 c (c.length:Int) j) c (λ(s:dw×dw) i=>(s.1,s.2,(i:Int))) (λi s=>s.1.length<=all.length+i/\s.2.length<=i) (λv s=> .ok (Ea s.1 v,Ea s.2 v)) (λs=>k s.1 s.2) J (λi o s t m=>?hs) (λi o s z m u=>?hn) (λs t m=>?hf) (all,[]) ⟨aD,aD⟩
 case hs=>
  simp only[oD]
  rw[iG,aP o,aj (n:=(i:Int)+1) J J]
  grind[aa,Je,akp,Ea]
 case hn=>
  grind[VS]
 case hf=>
  grind[oD]
 rw[LB]at this;refine Eq.trans this ?_;have e:∀(l:dw)(s:dw×dw),l.foldl (λs v=>(Ea s.1 v,Ea s.2 v)) s=(l.foldl Ea s.1,l.foldl Ea s.2):=by intro l;induction l with|nil=>intro s;rfl|cons x l y=>grind
 rw[e]
theorem FQ K(h:∀m∈K,m.1.2.2.length<=10^9):qw K=I (cK K):=by
 unfold qw cK;simp only[cP,aa];cases hn:dF (K.length:Int) 1 3 with
 |false=>rfl
 |true=>
  have B:=aR.1 hn;simp only[ak,ab,bg];have:=vG (T:=vz (λ(e:Z Port) (g:dw) (_:Int)=>U (idx e 0) λv=>U (idx e 0) λd=>U (qx (List.set e (Int.toNat 0) (d.1,g,d.2.2))) λk=>cond (!k) (I (([]:Z Port),G)) (I (List.set e (Int.toNat 0) (d.1,g,d.2.2),O))) (λ(l:Z Port) (o:Bool) (_:Z Port) (_:dw) (_:Int)=>I (l,o)) ([]:Z Port) G K (K.length:Int)) K (λ(s:dw×Z Port) i=>((0,[],0,G)::s.2,s.1,(i:Int))) ady (λm s=>bif oZ m then .ok (abr s m) else .error (I (([]:Z Port),G))) (λs=>I (bif kH ((0,s.1,0,G)::s.2) then((0,s.1,0,G)::s.2,O) else([],G))) J (λi j s q f=>?hs) (λi j s C f p=>?hn) (λs q f=>?hf) ([],[]) ⟨aD,rfl,aD⟩
  case hs=>
   simp only[vz]
   have t:=h _ (az j)
   rw[iG,aP j,aj (n:=(i:Int)+1) J J]
   simp only[ae,aa,aeV _ t]
   cases c:oZ K[i]with
   |false=>rfl
   |true=>
    have r:=Kv c
    have z:=f.1
    have y:=f.2.1
    simp only[ak,ab,ae]
    rw[aU (by simp;omega)]
    refine(amk _ (λa b=>room (List.length ((0,[],0,G)::s.2:Z Port)+List.length ([(K[i].1.1,b,0,O)]:Z Port)) (q (((0,[],0,G)::s.2)++([(K[i].1.1,b,0,O)]),a,(i:Int)+1))) (λ_ _ _=>rfl) _ _ _ _ _ _ _ ([0]++K[i].1.2.2) s.1 gA).trans ?_
    rw[aU (by simp;omega)]
    rfl
  case hn=>
   cases c:oZ K[i]with
   |false=>grind
   |true=>
    rw[c]at p
    cases p
    have u:=KT ([0]++K[i].1.2.2) s.1
    have r:=Kv c
    simp only[aq,aO]at u
    exact f.port c _
  case hf=>
   simp only[vz]
   rw[ga]
   have A:=Ni f J
   have w:idx ((0,[],0,G)::s.2:Z Port) 0=I (0,[],0,G):=rfl
   have x:List.set ((0,[],0,G)::s.2:Z Port) (Int.toNat 0) (0,s.1,0,G)=(0,s.1,0,G)::s.2:=rfl
   grind[aa,Oc]
  rw[XQ,agA K gA]at this;grind[oc]
theorem Kg (b:0<=a:=by omega)(h:a+2<=(s.length:Int):=by omega):0<=dg s a/\dg s a<=65535:=by grind[gT,dg,gG]
theorem Kh (b:0<=a:=by omega)(h:a+4<=(s.length:Int):=by omega):0<=eK s a/\eK s a<=4294967295:=by grind[gT,eK,gG]
theorem ap3 {x y}(a:0<=x/\x<=65535)(b:0<=y/\y<=4294967295):V (toNat (ie (V (x*2^(tZ 32)))|||ie y))=x*4294967296+y:=by have e:(2:Int)^(tZ 32)=4294967296:=rfl;obtain⟨x,rfl⟩:=ar a.1;obtain⟨y,rfl⟩:=ar b.1;rw[e,aj (n:=(x:Int)*4294967296) J J,(J:(x:Int)*4294967296=((2^32*x:Nat):Int)),Qa x 32 y];omega
theorem akA {x y}(a:0<=x/\x<=65535)(b:0<=y/\y<=4294967295):V (V (x*2^(tZ 32))+y)=x*4294967296+y:=by grind[IntKind.bits,aj]
theorem FJ {l:Z α}{n}(a:0<=n)(b:n<=(l.length:Int)):sub l 0 n=I (l.take n.toNat):=by grind[sub]
theorem zV {l:Z α}k(h:k<=l.length:=by omega)(b:a=(k:Int):=by omega):sub l a (l.length:Int)=I (l.drop k):=by simp_all[sub]
theorem R9 {l:Z α}(k:Nat){n}(d:a=(k:Int))(b:a<=n)(c:n<=(l.length:Int)):sub l a n=I ((l.take n.toNat).drop k):=by grind[sub]
def Gg (s:Bytes):Bytes×Bool:=bif decide ((s.length:Int)<4) then([],G) else bif L0 (s.take ((s.length:Int)-4).toNat)==s then(s.take ((s.length:Int)-4).toNat,O) else([],G)
theorem ajm s(h:s.length<=10^9):Fo s=I (Gg s):=by unfold Fo Gg;rw[aj (n:=(s.length:Int)-4) J J];by_cases a:(s.length:Int)<4;rw[ax a];rfl;rw[aw a,FJ J J];simp only[ab,aa,ak3 _ (show(s.take ((s.length:Int)-4).toNat).length<=10^9 by rw[bp];omega)];cases L0 (s.take ((s.length:Int)-4).toNat)==s<;>rfl
theorem ah1 s(h:s.length<=10^9):EZ s=I (Gg s):=by unfold EZ Gg;rw[aj (n:=(s.length:Int)-4) J J];by_cases a:(s.length:Int)<4;rw[ax (J:(s.length:Int)-4<0),ax a];rfl;rw[aw (J:¬(s.length:Int)-4<0),aw a,FJ J J];simp only[ab,aa,akt _ (show(s.take ((s.length:Int)-4).toNat).length<=10^9 by rw[bp];omega)];cases L0 (s.take ((s.length:Int)-4).toNat)==s<;>rfl
def arG:Eth:=(0,0,0,0,([]:Bytes))
def GG s a:=dg s a*4294967296+eK s (a+2)
def SB (s:Bytes):Eth:=(GG s 0,GG s 6,dg s 14,dg s 16,s.drop 18)
def HV (s:Bytes):Eth:=(GG s 0,GG s 6, -1,dg s 12,s.drop 14)
def iq s:=bif decide ((s.length:Int)<18) then(arG,G) else
 bif dg s 12==33024 then(bif BK (SB s) then(SB s,O) else(arG,G)) else bif BK (HV s) then(HV s,O) else(arG,G)
theorem ac8 s(h:s.length<=10^9):Fz s=I (iq s):=by unfold Fz iq;by_cases b:(s.length:Int)<18;rw[ax b];rfl;rw[aw b];simp only[ab,yY s _ h,EH s _ h,aa];rw[nQ,nQ,zV (l:=s) 14 J (show(14:Int)=((14:Nat):Int) from rfl),aa,zV (l:=s) 18 J (show(18:Int)=((18:Nat):Int) from rfl)];rw[akA (Kg (s:=s) (a:=0)) (Kh (s:=s) (a:=2)),akA (Kg (s:=s) (a:=6)) (Kh (s:=s) (a:=8))];simp only[aa,Tz];rw[show((dg s 0*4294967296+eK s 2,dg s 6*4294967296+eK s 8,dg s 14,dg s 16,s.drop 18):Eth)=SB s from rfl,show((dg s 0*4294967296+eK s 2,dg s 6*4294967296+eK s 8, -1,dg s 12,s.drop 14):Eth)=HV s from rfl];cases dg s 12==33024<;>cases BK (SB s)<;>cases BK (HV s)<;>rfl
theorem QW s(h:s.length<=10^9):Ar s=I (iq s):=by
 unfold Ar iq;by_cases b:(s.length:Int)<14;rw[ax b,ax (J:(s.length:Int)<18)];rfl;rw[aw b];simp only[ab,Em s _ h,En s _ h,aa];rw[nQ,nQ,zV (l:=s) 14 J (show(14:Int)=((14:Nat):Int) from rfl),aa];rw[ap3 (Kg (s:=s) (a:=0)) (Kh (s:=s) (a:=2)),ap3 (Kg (s:=s) (a:=6)) (Kh (s:=s) (a:=8))];simp only[aa,aak];rw[show((dg s 0*4294967296+eK s 2,dg s 6*4294967296+eK s 8, -1,dg s 12,s.drop 14):Eth)=HV s from rfl];by_cases c:(s.length:Int)<18;have d:BK (HV s)=false:=by
  unfold BK HV;have:dF ((s.drop 14).length:Int) 46 400=false:=by rw[Bool.eq_false_iff,ne_eq,aR,bA];omega
  simp only[this,ij]
 rw[ax c,aw (J:¬(s.length:Int)>=18),d];cases dg s 12==33024<;>rfl;rw[aw c,ax (J:(s.length:Int)>=18),zV (l:=s) 18 J (show(18:Int)=((18:Nat):Int) from rfl)];simp only[aa];rw[show((dg s 0*4294967296+eK s 2,dg s 6*4294967296+eK s 8,dg s 14,dg s 16,s.drop 18):Eth)=SB s from rfl];cases dg s 12==33024<;>cases BK (SB s)<;>cases BK (HV s)<;>rfl
def ip0:Ip:=(0,0,0,0,0,0,([]:Bytes))
def M9 (s:Bytes):Ip:=((cr s 1:Int),dg s 4,(cr s 8:Int),(cr s 9:Int),eK s 12,eK s 16,(s.take (dg s 2).toNat).drop 20)
def nY s:=bif decide ((s.length:Int)<20)||(ay (dg s 2<20)||decide (dg s 2>(s.length:Int))) then(ip0,G) else
 bif (ipR (M9 s)).2&&((ipR (M9 s)).1==s.take (dg s 2).toNat) then(M9 s,O) else(ip0,G)
theorem agq s(h:s.length<=10^9):Hl s=I (nY s):=by
 unfold Hl nY;simp only[yY s _ h,EH s _ h,aa];by_cases a:(s.length:Int)<20;rw[ax a];rfl;by_cases b:dg s 2<20;rw[aw a,ax b];rfl;by_cases c:dg s 2>(s.length:Int);rw[aw a,aw b,ax c];rfl;rw[aw a,aw b,aw c];have d:=nU (s[1]'J);have f:=nU (s[8]'J);have g:=nU (s[9]'J);have i1:idx s 1=I (s[1]'J):=aP (i:=1) J;have i8:idx s 8=I (s[8]'J):=aP (i:=8) J;have i9:idx s 9=I (s[9]'J):=aP (i:=9) J;simp only[ab,aa,bL,i1,i8,i9];rw[R9 (l:=s) 20 (show(20:Int)=((20:Nat):Int) from rfl) J J,FJ J J,jf (n:=(s[1]'J).toNat) J,jf (n:=(s[8]'J).toNat) J,jf (n:=(s[9]'J).toNat) J];have e:(((s[1]'J).toNat:Int),dg s 4,((s[8]'J).toNat:Int),((s[9]'J).toNat:Int),eK s 12,eK s 16,(s.take (dg s 2).toNat).drop 20)=M9 s:=by grind[M9,cr]
 simp only[aa,e,aqS];cases (ipR (M9 s)).2<;>cases (ipR (M9 s)).1==s.take (dg s 2).toNat<;>rfl
theorem aeX s(h:s.length<=10^9):G1 s=I (nY s):=by
 unfold G1 nY;simp only[Em s _ h,En s _ h,aa];by_cases a:(s.length:Int)<20;rw[ax a];rfl;by_cases b:dg s 2<20;rw[aw a,ax b];rfl;by_cases c:dg s 2>(s.length:Int);rw[aw a,aw b,ax c];rfl;rw[aw a,aw b,aw c];have d:=nU (s[1]'J);have f:=nU (s[8]'J);have g:=nU (s[9]'J);have i1:idx s 1=I (s[1]'J):=aP (i:=1) J;have i8:idx s 8=I (s[8]'J):=aP (i:=8) J;have i9:idx s 9=I (s[9]'J):=aP (i:=9) J;simp only[ab,aa,bL,i1,i8,i9];rw[R9 (l:=s) 20 (show(20:Int)=((20:Nat):Int) from rfl) J J,FJ J J,jf (n:=(s[1]'J).toNat) J,jf (n:=(s[8]'J).toNat) J,jf (n:=(s[9]'J).toNat) J];have e:(((s[1]'J).toNat:Int),dg s 4,((s[8]'J).toNat:Int),((s[9]'J).toNat:Int),eK s 12,eK s 16,(s.take (dg s 2).toNat).drop 20)=M9 s:=by grind[M9,cr]
 simp only[aa,e,apI];cases (ipR (M9 s)).2<;>cases (ipR (M9 s)).1==s.take (dg s 2).toNat<;>rfl
def at0:jQ:=(0,0,0,0,0,0,0,([]:Bytes))
def Tv (k:Int)(s:Bytes):jQ:=(k,dg s 0,dg s 2,eK s 4,eK s 8,(cr s 13:Int),dg s 14,s.drop 20)
def XY (k:Int)(s:Bytes):jQ:=(k,dg s 0,dg s 2,0,0,0,0,s.drop 8)
def th a b k s:=
 bif (k==6)&&decide ((s.length:Int)>=20) then(bif (EE a b (Tv k s)).2&&((EE a b (Tv k s)).1==s) then(Tv k s,O) else(at0,G)) else
 bif (k==17)&&decide ((s.length:Int)>=8) then(bif (EE a b (XY k s)).2&&((EE a b (XY k s)).1==s) then(XY k s,O) else(at0,G)) else(at0,G)
theorem ac9 a b k s(h:s.length<=10^9):xm a b k s=I (th a b k s):=by
 unfold xm th;simp only[yY s _ h,EH s _ h,aa];rw[show(U (cond (k==6) (I (ay ((s.length:Int)>=20))) (I G)):(Bool->aS (jQ×Bool))->aS (jQ×Bool))=λK=>K ((k==6)&&decide ((s.length:Int)>=20)) from by funext K;cases k==6<;>rfl];rw[show(U (cond (k==17) (I (ay ((s.length:Int)>=8))) (I G)):(Bool->aS (jQ×Bool))->aS (jQ×Bool))=λK=>K ((k==17)&&decide ((s.length:Int)>=8)) from by funext K;simp_all];simp only;cases c:(k==6)&&decide ((s.length:Int)>=20)with
 |true=>
  simp only[af,bO]at c;have f:=nU (s[13]'J);have i:idx s 13=I (s[13]'J):=aP (i:=13) J;have e:(k,dg s 0,dg s 2,eK s 4,eK s 8,((s[13]'J).toNat:Int),dg s 14,s.drop 20)=Tv k s:=by grind[Tv,cr]
  simp only[ae,i,aa];rw[zV (l:=s) 20 J (show(20:Int)=((20:Nat):Int) from rfl),jf (n:=(s[13]'J).toNat) J];simp only[aa,e,Nw];cases (EE a b (Tv k s)).2<;>cases (EE a b (Tv k s)).1==s<;>rfl
 |false=>simp only[ab];cases d:(k==17)&&decide ((s.length:Int)>=8)with|false=>rfl|true=>simp only[af,bO]at d;rw[zV (l:=s) 8 J (show(8:Int)=((8:Nat):Int) from rfl)];simp only[ae,aa,show((k,dg s 0,dg s 2,0,0,0,0,s.drop 8):jQ)=XY k s from rfl,Nw];cases (EE a b (XY k s)).2<;>cases (EE a b (XY k s)).1==s<;>rfl
theorem acu a b k s(h:s.length<=10^9):wO a b k s=I (th a b k s):=by
 unfold wO th;simp only[Em s _ h,En s _ h,aa];rw[show(U (cond (k==6) (I (ay ((s.length:Int)>=20))) (I G)):(Bool->aS (jQ×Bool))->aS (jQ×Bool))=λK=>K ((k==6)&&decide ((s.length:Int)>=20)) from by funext K;cases k==6<;>rfl];rw[show(U (cond (k==17) (I (ay ((s.length:Int)>=8))) (I G)):(Bool->aS (jQ×Bool))->aS (jQ×Bool))=λK=>K ((k==17)&&decide ((s.length:Int)>=8)) from by funext K;simp_all];simp only;cases c:(k==6)&&decide ((s.length:Int)>=20)with
 |true=>
  simp only[af,bO]at c;have f:=nU (s[13]'J);have i:idx s 13=I (s[13]'J):=aP (i:=13) J;have e:(k,dg s 0,dg s 2,eK s 4,eK s 8,((s[13]'J).toNat:Int),dg s 14,s.drop 20)=Tv k s:=by grind[Tv,cr]
  simp only[ae,i,aa];rw[zV (l:=s) 20 J (show(20:Int)=((20:Nat):Int) from rfl),jf (n:=(s[13]'J).toNat) J];simp only[aa,e,M3];cases (EE a b (Tv k s)).2<;>cases (EE a b (Tv k s)).1==s<;>rfl
 |false=>simp only[ab];cases d:(k==17)&&decide ((s.length:Int)>=8)with|false=>rfl|true=>simp only[af,bO]at d;rw[zV (l:=s) 8 J (show(8:Int)=((8:Nat):Int) from rfl)];simp only[ae,aa,show((k,dg s 0,dg s 2,0,0,0,0,s.drop 8):jQ)=XY k s from rfl,M3];cases (EE a b (XY k s)).2<;>cases (EE a b (XY k s)).1==s<;>rfl
def pk0:bQ:=(0,0,0,0,0,0,0,0,0,0,0,0,0,0,0,([]:Bytes))
def xW (s:Bytes):bQ×Int:=
 let e:=iq s
 bif !e.2||(e.1.2.2.2.1 !=2048) then(pk0,2) else
 let i:=nY e.1.2.2.2.2
 bif !i.2 then(pk0,3) else
 let g:=th i.1.2.2.2.2.1 i.1.2.2.2.2.2.1 i.1.2.2.2.1 i.1.2.2.2.2.2.2
 bif !g.2 then(pk0,4) else
 bif !di (e.1.1,e.1.2.1,e.1.2.2.1,i.1.1,i.1.2.1,i.1.2.2.1,i.1.2.2.2.2.1,i.1.2.2.2.2.2.1,g.1) then(pk0,5) else
 ((e.1.1,e.1.2.1,e.1.2.2.1,i.1.1,i.1.2.1,i.1.2.2.1,i.1.2.2.2.2.1,i.1.2.2.2.2.2.1,g.1),0)
theorem Lv s:(iq s).1.2.2.2.2.length<=s.length:=by grind[iq,arG,SB,HV]
theorem Up s:(nY s).1.2.2.2.2.2.2.length<=s.length:=by grind[nY,ip0,M9]
theorem Ox s(h:s.length<=10^9):lA s=I (xW s):=by
 have a:=Lv s;unfold lA xW;rw[ac8 s h,aa];generalize iq s=e at a⊢;have b:=Up e.1.2.2.2.2;simp only;cases e.2;rfl;cases e.1.2.2.2.1 !=2048;case true=>rfl
 simp only[ak,ab,aa,bL,agq _ (J:e.1.2.2.2.2.length<=10^9)];generalize nY e.1.2.2.2.2=i at b⊢;cases i.2;rfl;simp only[ak,ab,aa,ac9 _ _ _ _ (J:i.1.2.2.2.2.2.2.length<=10^9)];generalize th i.1.2.2.2.2.1 i.1.2.2.2.2.2.1 i.1.2.2.2.1 i.1.2.2.2.2.2.2=g;cases g.2;rfl;simp only[ak,ab,aa,tp];cases di (e.1.1,e.1.2.1,e.1.2.2.1,i.1.1,i.1.2.1,i.1.2.2.1,i.1.2.2.2.2.1,i.1.2.2.2.2.2.1,g.1)<;>rfl
theorem Od s(h:s.length<=10^9):lq s=I (xW s):=by
 have a:=Lv s;unfold lq xW;rw[QW s h,aa];generalize iq s=e at a⊢;have b:=Up e.1.2.2.2.2;simp only;cases e.2;rfl;cases e.1.2.2.2.1 !=2048;case true=>rfl
 simp only[ak,ab,aa,bL,aeX _ (J:e.1.2.2.2.2.length<=10^9)];generalize nY e.1.2.2.2.2=i at b⊢;cases i.2;rfl;simp only[ak,ab,aa,acu _ _ _ _ (J:i.1.2.2.2.2.2.2.length<=10^9)];generalize th i.1.2.2.2.2.1 i.1.2.2.2.2.2.1 i.1.2.2.2.1 i.1.2.2.2.2.2.2=g;cases g.2;rfl;simp only[ak,ab,aa,pX];cases di (e.1.1,e.1.2.1,e.1.2.2.1,i.1.1,i.1.2.1,i.1.2.2.1,i.1.2.2.2.2.1,i.1.2.2.2.2.2.1,g.1)<;>rfl
def cM s:=
 let c:=Gg s
 bif !c.2 then(pk0,1) else
 let r:=xW c.1
 bif r.2 !=0 then(pk0,r.2) else
 bif !eU r.1 then(pk0,5) else(r.1,0)
theorem Wa s:(Gg s).1.length<=s.length:=by grind[Gg]
theorem EI s(h:s.length<=10^9):kq s=I (cM s):=by
 have a:=Wa s;unfold kq cM;rw[ajm s h,aa];generalize Gg s=c at a⊢;simp only;cases c.2;rfl;simp only[ak,ab,aa,Ox _ (J:c.1.length<=10^9)];generalize xW c.1=r;cases r.2 !=0;case true=>rfl
 simp only[ab,aa,BR];cases eU r.1<;>rfl
theorem SW s(h:s.length<=10^9):sP s=I (cM s):=by
 have a:=Wa s;unfold sP cM;rw[ah1 s h,aa];generalize Gg s=c at a⊢;simp only;cases c.2;rfl;simp only[ak,ab,aa,Od _ (J:c.1.length<=10^9)];generalize xW c.1=r;cases r.2 !=0;case true=>rfl
 simp only[ab,aa,Eo];cases eU r.1<;>rfl
theorem IU x:iQ x=x%256:=by rfl
theorem UR {n:Nat}(h:k=n%256:=by omega):(UInt8.ofNat n).toNat=k:=by rw[h];simp
theorem Cl {v:Nat}(h:v<=65535):∃a b:UInt8,aG (v:Int)=[a,b]/\a.toNat=v/256/\b.toNat=v%256:=by
 have e:aG (v:Int)=aZ [iQ (fdiv (v:Int) (2^(tZ 8))),iQ (v:Int)]:=by unfold aG cO;rw[cz,aR.2 ⟨J,J⟩];rfl
 have c:((2:Int)^(tZ 8))=256:=eR;rw[c,Int.fdiv_eq_ediv_of_nonneg _ J,IU,IU]at e;exact⟨_,_,e,UR,UR⟩
theorem KU {v:Nat}(h:v<=4294967295:=by omega):∃a b c d:UInt8,cx (v:Int)=[a,b,c,d]/\a.toNat=v/16777216/\b.toNat=v/65536%256/\c.toNat=v/256%256/\d.toNat=v%256:=by
 have e:cx (v:Int)=aZ [iQ (fdiv (v:Int) (2^(tZ 24))),iQ (fdiv (v:Int) (2^(tZ 16))),iQ (fdiv (v:Int) (2^(tZ 8))),iQ (v:Int)]:=by unfold cx fT;rw[cz,aR.2 ⟨J,J⟩];rfl
 have i:((2:Int)^(tZ 8))=256:=eR;have f:((2:Int)^(tZ 16))=65536:=eR;have g:((2:Int)^(tZ 24))=16777216:=eR;rw[i,f,g,Int.fdiv_eq_ediv_of_nonneg _ J,Int.fdiv_eq_ediv_of_nonneg _ J,Int.fdiv_eq_ediv_of_nonneg _ J,IU,IU,IU,IU]at e;exact⟨_,_,_,_,e,UR,UR,UR,UR⟩
theorem fg {A B:Bytes}{n}(h:s.drop k=A++B)(a:A.length=n):s.drop (k+n)=B:=by grind[fM,List.drop_left]
theorem Ec {x}(h:s.drop k=x::t):cr s k=x.toNat:=by
 have e:s[k]?=I x:=by have:=congrArg (λl=>l[0]?) h;grind
 grind[cr]
theorem wg {x}(h:s.drop k=x::t):s.drop (k+1)=t:=fg (A:=[x]) h rfl
theorem kE {v:Nat}(a:v<=65535)(h:s.drop k=aG (v:Int)++t):dg s (k:Int)=(v:Int):=by grind[Cl,bj,dg,gG,Ec,wg]
theorem BL {v:Nat}(f:v<=4294967295)(h:s.drop k=cx (v:Int)++t):eK s (k:Int)=(v:Int):=by
 obtain⟨a,b,c,d,e,g,i,j,l⟩:=KU f;rw[e]at h;have m:s.drop k=a::b::c::d::t:=h;have n:k+4<=s.length:=by grind[bj]
 grind[Ec,wg,eK,gG]
theorem jB {v:Nat}(h:v<=65535:=by omega):(aG (v:Int)).length=2:=by grind[IT,aR]
theorem Sk {v:Nat}(h:v<=4294967295:=by omega):(cx (v:Int)).length=4:=by grind[L3,aR]
theorem akD {v:Nat}(h:v<=281474976710655):Cq (v:Int)=aG ((v/4294967296:Nat):Int)++cx ((v%4294967296:Nat):Int):=by have a:(2:Int)^(tZ 32)=4294967296:=rfl;have b:toNat (ie (v:Int)&&&ie 4294967295)=v%4294967296:=(aoL v 4294967295).trans (Nat.and_two_pow_sub_one_eq_mod v 32);have c:=cj ((v/4294967296:Nat):Int);have d:=eG ((v%4294967296:Nat):Int);unfold Cq kC;rw[nQ];simp only[kg,mc,aa];rw[a,Int.fdiv_eq_ediv_of_nonneg _ J,b,jf (n:=v%4294967296) J,(J:(v:Int)/4294967296=((v/4294967296:Nat):Int)),aU J];rfl
theorem Vy {v:Nat}(h:v<=281474976710655:=by omega):(Cq (v:Int)).length=6:=by rw[akD h,aq,jB,Sk]
theorem Ri {v:Nat}(a:v<=281474976710655)(h:s.drop k=Cq (v:Int)++t):GG s (k:Int)=(v:Int):=by rw[akD a,aH]at h;have b:=kE (v:=v/4294967296) J h;have c:=BL (v:=v%4294967296) J (fg h (jB));grind[GG]
theorem ao8 {e}(h:BK e=O):iq (I8 e)=(e,O):=by
 have c:=h;unfold BK at c;simp only[af,aR,bne_iff_ne,ne_eq]at c;obtain⟨d,s,v,t,b⟩:=e;simp only at c;obtain⟨o,p,y,z,q,A⟩:=c;obtain⟨d,rfl⟩:=ar o.1;obtain⟨s,rfl⟩:=ar p.1;obtain⟨t,rfl⟩:=ar (J:0<=t);have f:d<=281474976710655:=J;have g:s<=281474976710655:=J;have i:t<=65535:=J;have l:=Vy f;have m:=Vy g;have n:=jB i;by_cases B:v<0;obtain rfl:v= -1:=J;have e:I8 ((d:Int),(s:Int), -1,(t:Int),b)=Cq (d:Int)++(Cq (s:Int)++(aG (t:Int)++b)):=by show(bif decide ((-1:Int)>=0) then _ else Cq (d:Int)++Cq (s:Int))++aG (t:Int)++b=_;rw[show decide ((-1:Int)>=0)=G from rfl,ab];simp only[aH]
 generalize I8 ((d:Int),(s:Int), -1,(t:Int),b)=x at e;have r:x.length=14+b.length:=by rw[e];simp only[aq];omega
 have a:x.drop 0=Cq (d:Int)++(Cq (s:Int)++(aG (t:Int)++b)):=e;have k1:x.drop 6=Cq (s:Int)++(aG (t:Int)++b):=fg a l;have k2:x.drop 12=aG (t:Int)++b:=fg k1 m;have k3:x.drop 14=b:=fg k2 n;have f0:GG x 0=(d:Int):=Ri f a;have f1:GG x 6=(s:Int):=Ri g k1;have f2:dg x 12=(t:Int):=kE i k2;have j:HV x=((d:Int),(s:Int), -1,(t:Int),b):=by unfold HV;rw[f0,f1,f2,k3]
 unfold iq;rw[ga,ab,f2,show((t:Int)==33024)=G from by simpa using q,ab,j,h];rfl;obtain⟨v,rfl⟩:=ar (J:0<=v);have k:v<=65535:=J;have u:=jB (v:=33024);have w:=jB k;have e:I8 ((d:Int),(s:Int),(v:Int),(t:Int),b)=Cq (d:Int)++(Cq (s:Int)++(aG ((33024:Nat):Int)++(aG (v:Int)++(aG (t:Int)++b)))):=by show(bif decide ((v:Int)>=0) then(((Cq (d:Int)++Cq (s:Int))++aG 33024)++aG (v:Int)) else _)++aG (t:Int)++b=_;rw[iG,ae];simp only[aH];rfl
 generalize I8 ((d:Int),(s:Int),(v:Int),(t:Int),b)=x at e;have r:x.length=18+b.length:=by rw[e];simp only[aq];omega
 have a:x.drop 0=Cq (d:Int)++(Cq (s:Int)++(aG ((33024:Nat):Int)++(aG (v:Int)++(aG (t:Int)++b)))):=e;have k1:x.drop 6=Cq (s:Int)++(aG ((33024:Nat):Int)++(aG (v:Int)++(aG (t:Int)++b))):=fg a l;have k2:x.drop 12=aG ((33024:Nat):Int)++(aG (v:Int)++(aG (t:Int)++b)):=fg k1 m;have k3:x.drop 14=aG (v:Int)++(aG (t:Int)++b):=fg k2 u;have k4:x.drop 16=aG (t:Int)++b:=fg k3 w;have k5:x.drop 18=b:=fg k4 n;have f0:GG x 0=(d:Int):=Ri f a;have f1:GG x 6=(s:Int):=Ri g k1;have f2:dg x 12=33024:=kE (v:=33024) J k2;have f3:dg x 14=(v:Int):=kE k k3;have f4:dg x 16=(t:Int):=kE i k4;have j:SB x=((d:Int),(s:Int),(v:Int),(t:Int),b):=by unfold SB;rw[f0,f1,f3,f4,k5]
 unfold iq;rw[ga,ab,f2,show((33024:Int)==33024)=O from rfl,ae,j,h];rfl
theorem Jp {A X Y B}(a:A.length=k)(b:X.length=Y.length):wC (A++(X++B)) (k:Int) Y=A++(Y++B):=by subst a;simp(disch:=omega)[wC,gG,ax]
theorem abP {x}{y:Nat}(h:y<=255:=by omega):∃a b:UInt8,bs2 x (iQ (y:Int))=[a,b]/\b.toNat=y:=by refine⟨_,_,rfl,?_⟩;simp_all[IU];omega
theorem aj5 {x y:Nat}(h:x<=255:=by omega)(k:y<=255:=by omega):∃a b:UInt8,bs2 (iQ (x:Int)) (iQ (y:Int))=[a,b]/\a.toNat=x/\b.toNat=y:=by refine⟨_,_,rfl,?_,?_⟩;rw[IU];exact UR;rw[IU];exact UR
theorem Vq s:∃c:Nat,c<=65535/\Sy s=(c:Int):=by have:=ala s ((s.length+1)/2);exact⟨(Sy s).toNat,by unfold Sy;omega,by unfold Sy;omega⟩
theorem ar5 {d}(h:ipB d=O)z:nY (De d++d.2.2.2.2.2.2++z)=(d,O):=by
 have u:=h;have C:ipR d=(De d++d.2.2.2.2.2.2,O):=by grind[ipR]
 unfold ipB at u;simp only[af,aR,bO]at u;obtain⟨o,i,t,p,a,b,q⟩:=d;simp only at u C⊢;obtain⟨S,T,U,V,X,Y,h7⟩:=u;obtain⟨o,rfl⟩:=ar S.1;obtain⟨i,rfl⟩:=ar V.1;obtain⟨t,rfl⟩:=ar T.1;obtain⟨p,rfl⟩:=ar U.1;obtain⟨a,rfl⟩:=ar X.1;obtain⟨b,rfl⟩:=ar Y.1;obtain⟨w,r,e0,L⟩:=abP (x:=69) (y:=o);obtain⟨f,g,e8,A,M⟩:=aj5 (x:=t) (y:=p);obtain⟨c,Z,P⟩:=Vq (GD ((o:Int),(i:Int),(t:Int),(p:Int),(a:Int),(b:Int),q));have l2:=jB (v:=20+q.length);have l4:=jB (v:=i);have l6:=jB (v:=16384);have l0:=jB (v:=0);have lc:=jB Z;have la:=Sk (v:=a);have lb:=Sk (v:=b);have B:GD ((o:Int),(i:Int),(t:Int),(p:Int),(a:Int),(b:Int),q)=([w,r]++(aG ((20+q.length:Nat):Int)++(aG (i:Int)++(aG ((16384:Nat):Int)++[f,g]))))++(aG ((0:Nat):Int)++(cx (a:Int)++cx (b:Int))):=by show((((((bs2 69 (iQ (o:Int))++aG (20+(q.length:Int)))++aG (i:Int))++aG 16384)++bs2 (iQ (t:Int)) (iQ (p:Int)))++aG 0)++cx (a:Int))++cx (b:Int)=_;grind
 have Q:De ((o:Int),(i:Int),(t:Int),(p:Int),(a:Int),(b:Int),q)=([w,r]++(aG ((20+q.length:Nat):Int)++(aG (i:Int)++(aG ((16384:Nat):Int)++[f,g]))))++(aG (c:Int)++(cx (a:Int)++cx (b:Int))):=by unfold De;rw[P,B];exact Jp (k:=10) (by simp_all) J
 generalize hH:De ((o:Int),(i:Int),(t:Int),(p:Int),(a:Int),(b:Int),q)=H at Q C;have j:H.length=20:=by simp_all
 have e:H++q++z=[w,r]++(aG ((20+q.length:Nat):Int)++(aG (i:Int)++(aG ((16384:Nat):Int)++([f,g]++(aG (c:Int)++(cx (a:Int)++(cx (b:Int)++(q++z)))))))):=by grind
 have F:(H++q++z).take (20+q.length)=H++q:=List.take_left' (by rw[aq,j]);have hl:(H++q++z).length=20+q.length+z.length:=by simp only[aq,j]
 generalize H++q++z=s at e F hl;have K:s.drop 0=[w,r]++(aG ((20+q.length:Nat):Int)++(aG (i:Int)++(aG ((16384:Nat):Int)++([f,g]++(aG (c:Int)++(cx (a:Int)++(cx (b:Int)++(q++z)))))))):=e;have k1:s.drop 1=r::(aG ((20+q.length:Nat):Int)++(aG (i:Int)++(aG ((16384:Nat):Int)++([f,g]++(aG (c:Int)++(cx (a:Int)++(cx (b:Int)++(q++z)))))))):=wg K;have k2:=fg K (n:=2) rfl;have k4:=fg k2 l2;have k6:=fg k4 l4;have E:s.drop 8=f::g::(aG (c:Int)++(cx (a:Int)++(cx (b:Int)++(q++z)))):=fg k6 l6;have D:s.drop 10=aG (c:Int)++(cx (a:Int)++(cx (b:Int)++(q++z))):=wg (wg E);have l:s.drop 12=cx (a:Int)++(cx (b:Int)++(q++z)):=fg D lc;have m:s.drop 16=cx (b:Int)++(q++z):=fg l la;have k20:s.drop 20=q++z:=fg m lb;have f1:cr s 1=o:=(Ec k1).trans L;have f2:dg s 2=((20+q.length:Nat):Int):=kE (k:=2) J k2;have f4:dg s 4=(i:Int):=kE (k:=4) J k4;have f8:cr s 8=t:=(Ec E).trans A;have f9:cr s 9=p:=(Ec (wg E)).trans M;have f12:eK s 12=(a:Int):=BL (k:=12) J l;have f16:eK s 16=(b:Int):=BL (k:=16) J m;have R:(s.take (20+q.length)).drop 20=q:=by simp(disch:=omega)[congrArg]
 have N:M9 s=((o:Int),(i:Int),(t:Int),(p:Int),(a:Int),(b:Int),q):=by unfold M9;rw[f1,f2,f4,f8,f9,f12,f16,au,R]
 unfold nY;rw[N,C,f2,au,F,ga,ga,ga];grind
theorem sum_nat a b g:∃c:Nat,c<=65535/\Ph a b g=(c:Int):=by unfold Ph;cases (Sy (Dm a b g.1 ((bare g).length:Int)++bare g)==0)&&(g.1==17)with|true=>exact⟨65535,J,rfl⟩|false=>exact Vq _
theorem aqH {b}(h:ED a b g=O):th a b g.1 (D9 a b g)=(g,O):=by
 have l:EE a b g=(D9 a b g,O):=by grind[EE]
 have hs:vH g=true:=by grind[ED]
 obtain⟨c,R,z⟩:=sum_nat a b g;have lc:=jB R;have X:=jB (v:=0);unfold vH at hs;simp only[af,aR,aW,cp]at hs;obtain⟨k,s,d,n,m,f,w,q⟩:=g;simp only at hs l z⊢;obtain⟨K,L,Z,j⟩:=hs;obtain⟨s,rfl⟩:=ar K.1;obtain⟨d,rfl⟩:=ar L.1;have H:=jB (v:=s);have ld:=jB (v:=d);cases i:k==17 with
 |true=>
  have S:k=17:=by simpa using i
  rw[i]at j;simp only[ae,af,bw]at j;obtain⟨rfl,rfl,rfl,rfl⟩:=j;subst S;have F:=jB (v:=8+q.length);have e:D9 a b (17,(s:Int),(d:Int),0,0,0,0,q)=(aG (s:Int)++(aG (d:Int)++aG ((8+q.length:Nat):Int)))++(aG (c:Int)++q):=by
   have u:bare (17,(s:Int),(d:Int),0,0,0,0,q)=(aG (s:Int)++(aG (d:Int)++aG ((8+q.length:Nat):Int)))++(aG ((0:Nat):Int)++q):=by show(((aG (s:Int)++aG (d:Int))++aG (8+(q.length:Int)))++aG 0)++q=_;grind
   unfold D9;rw[z,u];exact Jp (k:=6) (by simp_all) J
  generalize D9 a b (17,(s:Int),(d:Int),0,0,0,0,q)=x at e l;have T:x.length=8+q.length:=by simp_all;omega
  have o:x.drop 0=aG (s:Int)++(aG (d:Int)++(aG ((8+q.length:Nat):Int)++(aG (c:Int)++q))):=by simp_all
  have k2:x.drop 2=aG (d:Int)++(aG ((8+q.length:Nat):Int)++(aG (c:Int)++q)):=fg o H;have k4:x.drop 4=aG ((8+q.length:Nat):Int)++(aG (c:Int)++q):=fg k2 ld;have V:x.drop 6=aG (c:Int)++q:=fg k4 F;have E:x.drop 8=q:=fg V lc;have f0:dg x 0=(s:Int):=kE (k:=0) J o;have f2:dg x 2=(d:Int):=kE (k:=2) J k2;have A:XY 17 x=(17,(s:Int),(d:Int),0,0,0,0,q):=by simp_all[XY]
  unfold th;rw[A,l,show((17:Int)==6)=G from rfl,show((17:Int)==17)=O from rfl,ax (J:(x.length:Int)>=8)];grind
 |false=>
  rw[i]at j;simp only[ab,af,bw,aR]at j;obtain⟨rfl,M,N,P,Q⟩:=j;obtain⟨n,rfl⟩:=ar M.1;obtain⟨m,rfl⟩:=ar N.1;obtain⟨f,rfl⟩:=ar P.1;obtain⟨w,rfl⟩:=ar Q.1;obtain⟨y,t,Y,B⟩:=abP (x:=80) (y:=f);have F:=Sk (v:=n);have lm:=Sk (v:=m);have lw:=jB (v:=w);have e:D9 a b (6,(s:Int),(d:Int),(n:Int),(m:Int),(f:Int),(w:Int),q)=(aG (s:Int)++(aG (d:Int)++(cx (n:Int)++(cx (m:Int)++([y,t]++aG (w:Int))))))++(aG (c:Int)++(aG ((0:Nat):Int)++q)):=by
   have u:bare (6,(s:Int),(d:Int),(n:Int),(m:Int),(f:Int),(w:Int),q)=(aG (s:Int)++(aG (d:Int)++(cx (n:Int)++(cx (m:Int)++([y,t]++aG (w:Int))))))++(aG ((0:Nat):Int)++(aG ((0:Nat):Int)++q)):=by show(((((aG (s:Int)++aG (d:Int))++cx (n:Int))++cx (m:Int))++bs2 80 (iQ (f:Int)))++aG (w:Int))++cx 0++q=_;grind[TL]
   unfold D9;rw[z,u];exact Jp (k:=16) gA J
  generalize D9 a b (6,(s:Int),(d:Int),(n:Int),(m:Int),(f:Int),(w:Int),q)=x at e l;have T:x.length=20+q.length:=gA;have o:x.drop 0=aG (s:Int)++(aG (d:Int)++(cx (n:Int)++(cx (m:Int)++([y,t]++(aG (w:Int)++(aG (c:Int)++(aG ((0:Nat):Int)++q))))))):=gA;have k2:=fg o H;have k4:=fg k2 ld;have E:=fg k4 F;have p:x.drop 12=y::t::(aG (w:Int)++(aG (c:Int)++(aG ((0:Nat):Int)++q))):=fg E lm;have r:x.drop 14=aG (w:Int)++(aG (c:Int)++(aG ((0:Nat):Int)++q)):=wg (wg p);have C:x.drop 16=aG (c:Int)++(aG ((0:Nat):Int)++q):=fg r lw;have D:x.drop 18=aG ((0:Nat):Int)++q:=fg C lc;have U:x.drop 20=q:=fg D X;have f0:dg x 0=(s:Int):=kE (k:=0) J o;have f2:dg x 2=(d:Int):=kE (k:=2) J k2;have f4:eK x 4=(n:Int):=BL (k:=4) J k4;have f8:eK x 8=(m:Int):=BL (k:=8) J E;have f13:cr x 13=f:=(Ec (wg p)).trans B;have f14:dg x 14=(w:Int):=kE (k:=14) J r;have A:Tv 6 x=(6,(s:Int),(d:Int),(n:Int),(m:Int),(f:Int),(w:Int),q):=by grind[Tv]
  unfold th;rw[A,l,show((6:Int)==6)=O from rfl,ax (J:(x.length:Int)>=20)];grind
theorem afz s:∃z,pad s=s++z:=by unfold pad;split;all_goals simp_all
theorem PW (h:di p=O):xW (dE p).1=(p,0):=by
 have f:vn p=true:=by grind[di]
 have b:=CB f;have d:=f;unfold vn at d;simp only[af]at d;obtain⟨r,s,t,u,v,w,x,y,_⟩:=d;have g:=Iv b;have j:=Qr p.2.2.2.2.2.2.2.2;have A:dF p.2.2.2.2.2.2.2.2.1 0 255=true:=by unfold vH at b;simp only[af]at b;have c:=b.2.2.2;cases a:p.2.2.2.2.2.2.2.2.1==17 with|true=>rw[show p.2.2.2.2.2.2.2.2.1=17 from by simpa using a];rfl|false=>rw[a]at c;simp only[ab,af,bw]at c;rw[c.1];rfl
 have D:ED p.2.2.2.2.2.2.1 p.2.2.2.2.2.2.2.1 p.2.2.2.2.2.2.2.2=true:=by grind[ED,Dp,aR]
 have i:Mn p=(D9 p.2.2.2.2.2.2.1 p.2.2.2.2.2.2.2.1 p.2.2.2.2.2.2.2.2,O):=by grind[Mn,EE]
 have e:=ac0 p.2.2.2.2.2.2.1 p.2.2.2.2.2.2.2.1 p.2.2.2.2.2.2.2.2;rw[show EE p.2.2.2.2.2.2.1 p.2.2.2.2.2.2.2.1 p.2.2.2.2.2.2.2.2=Mn p from rfl,i]at e;have l:ipB (p.2.2.2.1,p.2.2.2.2.1,p.2.2.2.2.2.1,p.2.2.2.2.2.2.2.2.1,p.2.2.2.2.2.2.1,p.2.2.2.2.2.2.2.1,(Mn p).1)=true:=by grind[ipB]
 have n:ipP p=(De (p.2.2.2.1,p.2.2.2.2.1,p.2.2.2.2.2.1,p.2.2.2.2.2.2.2.2.1,p.2.2.2.2.2.2.1,p.2.2.2.2.2.2.2.1,(Mn p).1)++(Mn p).1,O):=by grind[ipP,ipR]
 have B:=S2 p;have C:=Rp (ipP p).1;have k:BK (p.1,p.2.1,p.2.2.1,2048,pad (ipP p).1)=true:=by grind[BK,aR]
 have o:(dE p).1=I8 (p.1,p.2.1,p.2.2.1,2048,pad (ipP p).1):=by grind[dE,alL,YR]
 have m:=ao8 k;obtain⟨z,q⟩:=afz (ipP p).1;have E:=ar5 l z;grind[aqH,xW]
def V0 s i:=cr s (i/8)/2^(7-i%8)%2
theorem Qs s i:V0 s i<2:=Nat.mod_lt _ J
theorem adL (b k:Nat)(c:b<256)(d:k<=7):V (toNat (ie (V (fdiv (b:Int) ((2^k:Nat):Int)))&&&ie 1))=((b/2^k%2:Nat):Int):=by have e:fdiv (b:Int) ((2^k:Nat):Int)=((b/2^k:Nat):Int):=(Int.ofNat_fdiv b (2^k)).symm;have a:b/2^k<=b:=Nat.div_le_self _ _;rw[e,jf (n:=b/2^k) J];have:=aoL (b/2^k) 1;grind[jf]
theorem akq s(i:Nat)(c:i/8<s.length:=by omega)(h:s.length<=10^9:=by omega):FW s (i:Int)=I ((V0 s i:Nat):Int):=by
 have a:Int.tdiv (i:Int) 8=((i/8:Nat):Int):=(Int.ofNat_tdiv i 8).symm;have b:tmod (i:Int) 8=((i%8:Nat):Int):=(Int.ofNat_tmod i 8).symm;unfold FW;rw[nQ,a,aj (n:=((i/8:Nat):Int)) J J,aP c,aa,nQ,b,aj (n:=7-((i%8:Nat):Int)) J J,nQ];have d:(2:Int)^(min (Int.toNat (7-((i%8:Nat):Int))) (IntKind.bits .u8))=((2^(7-i%8):Nat):Int):=by grind[Int.toNat,IntKind.bits]
 grind[adL,nU,V0,cr]
theorem akZ s(i:Nat)(f:i/8<s.length:=by omega)(h:s.length<=10^9:=by omega):Gc s (i:Int)=I ((V0 s i:Nat):Int):=by
 have b:Int.tdiv (i:Int) 8=((i/8:Nat):Int):=(Int.ofNat_tdiv i 8).symm;have c:tmod (i:Int) 8=((i%8:Nat):Int):=(Int.ofNat_tmod i 8).symm;have e:=nU s[i/8];unfold Gc;rw[nQ,b,aj (n:=((i/8:Nat):Int)) J J,aP f,aa,nQ,c,aj (n:=7-((i%8:Nat):Int)) J J,nQ,jf (n:=s[i/8].toNat) J];have g:(2:Int)^(min (Int.toNat (7-((i%8:Nat):Int))) (IntKind.bits .i64))=((2^(7-i%8):Nat):Int):=by grind[Int.toNat,IntKind.bits]
 have d:fdiv ((s[i/8].toNat:Nat):Int) ((2^(7-i%8):Nat):Int)=((s[i/8].toNat/2^(7-i%8):Nat):Int):=(Int.ofNat_fdiv _ _).symm;have j:s[i/8].toNat/2^(7-i%8)<=s[i/8].toNat:=Nat.div_le_self _ _;have a:=adL s[i/8].toNat (7-i%8) e J;rw[d,jf (n:=s[i/8].toNat/2^(7-i%8)) J]at a;simp_all[V0,cr]
def win (s:Bytes)(a:Nat):Nat->Nat
 |0=>0
 |j+1=>2*win s a j+V0 s (a+j)
theorem are (s:Bytes)(a:Nat):∀j,win s a j<2^j
 |0=>by simp[win]
 |j+1=>by have:=are s a j;grind[Qs,win]
theorem YA s a j(b:j<=32):win s a j<4294967296:=Nat.lt_of_lt_of_le (are s a j) (Nat.pow_le_pow_right (n:=2) J b)
def agR s a:=bif ((s.length:Int) !=16)|| !dF a 0 96 then-1 else((win s a.toNat 32:Nat):Int)
theorem ar3 s a:CP s a=I (agR s a):=by
 unfold CP agR;rw[cP];cases e:(s.length:Int) !=16;case true=>rfl
 cases d:dF a 0 96;rfl;have c:=aR.1 d;have g:s.length=16:=by simp at e;omega
 obtain⟨a,rfl⟩:=ar c.1;simp only[ab,aa,ak,bL,au];refine bJ (λi=>(((win s a i:Nat):Int),((a+i:Nat):Int))) 32 J (λi f j=>?_) (λf=>?_);have k:=YA s a i J;have h:=Qs s (a+i);simp only[wN];rw[aj (n:=(a:Int)+32) J J,iG,ae,nQ,akq s (a+i),aa,aj (n:=((a+i:Nat):Int)+1) J J];have b:V (((win s a i:Nat):Int)*2^(tZ 1))=((2^1*win s a i:Nat):Int):=by have:(2:Int)^(tZ 1)=2:=rfl;rw[this,aj J J];omega
 rw[b,Qa _ _ _];rw[(J:(((a+i:Nat):Int)+1)=((a+(i+1):Nat):Int))];rfl;simp only[wN];rw[aj (n:=(a:Int)+32) J J,ga];rfl
theorem asz s a:DE s a=I (agR s a):=by
 unfold DE agR;rw[cz];cases d:(s.length:Int) !=16;case true=>rfl
 cases c:dF a 0 96;rfl;have b:=aR.1 c;have f:s.length=16:=by simp at d;omega
 obtain⟨a,rfl⟩:=ar b.1;simp only[ab,aa,ak,bL,au];refine bJ (λi=>(((win s a i:Nat):Int),(i:Int))) 32 J (λi e h=>?_) (λe=>?_);have j:=YA s a i J;have g:=Qs s (a+i);simp only[xj];rw[iG,ae,aj (n:=(a:Int)+(i:Int)) J J,(J:(a:Int)+(i:Int)=((a+i:Nat):Int)),akZ s (a+i),aa,aj (n:=(i:Int)+1) J J];rw[aj (n:=2*((win s a i:Nat):Int)) J J,aj J J,win];congr 1;simp only[xj];rw[ga];rfl
def OV (s v:Bytes):Nat->Nat
 |0=>0
 |i+1=>if V0 v i=1 then OV s v i^^^win s i 32 else OV s v i
theorem QQ (s v:Bytes):∀i,OV s v i<4294967296
 |0=>by simp[OV]
 |i+1=>by have:=QQ s v i;grind[OV,J5,YA]
def Ca s v:=bif ((s.length:Int) !=16)||decide ((v.length:Int)>12) then-1 else((OV s v (8*v.length):Nat):Int)
theorem apF s v:CM s v=I (Ca s v):=by
 unfold CM Ca;cases hs:(s.length:Int) !=16;case true=>rfl
 cases d:decide ((v.length:Int)>12);case true=>rfl
 have g:s.length=16:=by simp at hs;omega
 have h:v.length<=12:=by simp at d;omega
 simp only[ab,aa,bL];refine bJ (λi=>(((OV s v i:Nat):Int),(i:Int))) (8*v.length) J (λi f k=>?_) (λf=>?_);have e:=YA s i 32 J;have c:=QQ s v i;have j:=Qs v i;have b:agR s (i:Int)=((win s i 32:Nat):Int):=by unfold agR;rw[hs,aR.2 (J:(0:Int)<=(i:Int)/\(i:Int)<=96)];rfl
 simp only[wK];rw[aj (n:=8*(v.length:Int)) J J,iG,ae,akq v i,aa,ar3,aa,b,alj _ _ J J,aj (n:=(i:Int)+1) J J,jf (Nat.lt_trans (J5 c e) J),OV];by_cases a:V0 v i=1;rw[a,aI rfl];rfl;rw[aK a,show(((V0 v i:Nat):Int)==1)=G from by simp;omega];rfl;simp only[wK];rw[aj (n:=8*(v.length:Int)) J J,ga];rfl
theorem aqQ s v:DA s v=I (Ca s v):=by
 unfold DA Ca;cases hs:(s.length:Int) !=16;case true=>rfl
 cases d:decide ((v.length:Int)>12);case true=>rfl
 have g:s.length=16:=by simp at hs;omega
 have h:v.length<=12:=by simp at d;omega
 simp only[ab,aa,bL];refine bJ (λi=>(((OV s v i:Nat):Int),(i:Int))) (8*v.length) J (λi f k=>?_) (λf=>?_);have e:=YA s i 32 J;have c:=QQ s v i;have j:=Qs v i;have b:agR s (i:Int)=((win s i 32:Nat):Int):=by unfold agR;rw[hs,aR.2 (J:(0:Int)<=(i:Int)/\(i:Int)<=96)];rfl
 simp only[xg];rw[aj (n:=8*(v.length:Int)) J J,iG,ae,akZ v i,aa,asz,aa,b,alj _ _ J J,aj (n:=(i:Int)+1) J J,jf (Nat.lt_trans (J5 c e) J),OV];by_cases a:V0 v i=1;rw[a,aI rfl];rfl;rw[aK a,show(((V0 v i:Nat):Int)==1)=G from by simp;omega];rfl;simp only[xg];rw[aj (n:=8*(v.length:Int)) J J,ga];rfl
def xD (f:ON):=((cx f.2.1++cx f.2.2.1)++aG f.2.2.2.1)++aG f.2.2.2.2
theorem aaf f:(xD f).length<=12:=by grind[eG,cj,xD]
theorem ah6 (f:ON):CN f=I (xD f):=by have:=eG f.2.1;have:=eG f.2.2.1;have:=cj f.2.2.2.1;have:=cj f.2.2.2.2;simp only[CN,BN,oR,aa];rw[aU J,aU gA,aU gA];rfl
theorem ajr (f:ON):DC f=I (xD f):=by have:=eG f.2.1;have:=eG f.2.2.1;have:=cj f.2.2.2.1;have:=cj f.2.2.2.2;simp only[DC,mc,kg,aa];rw[aU J,aU gA,aU gA];rfl
theorem QU s(f:ON):Ap s f=I (Ca s (xD f)):=by grind[Ap,ah6,apF,aa]
theorem RU s(f:ON):AF s f=I (Ca s (xD f)):=by grind[AF,ajr,aqQ,aa]
def JI (s:Ms)f:=bif ((s.2.length:Int)==0)||decide (Ca s.1 (xD f)<0) then-1 else tmod (Ca s.1 (xD f)) (s.2.length:Int)
theorem amf s(f:ON):GX s f=I (JI s f):=by grind[GX,JI,QU,aa]
theorem anO s(f:ON):Hi s f=I (JI s f):=by grind[Hi,JI,RU,aa]
theorem SC s f(h:¬JI s f<0):∃n:Nat,JI s f=(n:Int)/\n<s.2.length:=by unfold JI at h⊢;cases a:((s.2.length:Int)==0)||decide (Ca s.1 (xD f)<0)with|true=>grind|false=>rw[a]at h;simp only[dj,cc,cp]at a;simp only[ab]at h⊢;have b:0<=Ca s.1 (xD f):=J;rw[fD b]at h⊢;have:=jr (Ca s.1 (xD f)) (J:(0:Int)<s.2.length);grind[ar]
def OB s q f:=bif !BG s q||decide (JI s f<0) then-1 else s.2.getD (JI s f).toNat 0
theorem ae2 s q(f:ON)(h:s.2.length<=10^9):yI s q f=I (OB s q f):=by unfold yI OB;grind[amf,aa,W8,SC,eS,aP]
theorem agv s q(f:ON)(h:s.2.length<=10^9):zH s q f=I (OB s q f):=by unfold zH OB;grind[anO,aa,Qe,SC,eS,aP]
theorem abE (t:Z Slot)(f:ON)(h:∀j,j<8->vY (jv t j) f=G):∀n k,walk t f n k= -1
 |0,_=>rfl
 |n+1,k=>by unfold walk;rw[h _ (Sl f k),abE t f h n (k+1)];split<;>rfl
theorem TY (f:ON):∀(t:Z Slot)(m:Int),(∀s∈t,vY s f=G)->Gi f t m= -1
 |[],_,_=>rfl
 |s::r,m,h=>by unfold Gi;rw[h s aD];exact TY f r (m+1) (λx a=>h x (by simp[a]))
theorem ahF t(f:ON)(h:BX t=O):Gi f t 0=walk t f 8 0:=by simp only[BX,af,bw,aL,bK]at h;obtain⟨k,i⟩:=h;by_cases hex:∃j,j<t.length/\vY (jv t j) f=O;obtain⟨j,a,b,e⟩:=MN f t 0 hex;have:=i j J;simp only[tn,af,dW,aW,bw]at this;simp only[vY,af,bw,bO]at b;rcases this.2 with g|g;rw[b.1]at g;simp at g;rw[b.2]at g;rw[show((0:Int))=((0:Nat):Int) from rfl,e,g];omega;have d:∀j,j<t.length->vY (jv t j) f=false:=λj a=>Bool.eq_false_iff.2 λb=>hex ⟨j,a,b⟩;rw[abE t f (λj a=>d j J),TY];intro s c;obtain⟨j,a,rfl⟩:=fP c;have:=d j a;rwa[EG a]at this
def findF t(f:ON):=bif BX t then walk t f 8 0 else-1
theorem acs t(f:ON)(h:t.length<=10^9):E2 t f=I (findF t f):=by grind[E2,findF,aat,aa,ae1,ahF]
theorem ac7 t(f:ON):Fs t f=I (findF t f):=by grind[Fs,findF,abn,aa,BX,agk]
theorem alg (t:Z Slot)(f:ON):∀n k,walk t f n k= -1\/∃m:Nat,walk t f n k=(m:Int)/\m<8
 |0,_=> .inl rfl
 |n+1,k=>by unfold walk;split;exact .inl rfl;split;exact .inr ⟨_,rfl,Sl f k⟩;exact alg t f n (k+1)
theorem Wu t f(h:findF t f>=0):∃m:Nat,findF t f=(m:Int)/\m<t.length:=by
 unfold findF at h⊢;cases a:BX t with
 |false=>grind
 |true=>
  rw[a]at h;simp only[ae]at h⊢;have b:t.length=8:=by grind[BX]
  rcases alg t f 8 0 with g|⟨m,g,c⟩;all_goals grind
def kJ f(p:bQ):=gu f&&(((p.1==f.1)||((p.1==281474976710655)||f.2.1))&&((p.2.2.1== -1)||hasB f.2.2 p.2.2.1))
theorem aeJ f p(h:f.2.2.length<=10^9):GS f p=I (kJ f p):=by grind[GS,uk,Je,aa,kJ]
theorem UC f p(h:f.2.2.length<=10^9):Dt f p=I (kJ f p):=by grind[Dt,re,LH,aa,kJ]
def preB a b n:=fdiv a (2^(min (Int.toNat (V (32-n))) (IntKind.bits .i64)))==fdiv b (2^(min (Int.toNat (V (32-n))) (IntKind.bits .i64)))
theorem aa2 {r}(h:KF r=O):0<=r.2.2.2.1/\r.2.2.2.1<=32:=by grind[KF,qP,cz,aa,dF]
def ao0 (r:IV)(p:bQ):=preB r.2.2.1 p.2.2.2.2.2.2.1 r.2.2.2.1&&(dF p.2.2.2.2.2.2.2.2.2.2.1 r.2.2.2.2.1 r.2.2.2.2.2.1&&((r.2.2.2.2.2.2.1== -2)||(r.2.2.2.2.2.2.1==p.2.2.1)))
def Nd r p:=KF r&&(di p&&(((r.2.1==0)||(r.2.1==p.2.2.2.2.2.2.2.2.1))&&ao0 r p))
theorem ar0 a b n(c:0<=n)(d:n<=32):vC a b n=I (preB a b n):=by grind[vC,preB,aj]
theorem amm r p:yE r p=I (Nd r p):=by unfold yE Nd;rw[apQ,aa];grind[aa2,pX,ar0,cP,aa,ao0]
theorem anR r p:zC r p=I (Nd r p):=by
 unfold zC Nd;rw[Ye,aa];cases a:KF r;rfl;have c:=aa2 a;have b:¬V (32-r.2.2.2.1)<0:=by grind[aj]
 simp only[tp,Gs,aK b,cz,aa,ao0];rw[show(fdiv r.2.2.1 (2^(min (Int.toNat (V (32-r.2.2.2.1))) (IntKind.bits .i64)))==fdiv p.2.2.2.2.2.2.1 (2^(min (Int.toNat (V (32-r.2.2.2.1))) (IntKind.bits .i64))))=preB r.2.2.1 p.2.2.2.2.2.2.1 r.2.2.2.1 from rfl];cases di p<;>cases r.2.1==0<;>cases r.2.1==p.2.2.2.2.2.2.2.2.1<;>cases preB r.2.2.1 p.2.2.2.2.2.2.1 r.2.2.2.1<;>cases dF p.2.2.2.2.2.2.2.2.2.2.1 r.2.2.2.2.1 r.2.2.2.2.2.1<;>cases r.2.2.2.2.2.2.1== -2<;>rfl
def Uz:IV:=(0,0,0,0,0,0,0,0,0)
def Gw (l:Z IV)(p:bQ):Nat->Int
 |0=> -1
 |i+1=>bif Nd (l.getD i Uz) p&&(ay (Gw l p i<0)||decide ((l.getD i Uz).1<(l.getD (Gw l p i).toNat Uz).1)) then(i:Int) else Gw l p i
theorem VX (l:Z IV)(p:bQ):∀i,Gw l p i= -1\/∃n:Nat,Gw l p i=(n:Int)/\n<i
 |0=> .inl rfl
 |i+1=>by rw[Gw];cases Nd (l.getD i Uz) p&&(ay (Gw l p i<0)||decide ((l.getD i Uz).1<(l.getD (Gw l p i).toNat Uz).1))with|true=>grind|false=>rcases VX l p i with h|⟨n,h,hn⟩;all_goals grind
theorem ZG l p i c(a:Int×Int->aS R): (U (cond (Nd l[i] p) (cond (ay (Gw l p i<0)) (I O) (U (idx l (Gw l p i)) λd=>I (ay (l[i].1<d.1)))) (I G)) λq5=>cond q5 (a ((i:Int),((i+1:Nat):Int))) (a (Gw l p i,((i+1:Nat):Int))))=a (Gw l p (i+1),((i+1:Nat):Int)):=by rw[Gw,cU c];cases Nd l[i] p;rfl;rcases VX l p i with h|⟨n,h,hn⟩;rw[h];rfl;have b:n<l.length:=J;rw[h,aw (J:¬(n:Int)<0),aP b];simp only[ae,ab,aa,au,cU b,bg,cq];cases decide (l[i].1<l[n].1)<;>rfl
def MM l p:=bif Gl l then Gw l p l.length else-1
theorem Wv l p(h:MM l p>=0):∃n:Nat,MM l p=(n:Int)/\n<l.length:=by unfold MM at h⊢;cases a:Gl l with|false=>grind|true=>rw[a]at h;simp only[ae]at h⊢;rcases VX l p l.length with g|g;omega;exact g
theorem ami l p(h:l.length<=10^9):E3 l p=I (MM l p):=by unfold E3 MM;rw[aap l h,aa];cases Gl l;rfl;simp only[ak,ab,ae];refine bJ (λi=>(Gw l p i,(i:Int))) l.length J (λi b a=>?_) (λb=>?_);simp only[yz];rw[iG,aP a,aj (n:=(i:Int)+1) J J];simp only[ae,aa,amm];exact ZG l p i a b;simp only[yz];rw[ga];rfl
theorem anQ l p(h:l.length<=10^9):Ft l p=I (MM l p):=by
 have e:=dB;unfold Ft MM;cases b:Gl l with
 |false=>
  obtain⟨f,d⟩:∃f,fuel=f+1:=⟨fuel-1,J⟩
  rw[d,aQ];simp only[tA,Oy l h,b,aa];cases decide ((0:Int)<(l.length:Int))<;>rfl
 |true=>simp only[ae];refine bJ (λi=>(Gw l p i,(i:Int))) l.length J (λi c a=>?_) (λc=>?_);simp only[tA,Oy l h,b];rw[iG,aP a,aj (n:=(i:Int)+1) J J];simp only[ae,aa,anR];exact ZG l p i a c;simp only[tA];rw[ga];rfl
def fI (p:bQ):=(p.2.2.2.2.2.2.2.2.1,p.2.2.2.2.2.2.1,p.2.2.2.2.2.2.2.1,p.2.2.2.2.2.2.2.2.2.1,p.2.2.2.2.2.2.2.2.2.2.1)
theorem W1 p:Cc p=I (fI p):=rfl
theorem RT p:yd p=I (fI p):=rfl
def auW:Slot:=(0,(0,0,0,0,0),0)
def ji s q p:=
 bif !fK s q|| !di p then-1 else
 bif decide (MM s.1 p>=0) then(bif (s.1.getD (MM s.1 p).toNat Uz).2.2.2.2.2.2.2.1==1 then-1 else(s.1.getD (MM s.1 p).toNat Uz).2.2.2.2.2.2.2.2) else
 bif decide (findF s.2.1 (fI p)>=0) then(s.2.1.getD (findF s.2.1 (fI p)).toNat auW).2.2 else OB s.2.2 q (fI p)
theorem amv s q p(a:s.1.length<=10^9)(b:s.2.1.length<=10^9)(c:s.2.2.2.length<=10^9):yJ s q p=I (ji s q p):=by unfold yJ ji;rw[Lj s q a b c,aa,pX,aa];cases fK s q;rfl;cases di p;rfl;simp only[ak,ab,aa,bL,ami s.1 p a,W1,acs s.2.1 _ b,ae2 s.2.2 q _ c];grind[Wv,aP,aa,Wu]
theorem abm s q p(a:s.1.length<=10^9)(c:s.2.1.length<=10^9)(b:s.2.2.2.length<=10^9):tO s q p=I (ji s q p):=by unfold tO ji;rw[Ds s q a c b,aa,tp,aa];cases fK s q;rfl;cases di p;rfl;simp only[ak,ab,aa,bL,anQ s.1 p a,RT,ac7 s.2.1 _,agv s.2.2 q _ b];grind[Wv,aP,aa,Wu]
theorem jk a(h:a.length<=1073741824:=by omega):eO a=I a:=by simp_all[eO,jU,aU]
theorem kG a(h:a.length<=1073741824:=by omega):eZ a=I a:=by grind[eZ,aU]
def Wm (a b:α):= @decide (a=b) (Classical.propDecidable _)
theorem K5 {a b:α}:Wm a b=O↔a=b:=by grind[Wm]
theorem ahz {a b:α}{x}(h:x=O↔a=b):x=Wm a b:=by grind[K5]
theorem aAP [BEq α][LawfulBEq α](a b:α):(a==b)=Wm a b:=ahz bw
theorem MI {a b:α}(h:a=b):Wm a b=true:=K5.2 h
theorem ZU {a b:α}(h:¬a=b):Wm a b=false:=by grind[K5]
theorem ad1 {T}{fin hit:aS R}(p:α->α->Bool)(j:∀x y,p x y=O↔x=y)(a b:Z α)(f:a.length=b.length)(h:a.length<=10^9)(hs:∀i (c:i<a.length) d,T d (i:Int)=cond (!(p a[i] (b[i]'(f▸c)))) hit (d ((i+1:Nat):Int)))(g:∀d,T d (a.length:Int)=fin): aQ T fuel 0=cond (Wm a b) fin hit:=by
 have e:∀i,i<a.length->i<b.length:=λi c=>f▸c;rw[iK (fin:=fin) (hit:=hit) (λi=>Wm a[i]? b[i]?) a.length J ?hs g]
 case hs=>
  intro i d c
  rw[hs i c,ah c,ah (e i c)]
  have:p a[i] (b[i]'(e i c))=Wm (I a[i]) (I (b[i]'(e i c))):=ahz (by rw[j,bI])
  rw[this]
 congr 1;apply ahz;rw[aL];constructor;intro k;apply dK;intro i;by_cases c:i<a.length;exact K5.1 (k i (bK.2 c));rw[cn J,cn J];rintro rfl i _;exact MI rfl
theorem akd {T}(p:α->α->Bool)(k:∀x y,p x y=O↔x=y)(a b:Z α)(h:a.length<=10^9)(l:a.length=b.length->∀i (f:i<a.length)(j:i<b.length) c,T c (i:Int)=cond (!(p a[i] b[i])) (I G) (c ((i+1:Nat):Int)))(g:∀c,T c (a.length:Int)=I O): cond ((a.length:Int) !=(b.length:Int)) (I G) (aQ T fuel 0)=I (Wm a b):=by by_cases d:a.length=b.length;rw[ad1 p k a b d h (λi f c=>l d i f (d▸f) c) g];rw[show((a.length:Int) !=(b.length:Int))=G by simp[d]];cases Wm a b<;>rfl;rw[ZU (λe=>d (by rw[e]))];rw[show((a.length:Int) !=(b.length:Int))=O by simp;omega];rfl
theorem apH a b(h:a.length<=10^9):yX a b=I (Wm a b):=by unfold yX;refine akd (λx y=>x==y) (λx y=>bw) a b h (λf i d c e=>?_) (λe=>?_);simp only[rT];rw[iG,aP d,aP c,aj J J];rfl;simp only[rT];rw[ga];rfl
theorem Lh a b(h:a.2.2.length<=10^9):vB a b=I (Wm a b):=by grind[vB,apH,aa,aAP]
theorem pW l(h:l.length<=10^9):jU l=I l:=by grind[jU,fi]
theorem sC f(h:f.2.2.length<=10^9):gF f=I f:=by grind[gF,qj,aa]
theorem jJ f(h:f.2.2.length<=10^9):gP f=I f:=by simp only[gP,fi h,bF]
theorem Gk l(h:l.length<=10^9:=by omega):oF l=I l:=by grind[oF,fi]
theorem YY t(h:t.length<=10^9):C7 t=I t:=by grind[C7,fi]
theorem W0 s(h:s.2.length<=10^9):Bd s=I s:=by grind[Bd,qj,aa]
theorem YX s(a:s.1.length<=10^9)(b:s.2.1.length<=10^9)(c:s.2.2.2.length<=10^9):wX s=I s:=by simp only[wX,fi a,YY _ b,W0 _ c,aa,bF]
theorem Zm t(h:t.length<=10^9):Hr t=I t:=by grind[Hr,fi]
theorem AA s(a:s.1.length<=10^9)(b:s.2.1.length<=10^9)(c:s.2.2.2.length<=10^9):vd s=I s:=by simp only[vd,fi a,Zm _ b,fi c,aa,bF]
theorem abc (l:Z xw)i a:l.take i++[(l[i].1,l[i].2.1,l[i].2.2)]=l.take (i+1):=(aM a).symm
theorem QS l(h:l.length<=10^9)(b:∀x∈l,x.2.2.length<=10^9):Av l=I l:=by unfold Av;refine(bJ (λi=>(l.take i,(i:Int))) l.length J (λi c a=>?_) (λc=>?_));simp only[yT];rw[iG,aP a,aj J J];simp only[ae,aa,qj _ (b _ (az a))];rw[aU (by simp;omega),abc l i a];rfl;simp only[yT];rw[ga,bB];rfl
structure ag4 (t:eT):Prop where
 p:t.2.1.2.2.2.length<=10^9
 w:t.2.2.1.length<=10^9
 x:∀x∈t.2.2.1,x.2.2.length<=10^9
theorem PY t(z:ag4 t):xK t=I t:=by simp only[xK,B7 _ z.p,QS _ z.w z.x,aa]
theorem Iz t(z:ag4 t):mI t=I t:=by have h:=z.w;unfold mI;simp only[Et _ z.p,aa];refine(bJ (λi=>((i:Int),t.1,t.2.1,t.2.2.1.take i,t.2.2.2)) t.2.2.1.length J (λi b a=>?_) (λb=>?_));simp only[Bw];rw[iG,aP a,aj J J];simp only[ae,aa,fi (z.x _ (az a)),bF];rw[aU (by simp;omega),abc _ i a];rfl;simp only[Bw];rw[ga,bB];rfl
theorem as2 (z:cJ 1000000000 fC h):ag4 h.2.2.1:=⟨z.2.2.1.2.1.2.2.2.1,z.2.2.1.2.2.1.1,λx a=>(z.2.2.1.2.2.1.2 x a).2.2.1⟩
theorem mu (h:Host)(z:cJ 1000000000 fC h):jM h=I h:=by have d:h.2.2.2.2.1.length<=10^9:=z.2.2.2.2.1.1;have c:h.1.length<=10^9:=z.1.1;unfold jM;simp only[jk _ (J:h.1.length<=1073741824),C6,fi z.2.1.1,PY _ (as2 z),fi z.2.2.2.1.1,aa,bF];refine(bJ (λi=>((i:Int),h.1,h.2.1,h.2.2.1,h.2.2.2.1,h.2.2.2.2.1.take i,h.2.2.2.2.2)) h.2.2.2.2.1.length J (λi b a=>?_) (λb=>?_));simp only[yS];rw[iG,aP a,aj J J];simp only[ae,aa,B7 _ (z.2.2.2.2.1.2 _ (az a)).2.2.2.1];rw[aU (by simp;omega),<-aM a];rfl;simp only[yS];rw[ga,bB];simp only[ab,fi z.2.2.2.2.2.1.1,fi z.2.2.2.2.2.2.1.1,sC _ z.2.2.2.2.2.2.2.1.2.2.1,YX _ z.2.2.2.2.2.2.2.2.1.1.1 z.2.2.2.2.2.2.2.2.1.2.1.1 z.2.2.2.2.2.2.2.2.1.2.2.2.1,Gk _ z.2.2.2.2.2.2.2.2.2.1.1,pW _ z.2.2.2.2.2.2.2.2.2.2.2.1.1,qj _ z.2.2.2.2.2.2.2.2.2.2.2.2.1.1,qj _ z.2.2.2.2.2.2.2.2.2.2.2.2.2.1.1,aa,bF]
theorem mF (h:Host)(z:cJ 1000000000 fC h):kD h=I h:=by have d:h.2.2.2.2.1.length<=10^9:=z.2.2.2.2.1.1;have c:h.1.length<=10^9:=z.1.1;unfold kD;simp only[kG _ (J:h.1.length<=1073741824),fi z.2.1.1,Iz _ (as2 z),fi z.2.2.2.1.1,aa,bF];refine(bJ (λi=>((i:Int),h.1,h.2.1,h.2.2.1,h.2.2.2.1,h.2.2.2.2.1.take i,h.2.2.2.2.2)) h.2.2.2.2.1.length J (λi b a=>?_) (λb=>?_));simp only[BA];rw[iG,aP a,aj J J];simp only[ae,aa,Et _ (z.2.2.2.2.1.2 _ (az a)).2.2.2.1];rw[aU (by simp;omega),<-aM a];rfl;simp only[BA];rw[ga,bB];simp only[ab,fi z.2.2.2.2.2.1.1,fi z.2.2.2.2.2.2.1.1,jJ _ z.2.2.2.2.2.2.2.1.2.2.1,AA _ z.2.2.2.2.2.2.2.2.1.1.1 z.2.2.2.2.2.2.2.2.1.2.1.1 z.2.2.2.2.2.2.2.2.1.2.2.2.1,fi z.2.2.2.2.2.2.2.2.2.1.1,fi z.2.2.2.2.2.2.2.2.2.2.2.1.1,fi z.2.2.2.2.2.2.2.2.2.2.2.2.1.1,fi z.2.2.2.2.2.2.2.2.2.2.2.2.2.1.1,aa,bF]
theorem aka:∀l:Z xw,(bM l).length<=szC (.sl VO) l
 |[]=>by simp[bM]
 |x::l=>by have:=aka l;grind[bM,szC]
def aqM:JE:=((0,G,([]:dw)),(([]:Z IV),([]:Z Slot),([]:Bytes),([]:dw)),0,([]:Z Stream),([]:cL))
def KM (h:Host):JE:=bif eJ h then(h.2.2.2.2.2.2.2.1,h.2.2.2.2.2.2.2.2.1,(h.2.2.2.1.length:Int),h.2.2.2.2.2.2.2.2.2.1,([]:cL)) else aqM
theorem ajx (h:Host)(z:cJ 1000000000 fC h)(k:KX h):Jy h=I (KM h):=by simp only[Jy,vI h k,aa,KM];cases eJ h with|false=>rfl|true=>simp only[ak,ab,ae,jJ _ z.2.2.2.2.2.2.2.1.2.2.1,AA _ z.2.2.2.2.2.2.2.2.1.1.1 z.2.2.2.2.2.2.2.2.1.2.1.1 z.2.2.2.2.2.2.2.2.1.2.2.2.1,fi z.2.2.2.2.2.2.2.2.2.1.1,aa,bF]
theorem anK (h:Host){n}(z:cJ n fC h):cJ n Mv (KM h):=by unfold KM;cases eJ h with|false=>exact⟨⟨B,B,cg _,λ_ h=>nomatch h⟩,⟨⟨cg _,λ_ h=>nomatch h⟩,⟨cg _,λ_ h=>nomatch h⟩,cg _,cg _,λ_ h=>nomatch h⟩,B,⟨cg _,λ_ h=>nomatch h⟩,cg _,λ_ h=>nomatch h⟩|true=>exact⟨z.2.2.2.2.2.2.2.1,z.2.2.2.2.2.2.2.2.1,B,z.2.2.2.2.2.2.2.2.2.1,cg _,λ_ h=>nomatch h⟩
noncomputable def Mh (s:JE):=gu s.1&&fK s.2.1 s.2.2.1
theorem agu s(a:s.1.2.2.length<=10^9)(b:s.2.1.1.length<=10^9)(c:s.2.1.2.1.length<=10^9)(d:s.2.1.2.2.2.length<=10^9):Ga s=I (Mh s):=by grind[Ga,Mh,re,Ds,aa]
theorem apT s(a:s.1.2.2.length<=10^9)(b:s.2.1.1.length<=10^9)(c:s.2.1.2.1.length<=10^9)(d:s.2.1.2.2.2.length<=10^9):Jh s=I (Mh s):=by grind[Jh,Mh,uk,Lj,aa]
def atF (f:ON)(s:Stream):=decide (s.1=f)
def R7 (l:Z Stream)(f:ON):Int:=match l.findIdx? (atF f)with|some i=>(i:Int)|none=> -1
theorem agx l(f:ON)(h:l.length<=10^9):tP l f=I (R7 l f):=by unfold tP R7;rw[HE (p:=atF f) (hit:=λi=>I i) (fin:=some (-1)) l J (λi c a=>?d) (λa=>?b)];all_goals grind[Ad,aP,aj,aa,atF]
theorem ae4 l(f:ON)(h:l.length<=10^9):kK l f=I (R7 l f):=by unfold kK R7;rw[HE (p:=atF f) (hit:=λi=>I i) (fin:=some (-1)) l J (λi c a=>?d) (λa=>?b)];all_goals grind[nI,aP,aj,aa,atF]
def adk:Stream:=((0,0,0,0,0),0,([]:Bytes),G)
def body (p:bQ):=p.2.2.2.2.2.2.2.2.2.2.2.2.2.2.2
def udp p:=aG ((body p).length:Int)++body p
def nS (p:bQ)b:=V (toNat (ie p.2.2.2.2.2.2.2.2.2.2.2.2.2.1&&&ie b)) !=0
def fX (s:Stream)(p:bQ):=(s.2.1-p.2.2.2.2.2.2.2.2.2.2.2.1)%4294967296
def Zv (s:Stream)(p:bQ):Stream:=(s.1,(s.2.1+((body p).length:Int)-fX s p)%4294967296,s.2.2.1++(body p).drop (fX s p).toNat,nS p 1)
def jX (l:Z Stream)p:=
 bif !di p then l else
 match l.findIdx? (atF (fI p))with
 |none=>
  bif p.2.2.2.2.2.2.2.2.1==17 then l++[(fI p,0,udp p,G)] else
  bif nS p 2 then l++[(fI p,tmod (V (p.2.2.2.2.2.2.2.2.2.2.2.1+1)) 4294967296,([]:Bytes),G)] else l
 |some i=>
  bif p.2.2.2.2.2.2.2.2.1==17 then l.set i ((l.getD i adk).1,(l.getD i adk).2.1,(l.getD i adk).2.2.1++udp p,(l.getD i adk).2.2.2) else
  bif nS p 2 then l else
  bif (l.getD i adk).2.2.2||nS p 4 then l else
  bif decide (fX (l.getD i adk) p<=((body p).length:Int)) then l.set i (Zv (l.getD i adk) p) else l
theorem VU s p:0<=fX s p/\fX s p<4294967296:=by unfold fX;omega
theorem ap6 x:V (toNat (ie x&&&ie 4294967295))=x%4294967296:=by have:=Ka x 32;grind[aj]
theorem arj x:V x%4294967296=x%4294967296:=by have:=KV x 32;omega
theorem RJ l(x y:α):(l++[x]).set l.length y=l++[y]:=by grind
theorem akm {l:Z α}{i}(h:i<l.length)x:idx (l.set i x) (i:Int)=I x:=by rw[Oa,bn h]
theorem GR l(x:α):idx (l++[x]) (l.length:Int)=I x:=by grind[Oa]
theorem V2 (h:di p=O):(body p).length<=320:=ES h
theorem acp (l:Z Stream)p(h:cJ 900000000 (.sl mV) l):GW l p=I (jX l p):=by
 have g:l.length<=900000000:=h.1;unfold GW jX;simp only[Gk l,pX,aa,W1,ae4 l _ (J:l.length<=10^9),oR];cases hs:di p;rfl;have e:=V2 hs;have j:=cj ((body p).length:Int);simp only[ak,ab];rw[show p.2.2.2.2.2.2.2.2.2.2.2.2.2.2.2=body p from rfl];cases hf:l.findIdx? (atF (fI p))with
 |none=>
  have b:R7 l (fI p)= -1:=by rw[R7,hf]
  simp only[b,show decide ((-1:Int)<0)=O from rfl,ae];cases p.2.2.2.2.2.2.2.2.1==17 with|true=>simp only[ae];rw[aU (by simp;omega),GR,aa];simp only;rw[aU J,aU (by simp only[aq,fF];omega),aa,au];simp only[aa,GR,RJ,bF];rfl|false=>simp only[ab];rw[show(V (toNat (ie p.2.2.2.2.2.2.2.2.2.2.2.2.2.1&&&ie 2)) !=0)=nS p 2 from rfl];cases nS p 2 with|true=>simp only[ae];rw[nQ,aU (by simp;omega)]|false=>rfl
 |some i=>
  obtain⟨a,_⟩:=List.findIdx?_eq_some_iff_getElem.1 hf;have f:(l[i].2.2.1).length<=900000000:=(h.2 _ (az a)).2.2.1;have b:R7 l (fI p)=(i:Int):=by rw[R7,hf]
  simp only[b,aw (J:¬(i:Int)<0),ab,aP a,aa,cU a,au];cases p.2.2.2.2.2.2.2.2.1==17 with
  |true=>simp only[ae];rw[aU J,aU (by simp only[aq];omega)];rfl
  |false=>
   simp only[ab];rw[show(V (toNat (ie p.2.2.2.2.2.2.2.2.2.2.2.2.2.1&&&ie 2)) !=0)=nS p 2 from rfl,show(V (toNat (ie p.2.2.2.2.2.2.2.2.2.2.2.2.2.1&&&ie 4)) !=0)=nS p 4 from rfl,show(V (toNat (ie p.2.2.2.2.2.2.2.2.2.2.2.2.2.1&&&ie 1)) !=0)=nS p 1 from rfl];cases nS p 2;case true=>rfl
   simp only[ab];rw[show(U (cond l[i].2.2.2 (I O) (I (nS p 4))):(Bool->aS (Z Stream))->aS (Z Stream))=λK=>K (l[i].2.2.2||nS p 4) from by funext K;cases l[i].2.2.2<;>rfl];simp only;cases l[i].2.2.2||nS p 4;case true=>rfl
   simp only[ab,S9 _ 4294967296,aa,arj];rw[show(l[i].2.1-p.2.2.2.2.2.2.2.2.2.2.2.1)%4294967296=fX l[i] p from rfl];have d:=VU l[i] p;by_cases c:fX l[i] p<=((body p).length:Int)
   rw[ax c,zV (l:=body p) (fX l[i] p).toNat];simp only[ae,aa];rw[aU (by rw[bA];omega)];simp only[akm a,aa,List.set_set];refine congrArg I (congrArg (l.set i) ?_);simp only[Zv];rw[show(V (l[i].2.1+((body p).length:Int))-fX l[i] p)%4294967296=(l[i].2.1+((body p).length:Int)-fX l[i] p)%4294967296 from by rw[Int.sub_emod,arj,<-Int.sub_emod]];rw[aw c];rfl
theorem RO (l:Z Stream)p(h:cJ 900000000 (.sl mV) l):zd l p=I (jX l p):=by
 have j:l.length<=900000000:=h.1;unfold zd jX;rw[fi J];simp only[bF,tp,aa,RT,agx l _ (J:l.length<=10^9),kg];cases hs:di p;rfl;have f:=V2 hs;have k:=cj ((body p).length:Int);simp only[ak,ab];rw[show p.2.2.2.2.2.2.2.2.2.2.2.2.2.2.2=body p from rfl];cases hf:l.findIdx? (atF (fI p))with
 |none=>
  have b:R7 l (fI p)= -1:=by rw[R7,hf]
  simp only[b,show decide ((-1:Int)<0)=O from rfl,ae];cases p.2.2.2.2.2.2.2.2.1==17 with|true=>simp only[ae];rw[aU (by simp;omega),GR,aa];simp only;rw[aU (by simp only[fF];omega),aU (by simp only[aq,fF];omega),aa,au];simp only[aa,GR,RJ,bF];rfl|false=>simp only[ab];rw[show(V (toNat (ie p.2.2.2.2.2.2.2.2.2.2.2.2.2.1&&&ie 2)) !=0)=nS p 2 from rfl];cases nS p 2 with|true=>simp only[ae];rw[nQ,aU (by simp;omega)]|false=>rfl
 |some i=>
  obtain⟨a,_⟩:=List.findIdx?_eq_some_iff_getElem.1 hf;have g:(l[i].2.2.1).length<=900000000:=(h.2 _ (az a)).2.2.1;have b:R7 l (fI p)=(i:Int):=by rw[R7,hf]
  simp only[b,aw (J:¬(i:Int)<0),ab,aP a,aa,cU a,au];cases p.2.2.2.2.2.2.2.2.1==17 with
  |true=>simp only[ae];rw[aU J,aU (by simp only[aq];omega),aH];rfl
  |false=>
   simp only[ab];rw[show(V (toNat (ie p.2.2.2.2.2.2.2.2.2.2.2.2.2.1&&&ie 2)) !=0)=nS p 2 from rfl,show(V (toNat (ie p.2.2.2.2.2.2.2.2.2.2.2.2.2.1&&&ie 4)) !=0)=nS p 4 from rfl,show(V (toNat (ie p.2.2.2.2.2.2.2.2.2.2.2.2.2.1&&&ie 1)) !=0)=nS p 1 from rfl];cases nS p 2;case true=>rfl
   simp only[ab];rw[show(U (cond l[i].2.2.2 (I O) (I (nS p 4))):(Bool->aS (Z Stream))->aS (Z Stream))=λK=>K (l[i].2.2.2||nS p 4) from by funext K;cases l[i].2.2.2<;>rfl];simp only;cases l[i].2.2.2||nS p 4;case true=>rfl
   simp only[ab,ap6,aa,arj];rw[show(l[i].2.1-p.2.2.2.2.2.2.2.2.2.2.2.1)%4294967296=fX l[i] p from rfl];have d:=VU l[i] p;by_cases c:fX l[i] p<=((body p).length:Int)
   rw[ax c,zV (l:=body p) (fX l[i] p).toNat];simp only[ae,aa];rw[aU (by rw[bA];omega)];simp only[akm a,aa,List.set_set,aK (J:¬(4294967296:Nat)=0)];refine congrArg I (congrArg (l.set i) ?_);simp only[Zv];have e:tmod (V (V (l[i].2.1%4294967296+((body p).length:Int))-fX l[i] p)) 4294967296=(l[i].2.1+((body p).length:Int)-fX l[i] p)%4294967296:=by rw[aj (n:=l[i].2.1%4294967296+((body p).length:Int)) J J,aj J J,fD J];omega
   rw[e];rw[aw c];rfl
theorem age (l:Z Stream)p(h:cJ 100000000 (.sl mV) l):zd l p=I (jX l p):=RO l p (h.mono)
theorem QB {l:Z Stream}{n}(h:cJ n (.sl mV) l):cJ (n+322) (.sl mV) (jX l p):=by
 have a:cJ (n+322) (.sl mV) l:=h.mono;unfold jX;cases hs:di p;exact a;have e:=V2 hs;have k:=cj ((body p).length:Int);have j:(udp p).length<=322:=by simp only[udp,aq];omega
 simp only[ak,ab];have app:∀x:Stream,x.2.2.1.length<=n+322->cJ (n+322) (.sl mV) (l++[x]):=by intro x b;refine⟨?_,λy c=>?_⟩;have:l.length<=n:=h.1;simp only[aq,aO];omega;rcases aB.1 c with g|g;exact a.2 y g;rw[aY.1 g];exact⟨⟨B,B,B,B,B⟩,B,b,B⟩
 have put:∀(i:Nat)(x:Stream),x.2.2.1.length<=n+322->cJ (n+322) (.sl mV) (l.set i x):=by intro i x b;refine⟨?_,λy c=>?_⟩;show(l.set i x).length<=_;rw[aC];exact a.1;rcases cG c with g|rfl;exact a.2 y g;exact⟨⟨B,B,B,B,B⟩,B,b,B⟩
 split;cases p.2.2.2.2.2.2.2.2.1==17 with|true=>exact app _ (J:(udp p).length<=_)|false=>cases nS p 2 with|true=>exact app _ (cg _)|false=>exact a
 ·rename_i i hf;obtain⟨d,_⟩:=List.findIdx?_eq_some_iff_getElem.1 hf;have f:(l[i].2.2.1).length<=n:=(h.2 _ (az d)).2.2.1;simp only[cU d];cases p.2.2.2.2.2.2.2.2.1==17 with
  |true=>exact put _ _ (by simp only[aq];omega)
  |false=>
   cases nS p 2;case true=>exact a
   cases l[i].2.2.2||nS p 4;case true=>exact a
   cases decide (fX l[i] p<=((body p).length:Int))with|false=>exact a|true=>exact put _ _ (by simp only[Zv,aq,bA];omega)
theorem RN (s:JE)(z:cJ 1000000000 Mv s):DU s=I s:=by simp only[DU,jJ _ z.1.2.2.1,AA _ z.2.1.1.1 z.2.1.2.1.1 z.2.1.2.2.2.1,fi z.2.2.2.1.1,fi z.2.2.2.2.1,aa,bF]
def Yu s x:=Mh s&&(((cM x).2==0)&&(kJ s.1 (cM x).1&&(ji s.2.1 s.2.2.1 (cM x).1 != -1)))
def Is (s:JE)(x:Bytes):JE:=bif Yu s x then(s.1,s.2.1,s.2.2.1,jX s.2.2.2.1 (cM x).1,s.2.2.2.2) else s
theorem ags (s:JE)x(z:cJ 100000000 Mv s)(h:x.length<=10^9):zE s x=I (Is s x):=by have a:cJ 1000000000 Mv s:=z.mono;unfold zE Is Yu;simp only[RN s a,EI x h,agu s a.1.2.2.1 a.2.1.1.1 a.2.1.2.1.1 a.2.1.2.2.2.1,UC s.1 _ a.1.2.2.1,abm s.2.1 _ _ a.2.1.1.1 a.2.1.2.1.1 a.2.1.2.2.2.1,age s.2.2.2.1 _ z.2.2.2.1,aa];cases Mh s<;>cases (cM x).2==0<;>cases kJ s.1 (cM x).1<;>cases ji s.2.1 s.2.2.1 (cM x).1 != -1<;>rfl
theorem acT {s:JE}{n}(z:cJ n Mv s):cJ (n+322) Mv (Is s x):=by have a:cJ (n+322) Mv s:=z.mono;unfold Is;cases Yu s x with|false=>exact a|true=>exact⟨a.1,a.2.1,B,QB z.2.2.2.1,a.2.2.2.2⟩
theorem lK {y i}(h:i<x.length):cr (x++y) i=cr x i:=by grind[cr]
theorem xA {y i}(h:x.length<=i):cr (x++y) i=cr y (i-x.length):=by grind[cr]
theorem adP {i n}(h:i<n):cr (x.take n) i=cr x i:=by grind[cr]
theorem ud {i n}:cr (x.drop n) i=cr x (n+i):=by grind[cr]
theorem akO {p}{a i:Nat}(h:i<a\/a+p.length<=i):cr (wC s (a:Int) p) i=cr s i:=by
 unfold wC gG;by_cases b:(0:Int)<=a/\(a:Int)+(p.length:Int)<=(s.length:Int)
 rw[ax b,ae,au];have c:(s.take a).length=a:=by rw[bp];omega
 rcases h with h|h;rw[lK (by rw[aq];omega),lK J,adP h];rw[xA (by rw[aq];omega),ud,aq,c];congr 1;omega;rw[aw b];rfl
theorem akN {p}{a j:Nat}(c:a+p.length<=s.length)(b:j<p.length):cr (wC s (a:Int) p) (a+j)=cr p j:=by unfold wC gG;rw[ax ⟨J,J⟩,ae,au];grind[lK,xA]
theorem Ek {a:Nat}:dg s (a:Int)=bif decide (a+2<=s.length) then((cr s a*256+cr s (a+1):Nat):Int) else-1:=by grind[dg,gG]
theorem MT {a}(d:s.length=t.length)(b:cr s a=cr t a)(c:cr s (a+1)=cr t (a+1)):dg s (a:Int)=dg t (a:Int):=by grind[Ek]
theorem PR {a:Nat}:dg (s.drop k) (a:Int)=dg s ((k+a:Nat):Int):=by rw[Ek,Ek,ud,ud,bA,(J:k+(a+1)=k+a+1),show decide (a+2<=s.length-k)=decide (k+a+2<=s.length) from decide_eq_decide.2 J]
theorem N6 {a:Nat}:eK s (a:Int)=bif decide (a+4<=s.length) then(((cr s a*256+cr s (a+1))*65536+(cr s (a+2)*256+cr s (a+3)):Nat):Int) else-1:=by grind[eK,gG]
theorem WH {a:Nat}:eK (s.drop k) (a:Int)=eK s ((k+a:Nat):Int):=by rw[N6,N6,ud,ud,ud,ud,bA,(J:k+(a+1)=k+a+1),(J:k+(a+2)=k+a+2),(J:k+(a+3)=k+a+3),show decide (a+4<=s.length-k)=decide (k+a+4<=s.length) from decide_eq_decide.2 J]
theorem ael {a}(b:s.length=t.length)(h:∀j,j<4->cr s (a+j)=cr t (a+j)):eK s (a:Int)=eK t (a:Int):=by rw[N6,N6,b,show cr s a=cr t a from h 0 J,h 1 J,h 2 J,h 3 J]
def cW s:=bif dg s 12==33024 then 18 else 14
def kW s:=cr s (cW s+9)
def Vg (k:Nat):=bif (k:Int)==6 then 16 else 6
def AN s:=cW s+10
def vX s:=cW s+20+Vg (kW s)
theorem LP k:Vg k=16/\k=6\/Vg k=6/\k≠6:=by grind[Vg]
theorem Qt s:cW s=18/\(dg s 12==33024)=O\/cW s=14/\(dg s 12==33024)=false:=by grind[cW]
theorem SX (k:Nat)(h:k<256):ix (k:Int)=I (Vg k:Int):=by grind[ix,Vg]
theorem Q1 s(h:s.length<=10^9):xQ s=I ((AN s:Int),(vX s:Int)):=by
 unfold xQ;rw[Em s 12 h,aa];have f:=gT s (cW s+9)
 have core:∀o:Nat,cW s=o->(o=18\/o=14)->(bif decide (V ((o:Int)+9)<(s.length:Int)) then
  U (idx s (V ((o:Int)+9))) λm=>U (ix (V ((UInt8.toNat m:Int)))) λk=>I (V ((o:Int)+10),V ((V ((o:Int)+20))+k))
  else U (ix 0) λl=>I (V ((o:Int)+10),V ((V ((o:Int)+20))+l)))=I ((AN s:Int),(vX s:Int)):=by
  intro o a b
  have p:=LP (kW s)
  rw[aj (n:=(o:Int)+9) J J,aj (n:=(o:Int)+10) J J,aj (n:=(o:Int)+20) J J]
  unfold AN vX
  rw[a]
  by_cases g:o+9<s.length
  ·obtain⟨x,i,d⟩:=nH g
   rw[iG,ae,(J:(o:Int)+9=((o+9:Nat):Int)),i,aa,d,jf (by rw[<-a];omega),SX _ (by rw[<-a];exact f),aa,show cr s (o+9)=kW s by unfold kW;rw[a],aj J J]
   congr 1
  ·have j:kW s=0:=by unfold kW;rw[a];exact Pw
   have e:ix 0=I (Vg 0:Int):=SX 0 J
   rw[ga,ab,e,aa,<-j,aj J J]
   congr 1
 rcases Qt s with⟨c,b⟩|⟨c,b⟩;rw[b,ae];exact core 18 c (.inl rfl);rw[b,ab];exact core 14 c (.inr rfl)
theorem Yd s(h:s.length<=10^9):DR s=I (bif decide (s.length<cW s+46) then(-1, -1) else((AN s:Int),(vX s:Int))):=by
 unfold DR;rw[yY s 12 h,aa];have j:=gT s (cW s+9)
 have core:∀o:Nat,cW s=o->(o=18\/o=14)->(bif decide ((s.length:Int)<V ((o:Int)+46)) then I ((-1),(-1)) else
  U (idx s (V ((o:Int)+9))) λg=>bif (V ((UInt8.toNat g:Int)))==6 then I (V ((o:Int)+10),V ((o:Int)+36)) else I (V ((o:Int)+10),V ((o:Int)+26)))=I (bif decide (s.length<cW s+46) then(-1, -1) else((AN s:Int),(vX s:Int))):=by
  intro o b a
  rw[aj (n:=(o:Int)+9) J J,aj (n:=(o:Int)+10) J J,aj (n:=(o:Int)+46) J J,aj (n:=(o:Int)+36) J J,aj (n:=(o:Int)+26) J J,b]
  by_cases d:s.length<o+46
  ·rw[ax (J:(s.length:Int)<(o:Int)+46),ax d];rfl
  ·obtain⟨x,f,e⟩:=nH (s:=s) (i:=o+9)
   rw[aw (J:¬(s.length:Int)<(o:Int)+46),aw d,ab,ab,(J:(o:Int)+9=((o+9:Nat):Int)),f,aa,e,jf (by rw[<-b];omega),show cr s (o+9)=kW s by unfold kW;rw[b]]
   unfold AN vX Vg
   rw[b]
   cases (kW s:Int)==6 with
   |true=>simp only[ae];congr 2
   |false=>simp only[ab];congr 2
 rcases Qt s with⟨c,a⟩|⟨c,a⟩;rw[a,ae];exact core 18 c (.inl rfl);rw[a,ab];exact core 14 c (.inr rfl)
theorem akB (h:dF a 0 281474976710655=O):(Cq a).length=6:=by
 have b:=aR.1 h;have e:Cq a=aG (fdiv a (2^(tZ 32)))++cx (V (toNat (ie a&&&ie 4294967295))):=by grind[Cq,kC,kg,mc,aa,cj,eG,aU]
 grind[IntKind.bits,IT,L3,ap6,aR]
theorem Ua (h:di p=O):cW (dE p).1+46<=(dE p).1.length:=by
 have d:vn p=true:=by simp only[di,af]at h;exact h.1
 have l:=Rp (ipP p).1;have e:=El h;unfold dE alL YR at e⊢;rw[h,ae]at e⊢;cases k:BK (p.1,p.2.1,p.2.2.1,2048,pad (ipP p).1)with|false=>rw[k]at e;cases e|true=>?_
 simp only[ae];simp only[vn,af]at d;have g:=akB d.1;have i:=akB d.2.1;have m:=aR.1 d.2.2.1;have n:(aG 33024).length=2:=rfl;have q:(aG 2048).length=2:=rfl;generalize pad (ipP p).1=c at l⊢;unfold I8;simp only;generalize Cq p.1=b at g⊢;generalize Cq p.2.1=M2 at i⊢;by_cases j:p.2.2.1>=0;have o:(aG p.2.2.1).length=2:=by rw[IT,aR.2 J];rfl
 rw[ax j,ae];have f:cW (((((b++M2)++aG 33024)++aG p.2.2.1)++aG 2048)++c)=18:=by
  unfold cW;have a:dg (((((b++M2)++aG 33024)++aG p.2.2.1)++aG 2048)++c) ((12:Nat):Int)=33024:=by rw[Ek,ax (by simp only[aq];omega),ae];rw[lK (by simp only[aq];omega),lK (by simp only[aq];omega),lK (by simp only[aq];omega),xA (by simp only[aq];omega)];rw[lK (by simp only[aq];omega),lK (by simp only[aq];omega),lK (by simp only[aq];omega),xA (by simp only[aq];omega)];rw[aq,g,i];rfl
  rw[show(12:Int)=((12:Nat):Int) from rfl,a];rfl
 rw[f];simp only[aq];omega;rw[aw j,ab];have f:cW (((b++M2)++aG 2048)++c)=14:=by
  unfold cW;have a:dg (((b++M2)++aG 2048)++c) ((12:Nat):Int)=2048:=by rw[Ek,ax (by simp only[aq];omega),ae];rw[lK (by simp only[aq];omega),xA (by simp only[aq];omega)];rw[lK (by simp only[aq];omega),xA (by simp only[aq];omega)];rw[aq,g,i];rfl
  rw[show(12:Int)=((12:Nat):Int) from rfl,a];rfl
 rw[f];simp only[aq];omega
def qD t x y:=wC (wC t (AN t:Int) x) (vX t:Int) y
theorem Jr t x y:(qD t x y).length=t.length:=by grind[qD,Dq]
def iV p:=bif di p then(qD (dE p).1 (aG 0) (aG 0),O) else([],G)
theorem aeH (h:di p=G):dE p=([],G):=by grind[dE]
theorem aau p:qW p=I (iV p):=by have a:=pV p;have b:=cj 0;unfold qW iV qD;rw[Km,aa];cases h:di p with|false=>rw[aeH h];rfl|true=>rw[El h];simp only[ak,ab,ae,Q1 _ (J:(dE p).1.length<=10^9),aa,oR,Li _ _ _ (J:(dE p).1.length<=10^9) (J:(aG 0).length<=10^9),Li _ _ _ (show(wC (dE p).1 (AN (dE p).1:Int) (aG 0)).length<=10^9 by rw[Dq];omega) (J:(aG 0).length<=10^9)]
theorem abo p:rk p=I (iV p):=by have a:=pV p;unfold rk iV qD;rw[KO,aa];cases h:di p with|false=>rw[aeH h];rfl|true=>grind[Ua,El,Yd,aa,kg,Hf,aG,Dq]
def L6 s t:=s.length=t.length/\∀i,i<AN t\/(AN t+2<=i/\i<vX t)\/vX t+2<=i->cr s i=cr t i
theorem F4 t:(cW t=14\/cW t=18)/\AN t=cW t+10/\cW t+26<=vX t/\vX t<=cW t+36/\(vX t=cW t+36/\kW t=6\/vX t=cW t+26/\kW t≠6):=by grind[Qt,LP,AN,vX]
theorem O7 t{y}(b:x.length<=2)(c:y.length<=2):L6 (qD t x y) t:=by have:=F4 t;refine⟨Jr t x y,λi a=>?_⟩;grind[qD,akO]
theorem L6.body (h:L6 s t):cW s=cW t:=by have:=F4 t;unfold cW;have e:dg s ((12:Nat):Int)=dg t ((12:Nat):Int):=MT h.1 (h.2 _ J) (h.2 _ J);grind
theorem L6.kind (h:L6 s t):kW s=kW t:=by have:=F4 t;unfold kW;rw[h.body,h.2 _ J]
theorem L6.atW (h:L6 s t):AN s=AN t/\vX s=vX t:=by unfold AN vX;rw[h.body,h.kind];exact⟨rfl,rfl⟩
theorem L6.auK (h:L6 s t):dg s ((cW t+2:Nat):Int)=dg t ((cW t+2:Nat):Int):=by have:=F4 t;exact MT h.1 (h.2 _ J) (h.2 _ J)
structure TOk (t:Bytes):Prop where
 eth:(iq t).2=O
 bd:(iq t).1.2.2.2.2=t.drop (cW t)
 l1:cW t+46<=t.length
 n1:20+Vg (kW t)+2<=dg t ((cW t+2:Nat):Int)
 n2:dg t ((cW t+2:Nat):Int)<=(t.length:Int)-(cW t:Int)
theorem Tl (h:(iq s).2=O):(iq s).1.2.2.2.2=s.drop (cW s)/\18<=s.length/\46<=s.length-cW s/\s.length-cW s<=400:=by
 unfold iq at h⊢;by_cases d:(s.length:Int)<18;rw[ax d]at h;cases h;rw[aw d]at h⊢;simp only[ab]at h⊢;rcases Qt s with⟨b,c⟩|⟨b,c⟩;rw[c]at h⊢;simp only[ae]at h⊢;cases a:BK (SB s)with|false=>rw[a]at h;cases h|true=>rw[b];simp only[BK,af,aR,SB,bA]at a;simp only[ae,SB];refine⟨B,J,J,J⟩
 rw[c]at h⊢;simp only[ab]at h⊢;cases a:BK (HV s)with|false=>rw[a]at h;cases h|true=>rw[b];simp only[BK,af,aR,HV,bA]at a;simp only[ae,HV];refine⟨B,J,J,J⟩
theorem aqw (h:(xW s).2=0):(iq s).2=O/\(nY (iq s).1.2.2.2.2).2=O/\di (xW s).1=O/\ (th (nY (iq s).1.2.2.2.2).1.2.2.2.2.1 (nY (iq s).1.2.2.2.2).1.2.2.2.2.2.1 (nY (iq s).1.2.2.2.2).1.2.2.2.1 (nY (iq s).1.2.2.2.2).1.2.2.2.2.2.2).2=true:=by grind[xW]
theorem aqr {b}(h:(nY b).2=O):20<=dg b 2/\dg b 2<=(b.length:Int)/\(nY b).1=M9 b:=by grind[nY]
theorem anm {b k}(h:(th a b k s).2=O):k=6/\20<=s.length\/k=17/\8<=s.length:=by grind[th]
theorem alM (d:s.length=t.length)(h:∀i,i<18->cr s i=cr t i)(hs:(iq s).2=O):(iq t).2=true:=by
 have b:∀a,a+2<=18->dg s ((a:Nat):Int)=dg t ((a:Nat):Int):=λa e=>MT d (h _ J) (h _ J);have c:∀a,a+4<=18->eK s ((a:Nat):Int)=eK t ((a:Nat):Int):=λa e=>ael d (λj k=>h _ J);have f:GG s 0=GG t 0:=by unfold GG;rw[show(0:Int)=((0:Nat):Int) from rfl,b 0 J,show((0:Nat):Int)+2=((2:Nat):Int) from rfl,c 2 J]
 have g:GG s 6=GG t 6:=by unfold GG;rw[show(6:Int)=((6:Nat):Int) from rfl,b 6 J,show((6:Nat):Int)+2=((8:Nat):Int) from rfl,c 8 J]
 grind[dg,BK,SB,HV,iq]
theorem at2 (a:L6 s t)(h:(xW s).2=0):TOk t:=by
 have q:=F4 t;obtain⟨d,e,_,f⟩:=aqw h;have n:=Tl d;rw[n.1]at e f;have b:=aqr e;have g:=anm f;rw[b.2.2]at g;have c:(iq t).2=true:=alM a.1 (λi b=>a.2 i J) d;have j:=Tl c;have m:dg (s.drop (cW s)) 2=dg t ((cW t+2:Nat):Int):=by have:dg (s.drop (cW s)) ((2:Nat):Int)=dg s ((cW s+2:Nat):Int):=PR;rw[show(2:Int)=((2:Nat):Int) from rfl,this,a.body,a.auK]
 have l:(M9 (s.drop (cW s))).2.2.2.1=(kW t:Int):=by show(cr (s.drop (cW s)) 9:Int)=_;rw[ud,<-a.kind];rfl
 have k:(M9 (s.drop (cW s))).2.2.2.2.2.2.length=(dg t ((cW t+2:Nat):Int)).toNat-20:=by show(((s.drop (cW s)).take (dg (s.drop (cW s)) 2).toNat).drop 20).length=_;grind
 rw[l,k]at g;rw[m]at b;have o:=b.2.1;rw[bA,a.1,a.body]at o;have p:=LP (kW t);exact⟨c,j.1,J,J,J⟩
theorem aod (h:(iV p).1=t)(k:di p=O)(c:TOk t):dg t (AN t:Int)=0/\dg t (vX t:Int)=0:=by
 unfold iV at h;rw[k]at h;simp only[ae]at h;have u:(aG 0).length=2:=rfl;have b:L6 (qD (dE p).1 (aG 0) (aG 0)) (dE p).1:=O7 _ J J;rw[h]at b;have s:=F4 t;have a:=b.atW;have r:=c.l1;have f:=b.1;have g:=c.n1;have i:=c.n2;have q:=LP (kW t);have d:vX t+2<=t.length:=J;have l:cr (aG 0) 0=0:=rfl;have m:cr (aG 0) 1=0:=rfl;rw[Ek,Ek,iG,ax d,ae,ae];have o:∀j,j<2->cr t (vX t+j)=cr (aG 0) j:=by intro j e;rw[<-h];unfold qD;rw[show vX (wC (wC (dE p).1 (AN (dE p).1:Int) (aG 0)) (vX (dE p).1:Int) (aG 0))=vX (dE p).1 from by have:=a.2;rw[<-h]at this;exact this];simp_all[akN,Dq]
 have n:∀j,j<2->cr t (AN t+j)=cr (aG 0) j:=by intro j e;rw[<-h];unfold qD;rw[show AN (wC (wC (dE p).1 (AN (dE p).1:Int) (aG 0)) (vX (dE p).1:Int) (aG 0))=AN (dE p).1 from by have:=a.1;rw[<-h]at this;exact this];simp(disch:=omega)[akO,akN]
 grind
end
end Go.Pu
