import Derived.Test.YtfbhfnniblfpbaaGreatDnData
import Derived.Test.YtfbhfnniblfpbaaGreatPure
namespace Go.Pu
open Go.Dn
open List (range)
open BitVec (toNat)
open Int (tdiv fdiv tmod)
set_option linter.unusedSimpArgs false
set_option linter.unusedVariables false
noncomputable section
variable {s t x:Bytes} {h:Host} {f:Int->ax Int} {a c o:Nat} {p:aD} {R X α σ:Type} {l:au ay} {m:bD}
/- Plain laws of the partial operations and of loops. -/
theorem ai {n:Int}(h1: -9223372036854775808<=n)(h2:n<=9223372036854775807):ak n=n:=by grind[IntKind.wrap,IntKind.bits,IntKind.signed]
@[simp] theorem ab (a:α)(k:α->ax R):aa (some a) k=k a:=rfl
@[simp] theorem agU (k:α->ax R):aa none k=none:=rfl
@[simp] theorem acz (c:Bool)(x y:α)(k:α->ax R):aa (cond c (some x) (some y)) k=k (cond c x y):=by cases c<;>rfl
theorem cw (c:Bool)(x y:α):cond c (some x) (some y)=some (cond c x y):=by cases c<;>rfl
theorem aQ {n:Nat}{k:ax R}(h:n<=1073741824):room n k=k:=by simp[room,h]
theorem Sw (xs:au α)(i:Nat):idx xs (i:Int)=xs[i]?:=rfl
theorem aW {xs:au α}{i:Nat}(h:i<xs.length):idx xs (i:Int)=some xs[i]:=by grind[Sw]
def upK (step:Nat->σ->(σ->ax R)->ax R)(fin:σ->ax R)(N:Nat):Nat->Nat->σ->ax R
 |0,_,s=>fin s
 |n+1,i,s=>step i s (λs'=>upK step fin N n (i+1) s')
theorem Ja {T:(X->ax R)->X->ax R}(N:Nat)(e:σ->Nat->X)(step:Nat->σ->(σ->ax R)->ax R)(fin:σ->ax R)(hs:∀i s nx,i<N->T nx (e s i)=step i s (λs'=>nx (e s' (i+1))))(hf:∀s nx,T nx (e s N)=fin s): ∀n i s,i<=N->N-i<n->aM T n (e s i)=upK step fin N (N-i) i s:=by
 intro n;induction n with
 |zero=>intro i s _ h;omega
 |succ n ih=>
  intro i s hi hn;rw[aM];rcases bQ i N with gB|Ae;rw[hs i s _ gB,show N-i=(N-(i+1))+1 by omega,upK];congr 1;funext s';exact ih (i+1) s' (by omega) (by omega);have:i=N:=by omega
  subst this;rw[hf,Nat.sub_self,upK]
def Ad (step:α->σ->(σ->ax R)->ax R)(fin:σ->ax R):au α->σ->ax R
 |[],s=>fin s
 |x::xs,s=>step x s (Ad step fin xs)
theorem Bk {T:(X->ax R)->X->ax R}(xs:au α)(e:σ->Nat->X)(step:α->σ->(σ->ax R)->ax R)(fin:σ->ax R)(hs:∀i (h:i<xs.length) s nx,T nx (e s i)=step xs[i] s (λs'=>nx (e s' (i+1))))(hf:∀s nx,T nx (e s xs.length)=fin s): ∀n i s,i<=xs.length->xs.length-i<n->aM T n (e s i)=Ad step fin (xs.drop i) s:=by
 intro n;induction n with
 |zero=>intro i s _ h;omega
 |succ n ih=>
  intro i s hi hn;rw[aM];rcases bQ i xs.length with gB|Ae;rw[hs i gB s _,bN gB,Ad];congr 1;funext s';exact ih (i+1) s' (by omega) (by omega);have:i=xs.length:=by omega
  subst this;rw[hf,gC,Ad]
def szC:(t:CT)->t.D->Nat
 | .int _,_=>0
 | .bool,_=>0
 | .str,s=>s.length
 | .sl e,xs=>xs.length+(xs.map (szC e)).sum
 | .pair a b,x=>szC a x.1+szC b x.2
def cn (n:Nat):(t:CT)->t.D->Prop
 | .int _,_=>True
 | .bool,_=>True
 | .str,s=>s.length<=n
 | .sl e,xs=>xs.length<=n/\∀x∈xs,cn n e x
 | .pair a b,x=>cn n a x.1/\cn n b x.2
theorem N6 (f:α->Nat):∀(xs:au α)(x:α),x∈xs->f x<=(xs.map f).sum
 |y::ys,x,h=>by rcases cg.1 h with rfl|h;simp;have:=N6 f ys x h;simp;omega
theorem MB {n:Nat}:∀{t:CT}{x:t.D},szC t x<=n->cn n t x
 | .int _,_,_=>trivial
 | .bool,_,_=>trivial
 | .str,_,h=>h
 | .sl e,xs,h=>by simp only[szC]at h;exact⟨by omega,λx hx=>MB (by have:=N6 (szC e) xs x hx;omega)⟩
 | .pair a b,x,h=>by simp only[szC]at h;exact⟨MB (by omega),MB (by omega)⟩
theorem cn.mono {n m:Nat}(h:n<=m:=by omega):∀{t:CT}{x:t.D},cn n t x->cn m t x
 | .int _,_,_=>trivial
 | .bool,_,_=>trivial
 | .str,_,k=>aP k h
 | .sl _,_,k=>⟨aP k.1 h,λx hx=>cn.mono h (k.2 x hx)⟩
 | .pair _ _,_,k=>⟨cn.mono h k.1,cn.mono h k.2⟩
def acD:(t:CT)->t.D->Prop
 | .int k,n=>k.min<=n/\n<=k.max
 | .bool,_=>True
 | .str,s=>s.length<=9223372036854775807
 | .sl e,xs=>xs.length<=9223372036854775807/\∀x∈xs,acD e x
 | .pair a b,x=>acD a x.1/\acD b x.2
def kY (l n:Int):Int:=if n<=l then l-n else-1
def MC (f:α->Int->ax Int)(k0:Int->Int->ax R)(k1:Int->Int->Int->ax R)(v0:au α)(nx:Int×Int->ax R)(x:Int×Int):ax R:=
 cond (decide (x.2<((List.length v0:Int)))) (
  aa (idx v0 x.2) λx1=>
  aa (f x1 x.1) λr2=>
  cond (decide (r2<0)) (
   k1 r2 (-1) x.2) (
   nx (r2,ak (x.2+1)))) (
  k0 x.1 x.2)
noncomputable def Tp (f:α->Int->ax Int)(a0:au α)(a1:Int):ax Int:=
 cond (decide ((ak (a1-((List.length a0:Int))))<0)) (
  some (-1)) (
  aM (MC f (λy3 _=>some y3) (λ_ y6 _=>some y6) a0) fuel (ak (a1-((List.length a0:Int))),0))
theorem YR {f:α->Int->ax Int}{s:α->Nat}{a:au α}{l:Int}(h0:0<=l)(h1:l<=1048576)(hm:a.length<=9223372036854775807)(hf:∀x∈a,∀l:Int,0<=l->l<=1048576->∃r,f x l=some r/\((s x:Int)<=l->r=l-s x)/\(¬(s x:Int)<=l->r<0)):Tp f a l=some (kY l ((a.length+(a.map s).sum:Nat):Int)):=by
 unfold Tp;have xq:=cU;rw[ai (by omega) (by omega)];rcases Int.lt_or_le (l-a.length) 0 with aov|aaG;rw[aw aov];simp only[af,kY];rw[mQ];rw[fT];simp only[ae];have key:=Bk (T:=MC f (λy3 _=>some y3) (λ_ y6 _=>some y6) a) a (λ(q) i=>(q,(i))) (λx q k=>aa (f x q) λr=>cond (decide (r<0)) (some (-1)) (k r)) (λq=>some q) (λi hi q nx=>by simp only[MC];rw[jy];simp only[af,aW hi,ab];rw[ai (by omega) (by omega)];rfl) (λq nx=>by simp only[MC];rw[fT];rfl) fuel 0 (l-a.length) (by omega) (by omega);have e:((0:Nat):Int)=0:=rfl;rw[e,eG]at key;rw[key];have main:∀(b:au α)(q:Int),0<=q->q<=1048576->(∀x∈b,x∈a)->Ad (λx q k=>aa (f x q) λr=>cond (decide (r<0)) (some (-1)) (k r)) (λq=>some q) b q=some (kY q ((b.map s).sum)):=by intro b;induction b with|nil=>intro q hq _ _;simp[Ad,kY,hq]|cons x b ih=>intro q hq hq2 hb;obtain⟨r,hr,hr1,Py⟩:=hf x (hb x (by simp)) q hq hq2;rw[Ad,hr,ab];by_cases hle:(s x)<=q;rw[fT];simp only[ae];rw[ih _ (by omega) (by omega) (λy hy=>hb y (by simp[hy]))];simp only[kY,List.map_cons,List.sum_cons];congr 1;split<;>split<;>omega;rw[aw (Py hle)];simp only[af,kY,List.map_cons,List.sum_cons];rw[mQ]
 rw[main a _ (by omega) (by omega) (λx h=>h)];simp only[kY];congr 1;split<;>split<;>omega
def CD (f:Int->ax Int)(n:Nat):Prop:=∀l:Int,0<=l->l<=1048576->f l=some (kY l n)
theorem CD.nil:CD (λl=>some l) 0:=λl h0 _=>by simp[kY,h0]
theorem CD.len {n m:Nat}(hn:n<=9223372036854775807){k:Int->ax Int}(h:CD k m): CD (λl=>cond (decide (ak (l-(n:Int))<0)) (some (-1)) (k (ak (l-(n:Int))))) (n+m):=by intro l h0 h1;simp only;rw[ai (by omega) (by omega)];by_cases hl:l-(n)<0;rw[aw hl];simp only[af,kY];rw[mQ];rw[ar hl];simp only[ae];rw[h _ (by omega) (by omega)];simp only[kY];congr 1;split<;>split<;>omega
theorem CD.sub {k:Int->ax Int}{n m:Nat}(hf:CD f n)(h:CD k m):CD (λl=>aa (f l) λr=>cond (decide (r<0)) (some (-1)) (k r)) (n+m):=by
 intro l h0 h1;simp only;rw[hf l h0 h1,ab];by_cases hl:(n)<=l;have e:kY l n=l-n:=by simp[kY,hl]
 rw[e,fT];simp only[ae];rw[h _ (by omega) (by omega)];simp only[kY];congr 1;split<;>split<;>omega;have e:kY l n= -1:=by simp[kY,hl]
 rw[e];simp only[kY];rw[mQ];rfl
theorem CD.cast {n m:Nat}(h:CD f n)(e:n=m):CD f m:=e▸h
theorem CD.list {f:α->Int->ax Int}{s:α->Nat}{a:au α}(hm:a.length<=9223372036854775807)(hf:∀x∈a,CD (f x) (s x)):CD (Tp f a) (a.length+(a.map s).sum):=λ_ h0 h1=>YR h0 h1 hm (λx hx l h0 h1=>⟨_,hf x hx l h0 h1,λh=>by simp[kY,h],λh=>by simp[kY,h]⟩)
theorem CD.flat {n:Nat}(hn:n<=9223372036854775807):CD (λl=>cond (decide (ak (l-(n:Int))<0)) (some (-1)) (some (ak (l-(n:Int))))) n:=(CD.len hn CD.nil).cast (by omega)
theorem CD.use {n:Nat}(hf:CD f n){l:Int}(h0:0<=l)(h1:l<=1048576){k:Int->ax Bool}(hk:(n:Int)<=l->k (l-n)=some true): (aa (f l) λr=>cond (decide (r<0)) (some true) (k r))=some true:=by
 rw[hf l h0 h1,ab];by_cases hl:(n)<=l;have e:kY l n=l-n:=by simp[kY,hl]
 rw[e,fT];exact hk hl;have e:kY l n= -1:=by simp[kY,hl]
 rw[e];rfl
theorem Bq {T:(Int->ax R)->Int->ax R}{fin hit:ax R}(p:α->Bool)(a:au α)(h:a.length<=1000000000000)(hs:∀i (hi:i<a.length) nx,T nx (i:Int)=cond (p a[i]) hit (nx ((i+1:Nat):Int)))(hf:∀nx,T nx (a.length:Int)=fin): aM T fuel 0=cond (a.any p) hit fin:=by
 have xq:=cU;have key:∀n i,i<=a.length->a.length-i<n->aM T n (i)=cond ((a.drop i).any p) hit fin:=by
  intro n;induction n with
  |zero=>intro i _ h;omega
  |succ n ih=>
   intro i hi hn;rw[aM];rcases bQ i a.length with gB|Ae;rw[hs i gB,bN gB,List.any_cons];cases hq:p a[i]with|true=>rfl|false=>exact ih (i+1) (by omega) (by omega)
   have:i=a.length:=by omega
   subst this;rw[hf,gC];rfl
 exact key fuel 0 (by omega) (by omega)
theorem qc {T:(Int->ax R)->Int->ax R}{fin hit:ax R}(p:Nat->Bool)(N:Nat)(h:N<=1000000000000)(hs:∀i nx,i<N->T nx (i:Int)=cond (!(p i)) hit (nx ((i+1:Nat):Int)))(hf:∀nx,T nx (N:Int)=fin): aM T fuel 0=cond ((range N).all p) fin hit:=by
 have xq:=cU;have key:∀n i,i<=N->N-i<n->aM T n (i)=cond ((List.range' i (N-i)).all p) fin hit:=by
  intro n;induction n with
  |zero=>intro i _ h;omega
  |succ n ih=>
   intro i hi hn;rw[aM];rcases bQ i N with gB|Ae;rw[hs i _ gB,show N-i=(N-(i+1))+1 by omega,List.range'_succ,bR];cases hq:p i with|false=>rfl|true=>exact ih (i+1) (by omega) (by omega)
   have:i=N:=by omega
   subst this;rw[hf,Nat.sub_self];rfl
 have:=key fuel 0 (by omega) (by omega);rw[Nat.sub_zero,<-List.range_eq_range']at this;exact this
theorem sc {T:(Int->ax R)->Int->ax R}{fin hit:ax R}(p:α->Bool)(a:au α)(h:a.length<=1000000000000)(hs:∀i (hi:i<a.length) nx,T nx (i:Int)=cond (!(p a[i])) hit (nx ((i+1:Nat):Int)))(hf:∀nx,T nx (a.length:Int)=fin): aM T fuel 0=cond (a.all p) fin hit:=by have:=Bq (λx=> !(p x)) a h hs hf;grind
theorem fold_iter {T:(X->ax R)->X->ax R}(xs:au α)(e:σ->Nat->X)(g:σ->α->σ)(fin:σ->ax R)(h:xs.length<=1000000000000)(hs:∀i (hi:i<xs.length) s nx,T nx (e s i)=nx (e (g s xs[i]) (i+1)))(hf:∀s nx,T nx (e s xs.length)=fin s)(s:σ): aM T fuel (e s 0)=fin (xs.foldl g s):=by have xq:=cU;have key:=Bk xs e (λx s k=>k (g s x)) fin hs hf fuel 0 s (by omega) (by omega);rw[key,eG];clear key hs hf h;induction xs generalizing s with|nil=>rfl|cons x xs ih=>simp_all[Ad]
theorem J8 {T:(X->ax R)->X->ax R}{fin hit:ax R}(e:Nat->X)(p:Nat->Bool)(N:Nat)(h:N<=1000000000000)(hs:∀i nx,i<N->(∀j,j<i->p j=true)->T nx (e i)=cond (!(p i)) hit (nx (e (i+1))))(hf:(∀j,j<N->p j=true)->∀nx,T nx (e N)=fin): aM T fuel (e 0)=cond ((range N).all p) fin hit:=by
 have xq:=cU;have key:∀n i,i<=N->N-i<n->(∀j,j<i->p j=true)->aM T n (e i)=cond ((List.range' i (N-i)).all p) fin hit:=by
  intro n;induction n with
  |zero=>intro i _ h;omega
  |succ n ih=>
   intro i hi hn hp;rw[aM];rcases bQ i N with gB|Ae;rw[hs i _ gB hp,show N-i=(N-(i+1))+1 by omega,List.range'_succ,bR];cases hq:p i with|false=>rfl|true=>refine ih (i+1) (by omega) (by omega) λj hj=>?_;by_cases hji:j=i;rw[hji];exact hq;exact hp j (by omega)
   have:i=N:=by omega
   subst this;rw[hf hp,Nat.sub_self];rfl
 have:=key fuel 0 (by omega) (by omega) (λj hj=>absurd hj (by omega));rw[Nat.sub_zero,<-List.range_eq_range']at this;exact this
theorem Gj {T:(Int->ax R)->Int->ax R}{fin:ax R}{hit:Int->ax R}(p:α->Bool)(a:au α)(h:a.length<=1000000000000)(hs:∀i (hi:i<a.length) nx,T nx (i:Int)=cond (p a[i]) (hit (i:Int)) (nx ((i+1:Nat):Int)))(hf:∀nx,T nx (a.length:Int)=fin): aM T fuel 0=(match a.findIdx? p with|some i=>hit (i:Int)|none=>fin):=by
 have xq:=cU;have key:∀n i,i<=a.length->a.length-i<n->aM T n (i)=(match (a.drop i).findIdx? p with|some j=>hit ((i+j:Nat))|none=>fin):=by
  intro n;induction n with
  |zero=>intro i _ h;omega
  |succ n ih=>
   intro i hi hn;rw[aM];rcases bQ i a.length with gB|Ae;rw[hs i gB,bN gB,List.findIdx?_cons];cases hq:p a[i]with|true=>rfl|false=>have:=ih (i+1) (by omega) (by omega);refine this.trans ?_;cases (a.drop (i+1)).findIdx? p with|none=>rfl|some j=>simp only[dk,aX,cc];congr 2;omega
   have:i=a.length:=by omega
   subst this;rw[hf,gC];rfl
 have:=key fuel 0 (by omega) (by omega);refine this.trans ?_;rw[eG];cases a.findIdx? p with|none=>rfl|some j=>simp only[cl]
theorem cF (a b:Bool):(bif a then b else false)=(a&&b):=by cases a<;>rfl
theorem cT (a b:Bool):(bif a then true else b)=(a||b):=by cases a<;>rfl
theorem cN (a b:Bool):(bif a then false else b)=(!a&&b):=by cases a<;>rfl
def VK (g:α->σ->Except (ax R) σ)(fin:σ->ax R):au α->σ->ax R
 |[],s=>fin s
 |x::xs,s=>match g x s with| .error r=>r| .ok s'=>VK g fin xs s'
theorem Dv {T:(X->ax R)->X->ax R}(xs:au α)(e:σ->Nat->X)(Inv:Nat->σ->Prop)(g:α->σ->Except (ax R) σ)(fin:σ->ax R)(h:xs.length<=1000000000000)(hs:∀i (hi:i<xs.length) s nx,Inv i s->T nx (e s i)=match g xs[i] s with| .error r=>r| .ok s'=>nx (e s' (i+1)))(hn:∀i (hi:i<xs.length) s s',Inv i s->g xs[i] s=.ok s'->Inv (i+1) s')(hf:∀s nx,Inv xs.length s->T nx (e s xs.length)=fin s)(s:σ)(h0:Inv 0 s): aM T fuel (e s 0)=VK g fin xs s:=by
 have key:∀n i s,i<=xs.length->xs.length-i<n->Inv i s->aM T n (e s i)=VK g fin (xs.drop i) s:=by
  intro n;induction n with
  |zero=>intro i s _ h;omega
  |succ n ih=>
   intro i s hi Dc hI;rw[aM];rcases bQ i xs.length with gB|Ae;rw[hs i gB s _ hI,bN gB,VK];cases hg:g xs[i] s with|error r=>rfl|ok s'=>exact ih (i+1) s' (by omega) (by omega) (hn i gB s s' hI hg)
   have:i=xs.length:=by omega
   subst this;rw[hf s _ hI,gC,VK]
 have xq:=cU;have:=key fuel 0 s (by omega) (by omega) h0;rwa[eG]at this
theorem Jr (f:σ->α->σ)(fin:σ->ax R):∀(xs:au α)(s:σ),VK (λx s=> .ok (f s x)) fin xs s=fin (xs.foldl f s)
 |[],_=>rfl
 |x::xs,s=>by exact Jr f fin xs (f s x)
theorem cq {T:(X->ax R)->X->ax R}{fin:ax R}(e:Nat->X)(N:Nat)(h:N<=1000000000000)(hs:∀i nx,i<N->T nx (e i)=nx (e (i+1)))(hf:∀nx,T nx (e N)=fin):aM T fuel (e 0)=fin:=by rw[J8 (hit:=fin) e (λ_=>true) N h (λi nx hi _=>by rw[hs i nx hi];rfl) (λ_ nx=>hf nx)];grind
theorem fw {l:au α}{k:ax R}(h:l.length<=10^9):room (List.length ([]:au α)+l.length) k=k:=aQ (by grind)
theorem WJ (a:Act):vc a=mJ a:=rfl
theorem MI (a:Act):∃b,mJ a=some b:=by simp only[mJ,aI,cw,ab];exact⟨_,rfl⟩
noncomputable def FL (a:Act):Bool:=(a.1==6)&&((mJ a).getD false)
theorem SA (a:au Act)(h:a.length<=1000000000000):tK a=some (a.any FL):=by
 unfold tK;rw[Bq (hit:=some true) (fin:=some false) FL a h (λi hi nx=>?hs) (λnx=>?hf)]
 case hs=>
  simp only[sk]
  rw[jy,aW hi,ai (by omega) (by omega)]
  simp only[af,ab,WJ,FL]
  obtain⟨b,hb⟩:=MI a[i]
  rw[hb]
  cases (a[i].1==6)<;>cases b<;>rfl
 case hf=>
  simp only[sk]
  rw[fT];rfl
 cases a.any FL<;>rfl
theorem Tb (a:au Act)(h:a.length<=1000000000000):ua a=some (a.any FL):=by
 unfold ua;rw[Bq (hit:=some true) (fin:=some false) FL a h (λi hi nx=>?hs) (λnx=>?hf)]
 case hs=>
  simp only[sQ]
  rw[jy,aW hi,ai (by omega) (by omega)]
  simp only[af,ab,FL]
  obtain⟨b,hb⟩:=MI a[i]
  rw[hb]
  cases (a[i].1==6)<;>cases b<;>rfl
 case hf=>
  simp only[sQ]
  rw[fT];rfl
 cases a.any FL<;>rfl
def dy (a lo hi:Int):Bool:=decide (lo<=a)&&decide (a<=hi)
theorem bl {a lo hi:Int}:dy a lo hi=true↔lo<=a/\a<=hi:=by simp[dy]
theorem cx (a b c:Int):aI a b c=some (dy a b c):=by grind[aI,ab,dy]
theorem da (a b c:Int):aC a b c=some (dy a b c):=cx a b c
theorem eK {l:au α}{i:Nat}(h:i<l.length)(d:α):l.getD i d=l[i]:=by grind
def O8 (l:cL)(i:Nat):Bool:=dy (l.getD i 0) 0 4095&& !(decide (0<i)&&decide (l.getD i 0<=l.getD (i-1) 0))
def qy (f:Filter):Bool:=(range f.2.2.length).all (O8 f.2.2)&&(dy f.1 0 281474976710654&&decide ((f.2.2.length:Int)<=8))
theorem Ei (f:Filter)(h:f.2.2.length<=10^9):mL f=some (qy f):=by
 unfold mL;rw[qc (fin:=some (dy f.1 0 281474976710654&&decide ((f.2.2.length:Int)<=8))) (O8 f.2.2) f.2.2.length (by omega) (λi nx hi=>?hs) (λnx=>?hf)]
 case hs=>
  simp only[sP]
  rw[jy,aW hi,ai (n:=(i)+1) (by omega) (by omega)]
  simp only[af,ab,cx,O8,eK hi]
  by_cases h0:0<i
  ·have e:ak ((i)-1)=((i-1:Nat)):=by rw[ai (by omega) (by omega)];omega
   have hp:i-1<f.2.2.length:=by omega
   rw[e,aW hp,aw (show(i:Int)>0 by omega),aw h0,eK hp]
   simp only[af,ab,bB]
   cases dy f.2.2[i] 0 4095<;>cases decide (f.2.2[i]<=f.2.2[i-1])<;>rfl
  ·rw[ar (show¬(i:Int)>0 by omega),ar h0]
   cases dy f.2.2[i] 0 4095<;>rfl
 case hf=>
  simp only[sP]
  rw[fT]
  simp only[ae,cx,ab,cw]
  cases dy f.1 0 281474976710654<;>rfl
 unfold qy;cases (range f.2.2.length).all (O8 f.2.2)<;>rfl
theorem HQ (f:Filter)(h:f.2.2.length<=10^9):qi f=some (qy f):=by
 unfold qi;rw[qc (fin:=some (dy f.1 0 281474976710654&&decide ((f.2.2.length:Int)<=8))) (O8 f.2.2) f.2.2.length (by omega) (λi nx hi=>?hs) (λnx=>?hf)]
 case hs=>
  simp only[si]
  rw[jy,aW hi,ai (n:=(i)+1) (by omega) (by omega)]
  simp only[af,ab,da,O8,eK hi]
  by_cases h0:0<i
  ·have e:ak ((i)-1)=((i-1:Nat)):=by rw[ai (by omega) (by omega)];omega
   have hp:i-1<f.2.2.length:=by omega
   rw[e,aW hp,aw (show(i:Int)>0 by omega),aw h0,eK hp]
   simp only[af,ab,bB,ge_iff_le]
   cases dy f.2.2[i] 0 4095<;>cases decide (f.2.2[i]<=f.2.2[i-1])<;>rfl
  ·rw[ar (show¬(i:Int)>0 by omega),ar h0]
   cases dy f.2.2[i] 0 4095<;>rfl
 case hf=>
  simp only[si]
  rw[fT]
  simp only[ae,da,ab,cw]
  cases dy f.1 0 281474976710654<;>rfl
 unfold qy;cases (range f.2.2.length).all (O8 f.2.2)<;>rfl
def Du (r:iX):Bool:=(my r).getD false
theorem OP (r:iX):my r=some (Du r):=by simp_all[my,cx,cw,Du]
theorem adL (r:iX):Ci r=some (Du r):=OP r
theorem VI {r:iX}(h:Du r=true):r.2.2.2.2.2.2.2.1=0\/r.2.2.2.2.2.2.2.2=0:=by
 by_cases h0:r.2.2.2.2.2.2.2.1=0;exact .inl h0;by_cases h1:r.2.2.2.2.2.2.2.2=0;exact .inr h1;exfalso;have e0:(r.2.2.2.2.2.2.2.1==0)=false:=by simp[h0]
 have e1:(r.2.2.2.2.2.2.2.2==0)=false:=by simp[h1]
 revert h;unfold Du;simp only[my,cx,ab,cw,e0,e1,ae,fj];have z:∀c:Bool,(bif c then false else false)=false:=by intro c;cases c<;>rfl
 simp only[z];intro h;cases h
def zP (l:au iX):Bool:=l.all Du&&decide ((l.length:Int)<=12)
theorem GH (l:au iX)(h:l.length<=10^9):wZ l=some (zP l):=by unfold wZ;rw[sc (hit:=some false) (fin:=some (decide ((l.length:Int)<=12))) Du l (by omega) (λi hi nx=>?hs) (λnx=>?hf)];all_goals grind[zS,aW,ai,ab,OP,zP]
theorem QN (l:au iX)(h:l.length<=10^9):AA l=some (zP l):=by rw[<-GH l h];rfl
theorem an2 (x:Int):((BitVec.ofInt 64 x&&&BitVec.ofInt 64 7).toNat:Int)=x%8:=by
 have h7:(BitVec.ofInt 64 7).toNat=2^3-1:=by decide
 rw[BitVec.toNat_and,h7,Nat.and_two_pow_sub_one_eq_mod];grind[BitVec.toNat_ofInt]
theorem ah6 (x:Int):((fa x&&&fa 7).toNat:Int)=x%8:=an2 x
theorem afO (x:Int):iJ x 8=some (x%8):=by grind[iJ,ai]
def Dd (f:fP):Int:=(f.1%8+f.2.1%8+f.2.2.1%8+f.2.2.2.1%8+f.2.2.2.2%8)%8
theorem NC (f:fP):0<=Dd f/\Dd f<8:=by unfold Dd;omega
theorem agL {n:Int}(h:0<=n):tmod n 8=n%8:=dU h
theorem VY (f:fP):uc f=some (Dd f):=by
 unfold uc;generalize hL:[f.1,f.2.1,f.2.2.1,f.2.2.2.1,f.2.2.2.2]=L;have hlen:L.length=5:=by rw[<-hL];rfl
 have xq:=cU;have key:=Bk (T:=nY (λ(y2) (y3)=>if 8=0 then none else(some (tmod y2 8))) L) L (λ(s) i=>(s,(i))) (λx s k=>k (ak (s+ak (x%8)))) (λs=>some (tmod s 8)) (λi hi s nx=>by simp only[nY];rw[jy,aW hi,ai (by omega) (by omega)];grind[ab,ah6]) (λs nx=>by grind[nY]) fuel 0 0 (by omega) (by omega);refine key.trans ?_;rw[<-hL];simp(disch:=omega)[Ad,ai,agL,Dd]
theorem adD (f:fP):ym f=some (Dd f):=by
 unfold ym;generalize hL:[f.1,f.2.1,f.2.2.1,f.2.2.2.1,f.2.2.2.2]=L;have hlen:L.length=5:=by rw[<-hL];rfl
 have xq:=cU;have key:=Bk (T:=nD (λ(y2) (y3)=>if 8=0 then none else(some (tmod y2 8))) L (L.length)) L (λ(s) i=>(s,(i))) (λx s k=>k (ak (s+(x%8)))) (λs=>some (tmod s 8)) (λi hi s nx=>by grind[nD,aW,ai,ab,afO]) (λs nx=>by grind[nD]) fuel 0 0 (by omega) (by omega);refine key.trans ?_;rw[<-hL];simp(disch:=omega)[Ad,ai,agL,Dd]
def fS (t:au Slot)(i:Nat):Slot:=t.getD i (0,(0,0,0,0,0),0)
theorem xQ {t:au Slot}{i:Nat}(h:i<t.length):fS t i=t[i]:=eK h _
def lG (f:fP)(k:Nat):Nat:=((Dd f).toNat+k)%8
theorem GO (f:fP)(k:Nat):lG f k<8:=Nat.mod_lt _ (by omega)
theorem Wp (f:fP)(k:Nat)(h:k<8):tmod (ak (Dd f+(k:Int))) 8=(lG f k:Int):=by have:=NC f;grind[ai,lG]
def qa (s:Slot)(f:fP):Bool:=(s.1==1)&&decide (s.2.1=f)
theorem IB (p q:fP):((p.1==q.1)&&((p.2.1==q.2.1)&&((p.2.2.1==q.2.2.1)&&((p.2.2.2.1==q.2.2.2.1)&&((p.2.2.2.2==q.2.2.2.2)&&true)))))=decide (p=q):=by grind
def walk (t:au Slot)(f:fP):Nat->Nat->Int
 |0,_=> -1
 |n+1,k=>if(fS t (lG f k)).1=0 then-1 else if qa (fS t (lG f k)) f then(lG f k:Int) else walk t f n (k+1)
theorem OH (t:au Slot)(f:fP)(ht:t.length=8):xg t f=some (walk t f 8 0):=by
 have xq:=cU
 have key:=Ja (T:=uQ (λ(y6)=>some (-1)) (λ(y7) (y8)=>some y7) 0 t f) 8 (λ(_) i=>(i))
  (λi s k=>if(fS t (lG f i)).1=0 then some (-1) else if qa (fS t (lG f i)) f then some (lG f i) else k s) (λ_=>some (-1))
  (λi s nx hi=>by
   have hw:lG f i<t.length:=by have:=GO f i;omega
   simp only[uQ,VY];rw[jy,ai (by omega) (by omega)];simp only[af,ab,Wp f i hi,aW hw,xQ hw,IB,qa,cw,ab];by_cases h0:t[lG f i].1=0;simp[h0];have e0:(t[lG f i].1==0)=false:=by simp[h0]
   rw[e0,aH h0];cases (t[lG f i].1==1)<;>cases decide (t[lG f i].2.1=f)<;>rfl)
  (λs nx=>by rfl)
  fuel 0 () (by omega) (by omega)
 refine key.trans ?_;have main:∀n i,upK (R:=Int) (λi (s) k=>if(fS t (lG f i)).1=0 then some (-1) else if qa (fS t (lG f i)) f then some (lG f i) else k s) (λ_=>some (-1)) 8 n i ()=some (walk t f n i):=by intro n;induction n with|zero=>intro i;rfl|succ n ih=>intro i;rw[upK,walk];split;rfl;split;rfl;exact ih (i+1)
 exact main 8 0
def zJ (f:fP):au Slot->Int->Int
 |[],_=> -1
 |s::r,i=>if qa s f then i else zJ f r (i+1)
theorem U1 (t:au Slot)(f:fP)(h:t.length<=10^9):Ck t f=some (zJ f t 0):=by
 have xq:=cU;have key:∀n i,i<=t.length->t.length-i<n->aM (wC (λ(y3)=>some (-1)) (λ(y4) (y5)=>some y4) 0 t ((List.length t)) f) n (i)=some (zJ f (t.drop i) i):=by
  intro n;induction n with
  |zero=>intro i _ h;omega
  |succ n ih=>
   intro i hi hn;rw[aM];simp only[wC];rcases bQ i t.length with gB|Ae;rw[jy,aW gB,bN gB,zJ,ai (by omega) (by omega)];simp only[af,ab,IB,cw];have e:(bif t[i].1==1 then decide (t[i].2.1=f) else false)=qa t[i] f:=by unfold qa;cases (t[i].1==1)<;>rfl
   rw[e];cases qa t[i] f with|true=>rfl|false=>exact ih (i+1) (by omega) (by omega)
   have:i=t.length:=by omega
   subst this;rw[fT,gC];rfl
 exact key fuel 0 (by omega) (by omega)
theorem afE (f:fP):HT f=some ((range 8).map λk=>(lG f k:Int)):=by have xq:=cU;have key:=Ja (T:=yy (λ(y2) (y3)=>some y2) f) 8 (λ(_) i=>((range i).map (λk=>(lG f k)),(i))) (λ_ s k=>k s) (λ_=>some ((range 8).map λk=>(lG f k))) (λi s nx hi=>by grind[yy,adD,ai,ab,Wp,aQ,List.range_succ]) (λs nx=>by rfl) fuel 0 () (by omega) (by omega);exact key
def clear (t:au Slot)(f:fP)(i:Nat):Nat->Nat->Bool
 |0,_=>true
 |n+1,k=>if lG f k=i then true else if(fS t (lG f k)).1=0 then false else clear t f i n (k+1)
theorem aaM (k0:Int->ax R)(k1:Bool->Int->ax R)(hit fin:ax R)(h0:∀x,k0 x=fin)(h1:∀x,k1 false x=hit)(v2:Bool)(i:Nat)(TF:au Slot)(Wn v14:Int)(t:au Slot)(f:fP)(ht:t.length=8): aM (nI k0 k1 v2 (i:Int) TF Wn v14 ((range 8).map λk=>(lG f k:Int)) (((range 8).map λk=>(lG f k:Int)).length:Int) t) fuel 0=cond (clear t f i 8 0) fin hit:=by
 have xq:=cU;have hl:((range 8).map λk=>(lG f k:Int)).length=8:=by simp
 have key:=Ja (T:=nI k0 k1 v2 (i) TF Wn v14 ((range 8).map λk=>(lG f k)) (((range 8).map λk=>(lG f k:Int)).length) t) 8 (λ(_) i=>(i))
  (λk s c=>if lG f k=i then fin else if(fS t (lG f k)).1=0 then hit else c s) (λ_=>fin)
  (λk s nx hk=>by
   have hw:lG f k<t.length:=by have:=GO f k;omega
   simp only[nI];rw[jy,aW (show k<((range 8).map λk=>(lG f k:Int)).length by omega),ai (by omega) (by omega)];simp only[af,ab,List.getElem_map,List.getElem_range,aW hw,xQ hw,h0,h1];by_cases e1:lG f k=i;subst e1;simp;have:((lG f k:Int)==(i))=false:=by simp;omega
   rw[this,aH e1];by_cases e2:t[lG f k].1=0;simp[e2];have:(t[lG f k].1==0)=false:=by simp[e2]
   rw[this,aH e2];rfl)
  (λs nx=>by exact h0 _)
  fuel 0 () (by omega) (by omega)
 refine key.trans ?_;have main:∀n k,upK (λk (s) c=>if lG f k=i then fin else if(fS t (lG f k)).1=0 then hit else c s) (λ_=>fin) 8 n k ()=cond (clear t f i n k) fin hit:=by intro n;induction n with|zero=>intro k;rfl|succ n ih=>intro k;rw[upK,clear];split;rfl;split;rfl;exact ih (k+1)
 exact main 8 0
def Uf:fP:=(0,0,0,0,0)
theorem Ug (p:fP):((p.1==0)&&((p.2.1==0)&&((p.2.2.1==0)&&((p.2.2.2.1==0)&&((p.2.2.2.2==0)&&true)))))=decide (p=Uf):=IB p Uf
def Rq (s:Slot):Bool:=dy s.1 0 2&&dy s.2.2 0 3&&((s.1==1)||(s.2.2==0)&&decide (s.2.1=Uf))
def nR (t:au Slot)(i:Nat):Bool:=Rq (fS t i)&&(!((fS t i).1==1)||(walk t (fS t i).2.1 8 0==(i:Int)))
def vo (t:au Slot)(i:Nat):Bool:=Rq (fS t i)&&(!((fS t i).1==1)||(zJ (fS t i).2.1 t 0==(i:Int))&&clear t (fS t i).2.1 i 8 0)
def qv (t:au Slot):Bool:=(t.length==8)&&(range 8).all (nR t)
theorem KW (t:au Slot):sZ t=some (qv t):=by
 unfold sZ qv;by_cases ht:t.length=8
 ·have e:((t.length:Int) !=8)=false:=by rw[ht];rfl
  have e2:(t.length==8)=true:=by rw[ht];rfl
  rw[e,e2];rw[qc (nR t) 8 (by omega) (λi nx hi=>?hs) (λnx=>?hf)]
  case hs=>
   have hl:i<t.length:=by omega
   simp only[uM]
   rw[jy,aW hl,ai (by omega) (by omega)]
   simp only[af,ab,cx,cw,Ug,OH t _ ht,nR,xQ hl,Rq,bne]
   cases dy t[i].1 0 2<;>cases dy t[i].2.2 0 3<;>cases (t[i].1==1)<;>cases (t[i].2.2==0)<;>cases decide (t[i].2.1=Uf)<;>first|rfl|(cases (walk t t[i].2.1 8 0==(i))<;>rfl)
  case hf=>
   simp only[uM]
   rw[fT];rfl
  cases (range 8).all (nR t)<;>rfl
 have e:((t.length:Int) !=8)=true:=by simp;omega
 have e2:(t.length==8)=false:=by simp[ht]
 rw[e,e2];rfl
theorem XG (t:au Slot):sB t=some ((t.length==8)&&(range 8).all (vo t)):=by
 unfold sB;by_cases ht:t.length=8
 ·have e:((t.length:Int) !=8)=false:=by rw[ht];rfl
  have e2:(t.length==8)=true:=by rw[ht];rfl
  rw[e,e2];rw[qc (vo t) 8 (by omega) (λi nx hi=>?hs) (λnx=>?hf)]
  case hs=>
   have hl:i<t.length:=by omega
   simp only[uD]
   rw[jy,aW hl,ai (by omega) (by omega)]
   simp only[af,ab,da,cw,Ug,U1 t _ (show t.length<=10^9 by omega),afE,vo,xQ hl,Rq,bne]
   rw[aaM (λ_=>nx ((i)+1)) (λ(y) (_)=>some y) (some false) (nx ((i)+1)) (λ_=>rfl) (λ_=>rfl) _ _ _ _ _ _ _ ht]
   cases dy t[i].1 0 2<;>cases dy t[i].2.2 0 3<;>cases (t[i].1==1)<;>cases (t[i].2.2==0)<;>cases decide (t[i].2.1=Uf)<;>first|rfl|(cases (zJ t[i].2.1 t 0==(i))<;>first|rfl|(cases clear t t[i].2.1 i 8 0<;>rfl))
  case hf=>
   simp only[uD]
   rw[fT];rfl
  cases (range 8).all (vo t)<;>rfl
 have e:((t.length:Int) !=8)=true:=by simp;omega
 have e2:(t.length==8)=false:=by simp[ht]
 rw[e,e2];rfl
theorem RN (t:au Slot)(f:fP)(i:Nat):∀n k,walk t f n k=(i:Int)->qa (fS t i) f=true/\clear t f i n k=true/\∃j,j<n/\lG f (k+j)=i
 |0,k,h=>by unfold walk at h;omega
 |n+1,k,h=>by
  unfold walk at h;unfold clear;by_cases h0:(fS t (lG f k)).1=0;omega;rw[aH h0]at h;by_cases h1:qa (fS t (lG f k)) f=true;rw[aF h1]at h;have:lG f k=i:=by omega
  subst this;exact⟨h1,by simp,0,by omega,rfl⟩;rw[aH h1]at h;obtain⟨a,b,j,hj,e⟩:=RN t f i n (k+1) h;refine⟨a,?_,j+1,by omega,by rw[<-e];congr 1;omega⟩;rw[aH h0,b];split<;>rfl
theorem Z7 (t:au Slot)(f:fP)(i:Nat)(hu:qa (fS t i) f=true)(agF:∀j,j<8->qa (fS t j) f=true->j=i):∀n k,clear t f i n k=true->(∃j,j<n/\lG f (k+j)=i)->walk t f n k=(i:Int)
 |0,k,_,h=>by omega
 |n+1,k,hc,⟨j,hj,e⟩=>by unfold walk;unfold clear at hc;by_cases h1:lG f k=i;rw[h1,aH,aF hu];intro h0;unfold qa at hu;rw[h0]at hu;simp at hu;rw[aH h1]at hc;by_cases h0:(fS t (lG f k)).1=0;rw[aF h0]at hc;cases hc;rw[aH h0]at hc;rw[aH h0,aH (λXt=>h1 (agF _ (GO f k) Xt))];refine Z7 t f i hu agF n (k+1) hc ?_;cases j with|zero=>exact absurd e h1|succ j=>exact⟨j,by omega,by rw[<-e];congr 1;omega⟩
theorem agl (f:fP)(i:Nat)(hi:i<8):∃j,j<8/\lG f (0+j)=i:=by have:=NC f;refine⟨(i+8-(Dd f).toNat)%8,by omega,?_⟩;unfold lG;omega
theorem Fe (f:fP):∀(t:au Slot)(m:Nat),(∃j,j<t.length/\qa (fS t j) f=true)->∃j,j<t.length/\qa (fS t j) f=true/\zJ f t m=((m+j:Nat):Int)
 |[],_,h=>by obtain⟨j,hj,_⟩:=h;simp at hj
 |s::r,m,⟨j,hj,e⟩=>by
  unfold zJ;by_cases hs:qa s f=true;rw[aF hs];exact⟨0,by simp,by simpa[fS]using hs,by simp⟩;rw[aH hs];cases j with
  |zero=>exact absurd (by simpa[fS]using e) hs
  |succ j=>
   obtain⟨j',h1,h2,h3⟩:=Fe f r (m+1) ⟨j,by simpa using hj,by simpa[fS]using e⟩;refine⟨j'+1,by simpa using h1,by simpa[fS]using h2,?_⟩;have:((m:Int)+1)=((m+1:Nat)):=by omega
   rw[this,h3];congr 1;omega
theorem Yq (t:au Slot)(ht:t.length=8):(range 8).all (vo t)=(range 8).all (nR t):=by
 rw[fe,aL,aL];simp only[cW];constructor;intro h i hi;have hI:=h i hi;unfold vo at hI;unfold nR;simp only[ah,di,aN,bw]at hI⊢;refine⟨hI.1,?_⟩;rcases hI.2 with h1|⟨h1,h2⟩;exact .inl h1;by_cases hu:((fS t i).1==1)=true;right;have Xt:qa (fS t i) (fS t i).2.1=true:=by unfold qa;rw[hu];simp
 refine Z7 t _ i Xt (λj hj huj=>?_) 8 0 h2 (agl _ i hi);have hJ:=h j hj;unfold vo at hJ;unfold qa at huj;simp only[ah,bp]at huj;simp only[ah,di,aN,bw]at hJ;rcases hJ.2 with h3|⟨h3,_⟩;rw[huj.1]at h3;cases h3;rw[huj.2]at h3;omega;exact .inl (by simpa using hu);intro h i hi;have hI:=h i hi;unfold nR at hI;unfold vo;simp only[ah,di,aN,bw]at hI⊢;refine⟨hI.1,?_⟩;rcases hI.2 with h1|h1;exact .inl h1;right;obtain⟨hu,hc,_⟩:=RN t _ i 8 0 h1;refine⟨?_,hc⟩;obtain⟨j,hj,huj,e⟩:=Fe (fS t i).2.1 t 0 ⟨i,by omega,hu⟩;have hJ:=h j (by omega);unfold nR at hJ;unfold qa at huj;simp only[ah,bp]at huj;simp only[ah,di,aN,bw]at hJ;rcases hJ.2 with h3|h3;rw[huj.1]at h3;cases h3;rw[huj.2,h1]at h3;have e':zJ (fS t i).2.1 t 0=((0+j)):=e;omega
theorem QS (t:au Slot):sB t=some (qv t):=by
 rw[XG,qv];by_cases ht:t.length=8;rw[Yq t ht];have e2:(t.length==8)=false:=by simp[ht]
 rw[e2];rfl
def ZQ (n:Int):Bool:=(n==1)||(n==2)||(n==4)||(n==8)||(n==16)
theorem XQ (n:Int):AU n=some (ZQ n):=by grind[AU,ab,ZQ]
def xk (s:jV)(q:Int):Bool:=dy q 1 4&&((s.1.length:Int)==16)&&ZQ s.2.length&&s.2.all λx=>dy x 0 (q-1)
theorem HY (s:jV)(q:Int)(h:s.2.length<=10^9):ug s q=some (xk s q):=by
 unfold ug xk;simp only[cx,XQ,ab,cw,bne];by_cases hq:dy q 1 4=true
 ·rw[sc (λx=>dy x 0 (q-1)) s.2 (by omega) (λi hi nx=>?hs) (λnx=>?hf)]
  case hs=>
   rw[bl]at hq
   simp only[sW]
   rw[jy,aW hi,ai (by omega) (by omega),ai (by omega) (by omega)]
   simp only[af,ab,cx];rfl
  case hf=>
   simp only[sW]
   rw[fT];rfl
  rw[hq];cases ((s.1.length:Int)==16)<;>cases ZQ s.2.length<;>cases s.2.all (λx=>dy x 0 (q-1))<;>rfl
 have hq':dy q 1 4=false:=by simpa using hq
 rw[hq'];rfl
theorem NR (s:jV)(q:Int)(h:s.2.length<=10^9):yv s q=some (xk s q):=by rw[<-HY s q h];rfl
def eF (s:de)(q:Int):Bool:=zP s.1&&qv s.2.1&&xk s.2.2 q&&s.1.all (λr=> !(decide (r.2.2.2.2.2.2.2.2>=q)))&&s.2.1.all (λx=> !(decide (x.2.2>=q)))
theorem AI (s:de)(q:Int)(h1:s.1.length<=10^9)(h2:s.2.1.length<=10^9)(h3:s.2.2.2.length<=10^9):kf s q=some (eF s q):=by
 unfold kf eF;simp only[GH _ h1,KW,HY _ _ h3,ab,cw];rw[sc (hit:=some false) (fin:=cond (s.2.1.all (λx=> !(decide (x.2.2>=q)))) (some true) (some false)) (λr:iX=> !(decide (r.2.2.2.2.2.2.2.2>=q))) s.1 (by omega) (λi hi nx=>?hs) (λnx=>?hf)]
 case hs=>
  grind[pq,aW,ai,ab]
 case hf=>
  simp only[pq]
  rw[fT]
  simp only[ae]
  rw[sc (λx:Slot=> !(decide (x.2.2>=q))) s.2.1 (by omega) (λi hi nx=>?hs) (λnx=>?hf)]
  all_goals grind[vh,aW,ai,ab]
 grind
theorem DY (s:de)(q:Int)(h1:s.1.length<=10^9)(h2:s.2.1.length<=10^9)(h3:s.2.2.2.length<=10^9):lL s q=some (eF s q):=by
 unfold lL eF;simp only[QN _ h1,QS,NR _ _ h3,ab,cw];rw[sc (λr:iX=> !((r.2.2.2.2.2.2.2.1==0)&&decide (r.2.2.2.2.2.2.2.2>=q))) s.1 (by omega) (λi hi nx=>?hs) (λnx=>?hf)]
 case hs=>
  simp only[oT]
  rw[jy,aW hi,ai (by omega) (by omega)]
  simp only[af,ab,Bool.not_not,cw]
  cases (s.1[i].2.2.2.2.2.2.2.1==0)<;>rfl
 case hf=>
  simp only[oT]
  rw[fT]
  simp only[ae]
  rw[sc (λx:Slot=> !((x.1==1)&&decide (x.2.2>=q))) s.2.1 (by omega) (λi hi nx=>?hs) (λnx=>?hf)]
  case hs=>
   simp only[nf]
   rw[jy,aW hi,ai (by omega) (by omega)]
   simp only[af,ab,Bool.not_not,cw]
   cases (s.2.1[i].1==1)<;>rfl
  case hf=>
   simp only[nf]
   rw[fT];rfl
 cases hr:zP s.1 with
 |false=>rfl
 |true=>
  cases ht:qv s.2.1 with
  |false=>rfl
  |true=>
   cases hs:xk s.2.2 q with
   |false=>rfl
   |true=>
    have hq:1<=q:=by unfold xk at hs;simp only[ah,bl]at hs;exact hs.1.1.1.1
    have e1:s.1.all (λr=> !((r.2.2.2.2.2.2.2.1==0)&&decide (r.2.2.2.2.2.2.2.2>=q)))=s.1.all (λr=> !(decide (r.2.2.2.2.2.2.2.2>=q))):=by unfold zP at hr;simp only[ah,aL]at hr;rw[fe,aL,aL];refine forall_congr' λr=>forall_congr' λhm=>?_;rcases VI (hr.1 r hm)with h0|h0;rw[h0];simp;rw[h0];simp only[ar (show¬(0)>=q by omega),jJ]
    have e2:s.2.1.all (λx=> !((x.1==1)&&decide (x.2.2>=q)))=s.2.1.all (λx=> !(decide (x.2.2>=q))):=by unfold qv at ht;simp only[ah,aL,cW,bw]at ht;rw[fe,aL,aL];refine forall_congr' λx=>forall_congr' λhm=>?_;obtain⟨i,hi,rfl⟩:=List.mem_iff_getElem.1 hm;have Zp:=ht.2 i (by omega);unfold nR Rq at Zp;rw[xQ hi]at Zp;simp only[ah,di,bw]at Zp;rcases Zp.1.2 with h0|⟨h0,_⟩;rw[h0];simp;rw[h0];simp only[ar (show¬(0)>=q by omega),jJ]
    rw[e1,e2];cases s.1.all (λr=> !(decide (r.2.2.2.2.2.2.2.2>=q)))<;>cases s.2.1.all (λx=> !(decide (x.2.2>=q)))<;>rfl
theorem fJ {n:Nat}(h:n<9223372036854775808):ak (n:Int)=(n:Int):=ai (by omega) (by omega)
theorem J1 {n:Nat}(h:n<4294967296:=by omega):IntKind.wrap .u32 (n:Int)=(n:Int):=by grind[IntKind.wrap,IntKind.bits,IntKind.signed]
theorem kx (b:UInt8):b.toNat<256:=b.toNat_lt
def cb (v:Int):Bytes:=(bU v).getD []
theorem gU (v:Int):bU v=some (cb v):=by grind[cb,bU,cx,ab]
theorem kT (v:Int):ch v=some (cb v):=gU v
theorem H6 (v:Int):(cb v).length=bif dy v 0 65535 then 2 else 0:=by have h:=gU v;simp only[bU,cx,ab]at h;cases hb:dy v 0 65535<;>rw[hb]at h<;>(rw[<-cC h];rfl)
theorem bC (v:Int):(cb v).length<=2:=by grind[H6]
def jk (v:Int):Bytes:=(eZ v).getD []
theorem mI (v:Int):eZ v=some (jk v):=by grind[jk,eZ,cx,ab]
theorem BG (v:Int):fZ v=some (jk v):=mI v
theorem Pc (v:Int):(jk v).length=bif dy v 0 4294967295 then 4 else 0:=by have h:=mI v;simp only[eZ,cx,ab]at h;cases hb:dy v 0 4294967295<;>rw[hb]at h<;>(rw[<-cC h];rfl)
theorem dQ (v:Int):(jk v).length<=4:=by grind[Pc]
def bK (s:Bytes)(i:Nat):Nat:=(s.getD i 0).toNat
theorem eV (s:Bytes)(i:Nat):bK s i<256:=kx _
theorem ki {i:Nat}(h:i<s.length:=by omega):∃x,idx s (i:Int)=some x/\x.toNat=bK s i:=⟨s[i],aW h,by rw[bK,eK h]⟩
def fA (s:Bytes)(a n:Int):Bool:=decide (0<=a/\a+n<=(s.length:Int))
theorem FX (s:Bytes)(a n:Int)(h:s.length<=10^9)(hn:0<=n):om s a n=some (fA s a n):=by
 unfold om fA;by_cases h0:0<=a;by_cases h1:a<=(s.length:Int)
 rw[aw (show a>=0 from h0),aw h1,ai (by omega) (by omega)];simp only[af,ab];congr 1;rw[decide_eq_decide];omega;rw[aw (show a>=0 from h0),ar h1,ar (show¬(0<=a/\a+n<=(s.length:Int)) by omega)];rfl;rw[ar (show¬a>=0 from h0),ar (show¬(0<=a/\a+n<=(s.length:Int)) by omega)];rfl
def cD (s:Bytes)(a:Int):Int:=bif fA s a 2 then((bK s a.toNat*256+bK s (a.toNat+1):Nat):Int) else-1
def fb (s:Bytes)(a:Int):Int:=bif fA s a 4 then(((bK s a.toNat*256+bK s (a.toNat+1))*65536+(bK s (a.toNat+2)*256+bK s (a.toNat+3)):Nat):Int) else-1
theorem sM (s:Bytes)(a:Int)(h:s.length<=10^9):dV s a=some (cD s a):=by unfold dV cD;rw[FX s a 2 h (by omega),ab];cases hw:fA s a 2 with|false=>rfl|true=>simp only[fA,bp]at hw;obtain⟨n,rfl⟩:=aG hw.1;obtain⟨x,hx,ex⟩:=ki (s:=s) (i:=n);obtain⟨y,hy,ey⟩:=ki (s:=s) (i:=n+1);have hxl:=eV s n;have hyl:=eV s (n+1);rw[ai (n:=(n:Int)+1) (by omega) (by omega),hx,show(n:Int)+1=((n+1:Nat):Int) by omega,hy];simp only[aj,ae,ab,az,af];rw[mQ,ex,ey,fJ (by omega),fJ (by omega)];have e8:re 8=8:=rfl;rw[e8,ai (n:=((bK s n:Nat):Int)*2^8) (by omega) (by omega),ai (by omega) (by omega)];congr 1;all_goals omega
theorem Bm (s:Bytes)(a:Int)(h:s.length<=10^9):gV s a=some (fb s a):=by
 unfold gV fb;rw[FX s a 4 h (by omega),ab];cases hw:fA s a 4 with
 |false=>rfl
 |true=>
  simp only[fA,bp]at hw;obtain⟨n,rfl⟩:=aG hw.1;have w1:fA s (n:Int) 2=true:=by grind[fA]
  have w2:fA s ((n:Int)+2) 2=true:=by grind[fA]
  have b0:=eV s n;have b1:=eV s (n+1);have b2:=eV s (n+2);have b3:=eV s (n+3);rw[ai (n:=(n:Int)+2) (by omega) (by omega),sM s _ h,sM s _ h];simp only[aj,ae,ab,af,cD,w1,w2,az];rw[mQ,show((n:Int)+2).toNat=n+2 by omega,show n+2+1=n+3 by omega];have e8:re 16=16:=rfl;rw[e8,ai (n:=((bK s n*256+bK s (n+1):Nat):Int)*2^16) (by omega) (by omega),ai (by omega) (by omega)];congr 1;all_goals omega
theorem aoN (a b:Nat)(ha:a<9223372036854775808)(hb:b<9223372036854775808):toNat (fa (a:Int)|||fa (b:Int))=a|||b:=by show(BitVec.ofInt 64 (a:Int)|||BitVec.ofInt 64 (b:Int)).toNat=_;grind
theorem agt (a b:Nat)(ha:a<9223372036854775808:=by omega)(hb:b<9223372036854775808:=by omega):toNat (fa (a:Int)&&&fa (b:Int))=a&&&b:=by show(BitVec.ofInt 64 (a:Int)&&&BitVec.ofInt 64 (b:Int)).toNat=_;grind
theorem aaa (a b:Nat)(ha:a<9223372036854775808)(hb:b<9223372036854775808):toNat (fa (a:Int)^^^fa (b:Int))=a^^^b:=by show(BitVec.ofInt 64 (a:Int)^^^BitVec.ofInt 64 (b:Int)).toNat=_;grind
theorem ah5 (a b:Nat)(ha:a<4294967296)(hb:b<4294967296):toNat (BitVec.ofInt (IntKind.bits .u32) (a:Int)&&&BitVec.ofInt (IntKind.bits .u32) (b:Int))=a&&&b:=by show(BitVec.ofInt 32 (a:Int)&&&BitVec.ofInt 32 (b:Int)).toNat=_;grind
theorem agM (a b:Nat)(ha:a<4294967296)(hb:b<4294967296):toNat (BitVec.ofInt (IntKind.bits .u32) (a:Int)^^^BitVec.ofInt (IntKind.bits .u32) (b:Int))=a^^^b:=by show(BitVec.ofInt 32 (a:Int)^^^BitVec.ofInt 32 (b:Int)).toNat=_;grind
theorem HW (x k y:Nat)(hy:y<2^k:=by omega)(h:2^k*x+y<9223372036854775808:=by omega):ak (toNat (fa ((2^k*x:Nat):Int)|||fa (y:Int)):Int)=((2^k*x+y:Nat):Int):=by rw[aoN _ _ (by omega) (by omega),<-Nat.two_pow_add_eq_or_of_lt hy];exact fJ h
theorem LX (s:Bytes)(a n:Int):(cond (decide (a<0)) (some true) (some (decide (a>(s.length:Int)-n))))=some (!fA s a n):=by grind[fA]
theorem xF (s:Bytes)(a:Int)(h:s.length<=10^9):eU s a=some (cD s a):=by unfold eU cD;rw[ai (n:=(s.length:Int)-2) (by omega) (by omega)];rw[LX,ab];cases hw:fA s a 2 with|false=>rfl|true=>simp only[fA,bp]at hw;obtain⟨n,rfl⟩:=aG hw.1;obtain⟨x,hx,ex⟩:=ki (s:=s) (i:=n);obtain⟨y,hy,ey⟩:=ki (s:=s) (i:=n+1);have hxl:=eV s n;have hyl:=eV s (n+1);rw[ai (n:=(n:Int)+1) (by omega) (by omega),hx,show(n:Int)+1=((n+1:Nat):Int) by omega,hy];simp only[aj,ae,af,ab,az];rw[mQ,ex,ey,fJ (n:=bK s n) (by omega),fJ (n:=bK s (n+1)) (by omega)];have e8:re 8=8:=rfl;rw[e8,show((bK s n:Nat):Int)*2^8=((2^8*bK s n:Nat):Int) by omega,fJ (n:=2^8*bK s n) (by omega),HW (bK s n) 8 (bK s (n+1))];congr 1;all_goals omega
theorem Bi (s:Bytes)(a:Int)(h:s.length<=10^9):iw s a=some (fb s a):=by
 unfold iw fb;rw[ai (n:=(s.length:Int)-4) (by omega) (by omega)];rw[LX,ab];cases hw:fA s a 4 with
 |false=>rfl
 |true=>
  simp only[fA,bp]at hw;obtain⟨n,rfl⟩:=aG hw.1;obtain⟨x0,h0,e0⟩:=ki (s:=s) (i:=n);obtain⟨x1,h1,e1⟩:=ki (s:=s) (i:=n+1);obtain⟨x2,h2,e2⟩:=ki (s:=s) (i:=n+2);obtain⟨x3,h3,e3⟩:=ki (s:=s) (i:=n+3);have b0:=eV s n;have b1:=eV s (n+1);have b2:=eV s (n+2);have b3:=eV s (n+3)
  rw[ai (n:=(n:Int)+1) (by omega) (by omega),ai (n:=(n:Int)+2) (by omega) (by omega),ai (n:=(n:Int)+3) (by omega) (by omega),h0,show(n:Int)+1=((n+1:Nat):Int) by omega,h1,
   show(n:Int)+2=((n+2:Nat):Int) by omega,h2,show(n:Int)+3=((n+3:Nat):Int) by omega,h3]
  simp only[aj,ae,af,ab,az];rw[mQ,mQ,mQ,e0,e1,e2,e3];generalize bK s n=p0 at*;generalize bK s (n+1)=p1 at*;generalize bK s (n+2)=p2 at*;generalize bK s (n+3)=p3 at*;have f24:re 24=24:=rfl;have f16:re 16=16:=rfl;have f8:re 8=8:=rfl
  rw[fJ (n:=p0) (by omega),fJ (n:=p1) (by omega),fJ (n:=p2) (by omega),fJ (n:=p3) (by omega),f24,f16,f8,
   show((p0:Nat):Int)*2^24=((2^24*p0:Nat):Int) by omega,show((p1:Nat):Int)*2^16=((2^16*p1:Nat):Int) by omega,show((p2:Nat):Int)*2^8=((2^8*p2:Nat):Int) by omega,
   fJ (n:=2^24*p0) (by omega),fJ (n:=2^16*p1) (by omega),fJ (n:=2^8*p2) (by omega),HW p0 24 (2^16*p1),
   show 2^24*p0+2^16*p1=2^16*(2^8*p0+p1) by omega,HW _ 16 (2^8*p2),
   show 2^16*(2^8*p0+p1)+2^8*p2=2^8*(2^8*(2^8*p0+p1)+p2) by omega,HW _ 8 p3]
  congr 1;all_goals omega
def HA (c:Nat):Nat:=if c%2=1 then(c/2)^^^3988292384 else c/2
def vF:Nat->Nat->Nat
 |0,c=>c
 |n+1,c=>HA (vF n c)
def an3 (c:Nat)(s:Bytes):Nat:=s.foldl (λc b=>vF 8 (c^^^b.toNat)) c
def acV (s:Bytes):Int:=4294967295-(an3 4294967295 s:Int)
theorem CX {b:Nat}(ha:a<4294967296)(hb:b<4294967296):a^^^b<4294967296:=Nat.xor_lt_two_pow (n:=32) ha hb
theorem aak (h:c<4294967296):HA c<4294967296:=by grind[HA,CX]
theorem Ir (h:c<4294967296):∀n,vF n c<4294967296
 |0=>h
 |n+1=>aak (Ir h n)
theorem aeB (k0:Int->Int->ax R)(k:Int->ax R)(hk:∀x y,k0 x y=k x)(v0:Bytes)(v4:Int)(c:Nat)(h:c<4294967296):aM (qn k0 v0 v4) fuel ((c:Int),0)=k (vF 8 c:Int):=by
 have xq:=cU
 have key:=Ja (T:=qn k0 v0 v4) 8 (λ(_:Unit) i=>((vF i c:Int),(i:Int))) (λ_ s nx=>nx s) (λ_=>k (vF 8 c:Int))
  (λi s nx hi=>by
   have hc:=Ir h i;simp only[qn];have a1:=agt (vF i c) 1;have x1:=aaa (vF i c/2) 3988292384 (by omega) (by omega);simp only[Int.natCast_one]at a1
   rw[jy,af,a1,Nat.and_one_is_mod,
    show re 1=1 from rfl,show fdiv ((vF i c:Nat):Int) (2^1)=((vF i c/2:Nat):Int) from by rw[Int.fdiv_eq_ediv_of_nonneg _ (by omega)];rfl,
    show(3988292384:Int)=((3988292384:Nat):Int) from rfl,x1,
    fJ (n:=vF i c%2) (by omega),fJ (n:=(vF i c/2)^^^3988292384) (by have:=CX (a:=vF i c/2) (b:=3988292384) (by omega) (by omega);omega),mQ,mQ,ai (n:=(i:Int)+1) (by omega) (by omega)]
   show _=nx ((HA (vF i c):Int),((i+1:Nat):Int));unfold HA;by_cases hp:vF i c%2=1;rw[hp,aF rfl];rfl;have h0:vF i c%2=0:=by omega
   rw[h0,mQ];rfl)
  (λs nx=>by simp only[qn];rw[fT,ae,hk])
  fuel 0 () (by omega) (by omega)
 refine key.trans ?_;rfl
theorem adA (k0:Int->Int->ax R)(k:Int->ax R)(hk:∀x y,k0 x y=k x)(v0:Bytes)(v4:Int)(c:Nat)(h:c<4294967296):aM (qg k0 v0 v4) fuel ((c:Int),0)=k (vF 8 c:Int):=by
 have xq:=cU
 have key:=Ja (T:=qg k0 v0 v4) 8 (λ(_:Unit) i=>((vF i c:Int),(i:Int))) (λ_ s nx=>nx s) (λ_=>k (vF 8 c:Int))
  (λi s nx hi=>by
   have hc:=Ir h i;simp only[qg];have a1:=ah5 (vF i c) 1 (by omega) (by omega);have x1:=agM (vF i c/2) 3988292384 (by omega) (by omega);simp only[Int.natCast_one]at a1
   rw[jy,af,a1,Nat.and_one_is_mod,
    show min (Int.toNat 1) (IntKind.bits .u32)=1 from rfl,show fdiv ((vF i c:Nat):Int) (2^1)=((vF i c/2:Nat):Int) from by rw[Int.fdiv_eq_ediv_of_nonneg _ (by omega)];rfl,
    show(3988292384:Int)=((3988292384:Nat):Int) from rfl,x1,
    J1 (n:=vF i c%2),J1 (n:=(vF i c/2)^^^3988292384) (CX (by omega) (by omega)),mQ,ai (n:=(i:Int)+1) (by omega) (by omega)]
   show _=nx ((HA (vF i c):Int),((i+1:Nat):Int));unfold HA;by_cases hp:vF i c%2=1;rw[hp,aF rfl];rfl;have h0:vF i c%2=0:=by omega
   rw[h0,mQ];rfl)
  (λs nx=>by simp only[qg];rw[fT,ae,hk])
  fuel 0 () (by omega) (by omega)
 refine key.trans ?_;rfl
theorem af3 (s:Bytes)(h:s.length<=10^9):Em s=some (acV s):=by
 unfold Em;have:=Dv (T:=tY (λ(y4:Int) (_:Int)=>some (ak (4294967295-y4))) s) s (λ(c:Nat) i=>((c:Int),(i:Int))) (λ_ c=>c<4294967296) (λb c=> .ok (vF 8 (c^^^b.toNat))) (λc=>some (4294967295-(c:Int))) (by omega) (λi hi c nx hI=>?hs) (λi hi c c' hI hg=>?hn) (λc nx hI=>?hf) 4294967295 (by omega)
 case hs=>
  have hb:=kx s[i]
  simp only[tY]
  rw[jy,aW hi,af,ab,fJ (n:=s[i].toNat) (by omega),aaa c s[i].toNat (by omega) (by omega)]
  have hx:=CX hI (show s[i].toNat<4294967296 by omega)
  rw[fJ (by omega),aeB _ (λy=>nx (y,(i:Int)+1)) (λx y=>by grind[ai]) _ _ _ hx];rfl
 case hn=>
  grind[Ir,CX,kx]
 case hf=>
  grind[tY,ai]
 rw[Jr]at this;exact this
theorem not_xor (c:Nat)(h:c<4294967296):toNat (BitVec.ofInt (IntKind.bits .u32) (IntKind.max .u32)^^^BitVec.ofInt (IntKind.bits .u32) (c:Int))=4294967295-c:=by show(BitVec.ofInt 32 4294967295^^^BitVec.ofInt 32 (c:Int)).toNat=_;rw[show BitVec.ofInt 32 4294967295=BitVec.allOnes 32 by decide,BitVec.ofInt_natCast,BitVec.allOnes_xor,BitVec.toNat_not,BitVec.toNat_ofNat,Nat.mod_eq_of_lt (show c<2^32 by omega)]
theorem afw (s:Bytes)(h:s.length<=10^9):DZ s=some (acV s):=by
 unfold DZ;have:=Dv (T:=tJ (λ(y4:Int) (_:Int)=>some (ak (IntKind.wrap .u32 (toNat (BitVec.ofInt (IntKind.bits .u32) (IntKind.max .u32)^^^BitVec.ofInt (IntKind.bits .u32) y4))))) s) s (λ(c:Nat) i=>((c:Int),(i:Int))) (λ_ c=>c<4294967296) (λb c=> .ok (vF 8 (c^^^b.toNat))) (λc=>some (4294967295-(c:Int))) (by omega) (λi hi c nx hI=>?hs) (λi hi c c' hI hg=>?hn) (λc nx hI=>?hf) 4294967295 (by omega)
 case hs=>
  have hb:=kx s[i]
  simp only[tJ]
  rw[jy,aW hi,af,ab,J1 (n:=s[i].toNat),agM c s[i].toNat (by omega) (by omega)]
  have hx:=CX hI (show s[i].toNat<4294967296 by omega)
  rw[J1 hx,adA _ (λy=>nx (y,(i:Int)+1)) (λx y=>by grind[ai]) _ _ _ hx];rfl
 case hn=>
  grind[Ir,CX,kx]
 case hf=>
  simp only[tJ]
  rw[fT,ae,not_xor c hI,J1,fJ (by omega)]
  congr 1
  all_goals omega
 rw[Jr]at this;exact this
def MR (s:Bytes)(i:Nat):Nat:=bK s (i/8)/2^(7-i%8)%2
theorem Ik (s:Bytes)(i:Nat):MR s i<2:=Nat.mod_lt _ (by omega)
theorem TU (b k:Nat)(hb:b<256)(hk:k<=7):ak (toNat (fa (ak (fdiv (b:Int) ((2^k:Nat):Int)))&&&fa 1))=((b/2^k%2:Nat):Int):=by have e:fdiv (b:Int) ((2^k:Nat):Int)=((b/2^k:Nat):Int):=(Int.ofNat_fdiv b (2^k)).symm;have h1:b/2^k<=b:=Nat.div_le_self _ _;rw[e,fJ (n:=b/2^k) (by omega)];have:=agt (b/2^k) 1;grind[fJ]
theorem Zt (s:Bytes)(i:Nat)(hi:i/8<s.length:=by omega)(h:s.length<=10^9:=by omega):zk s (i:Int)=some ((MR s i:Nat):Int):=by
 have e1:tdiv (i:Int) 8=((i/8:Nat):Int):=(Int.ofNat_tdiv i 8).symm;have e2:tmod (i:Int) 8=((i%8:Nat):Int):=(Int.ofNat_tmod i 8).symm;unfold zk;rw[mQ,e1,ai (n:=((i/8:Nat):Int)) (by omega) (by omega),aW hi,ab,mQ,e2,ai (n:=7-((i%8:Nat):Int)) (by omega) (by omega),mQ];have e3:(2:Int)^(min (Int.toNat (7-((i%8:Nat):Int))) (IntKind.bits .u8))=((2^(7-i%8):Nat):Int):=by grind[Int.toNat,IntKind.bits]
 grind[TU,kx,MR,bK]
theorem ZS (s:Bytes)(i:Nat)(hi:i/8<s.length:=by omega)(h:s.length<=10^9:=by omega):zD s (i:Int)=some ((MR s i:Nat):Int):=by
 have e1:tdiv (i:Int) 8=((i/8:Nat):Int):=(Int.ofNat_tdiv i 8).symm;have e2:tmod (i:Int) 8=((i%8:Nat):Int):=(Int.ofNat_tmod i 8).symm;have hb:=kx s[i/8];unfold zD;rw[mQ,e1,ai (n:=((i/8:Nat):Int)) (by omega) (by omega),aW hi,ab,mQ,e2,ai (n:=7-((i%8:Nat):Int)) (by omega) (by omega),mQ,fJ (n:=s[i/8].toNat) (by omega)];have e3:(2:Int)^(min (Int.toNat (7-((i%8:Nat):Int))) (IntKind.bits .i64))=((2^(7-i%8):Nat):Int):=by grind[Int.toNat,IntKind.bits]
 have e4:fdiv ((s[i/8].toNat:Nat):Int) ((2^(7-i%8):Nat):Int)=((s[i/8].toNat/2^(7-i%8):Nat):Int):=(Int.ofNat_fdiv _ _).symm;have h1:s[i/8].toNat/2^(7-i%8)<=s[i/8].toNat:=Nat.div_le_self _ _;have key:=TU s[i/8].toNat (7-i%8) hb (by omega);rw[e4,fJ (n:=s[i/8].toNat/2^(7-i%8)) (by omega)]at key;simp_all[MR,bK]
def YU (s:Bytes)(a:Nat):Nat->Nat
 |0=>0
 |j+1=>2*YU s a j+MR s (a+j)
theorem ae1 (s:Bytes)(a:Nat):∀j,YU s a j<2^j
 |0=>by simp[YU]
 |j+1=>by have:=ae1 s a j;grind[Ik,YU]
theorem Pa (s:Bytes)(a j:Nat)(hj:j<=32):YU s a j<4294967296:=Nat.lt_of_lt_of_le (ae1 s a j) (Nat.pow_le_pow_right (n:=2) (by omega) hj)
def Wq (s:Bytes)(a:Int):Int:=bif ((s.length:Int) !=16)|| !dy a 0 96 then-1 else((YU s a.toNat 32:Nat):Int)
theorem afF (s:Bytes)(a:Int):wg s a=some (Wq s a):=by
 unfold wg Wq;rw[da];cases hs:(s.length:Int) !=16;case true=>rfl
 cases ha:dy a 0 96;rfl;have h1:=bl.1 ha;have h2:s.length=16:=by simp at hs;omega
 obtain⟨a,rfl⟩:=aG h1.1;simp only[ae,ab,aj,bF,az];refine cq (λi=>(((YU s a i:Nat):Int),((a+i:Nat):Int))) 32 (by omega) (λi nx hi=>?_) (λnx=>?_);have hw:=Pa s a i (by omega);have hb:=Ik s (a+i);simp only[qG];rw[ai (n:=(a:Int)+32) (by omega) (by omega),jy,af,mQ,Zt s (a+i),ab,ai (n:=((a+i:Nat):Int)+1) (by omega) (by omega)];have e1:ak (((YU s a i:Nat):Int)*2^(re 1))=((2^1*YU s a i:Nat):Int):=by have:(2:Int)^(re 1)=2:=rfl;rw[this,ai (by omega) (by omega)];omega
 rw[e1,HW _ _ _];rw[show(((a+i:Nat):Int)+1)=((a+(i+1):Nat):Int) by omega];rfl;simp only[qG];rw[ai (n:=(a:Int)+32) (by omega) (by omega),fT];rfl
theorem af8 (s:Bytes)(a:Int):wT s a=some (Wq s a):=by
 unfold wT Wq;rw[cx];cases hs:(s.length:Int) !=16;case true=>rfl
 cases ha:dy a 0 96;rfl;have h1:=bl.1 ha;have h2:s.length=16:=by simp at hs;omega
 obtain⟨a,rfl⟩:=aG h1.1;simp only[ae,ab,aj,bF,az];refine cq (λi=>(((YU s a i:Nat):Int),(i:Int))) 32 (by omega) (λi nx hi=>?_) (λnx=>?_);have hw:=Pa s a i (by omega);have hb:=Ik s (a+i);simp only[qT];rw[jy,af,ai (n:=(a:Int)+(i:Int)) (by omega) (by omega),show(a:Int)+(i:Int)=((a+i:Nat):Int) by omega,ZS s (a+i),ab,ai (n:=(i:Int)+1) (by omega) (by omega)];rw[ai (n:=2*((YU s a i:Nat):Int)) (by omega) (by omega),ai (by omega) (by omega),YU];congr 1;simp only[qT];rw[fT];rfl
def G4 (s v:Bytes):Nat->Nat
 |0=>0
 |i+1=>if MR v i=1 then G4 s v i^^^YU s i 32 else G4 s v i
theorem Nv (s v:Bytes):∀i,G4 s v i<4294967296
 |0=>by simp[G4]
 |i+1=>by have:=Nv s v i;grind[G4,CX,Pa]
def Cf (s v:Bytes):Int:=bif ((s.length:Int) !=16)||decide ((v.length:Int)>12) then-1 else((G4 s v (8*v.length):Nat):Int)
theorem adC (s v:Bytes):vY s v=some (Cf s v):=by
 unfold vY Cf;cases hs:(s.length:Int) !=16;case true=>rfl
 cases hv:decide ((v.length:Int)>12);case true=>rfl
 have h2:s.length=16:=by simp at hs;omega
 have h3:v.length<=12:=by simp at hv;omega
 simp only[ae,ab,bF];refine cq (λi=>(((G4 s v i:Nat):Int),(i:Int))) (8*v.length) (by omega) (λi nx hi=>?_) (λnx=>?_);have hw:=Pa s i 32 (by omega);have hh:=Nv s v i;have hb:=Ik v i;have eW:Wq s (i:Int)=((YU s i 32:Nat):Int):=by unfold Wq;rw[hs,bl.2 (show(0:Int)<=(i:Int)/\(i:Int)<=96 by omega)];rfl
 simp only[qD];rw[ai (n:=8*(v.length:Int)) (by omega) (by omega),jy,af,Zt v i,ab,afF,ab,eW,aaa _ _ (by omega) (by omega),ai (n:=(i:Int)+1) (by omega) (by omega),fJ (Nat.lt_trans (CX hh hw) (by omega)),G4];by_cases h1:MR v i=1;rw[h1,aF rfl];rfl;rw[aH h1,show(((MR v i:Nat):Int)==1)=false from by simp;omega];rfl;simp only[qD];rw[ai (n:=8*(v.length:Int)) (by omega) (by omega),fT];rfl
theorem aeD (s v:Bytes):wP s v=some (Cf s v):=by
 unfold wP Cf;cases hs:(s.length:Int) !=16;case true=>rfl
 cases hv:decide ((v.length:Int)>12);case true=>rfl
 have h2:s.length=16:=by simp at hs;omega
 have h3:v.length<=12:=by simp at hv;omega
 simp only[ae,ab,bF];refine cq (λi=>(((G4 s v i:Nat):Int),(i:Int))) (8*v.length) (by omega) (λi nx hi=>?_) (λnx=>?_);have hw:=Pa s i 32 (by omega);have hh:=Nv s v i;have hb:=Ik v i;have eW:Wq s (i:Int)=((YU s i 32:Nat):Int):=by unfold Wq;rw[hs,bl.2 (show(0:Int)<=(i:Int)/\(i:Int)<=96 by omega)];rfl
 simp only[qQ];rw[ai (n:=8*(v.length:Int)) (by omega) (by omega),jy,af,ZS v i,ab,af8,ab,eW,aaa _ _ (by omega) (by omega),ai (n:=(i:Int)+1) (by omega) (by omega),fJ (Nat.lt_trans (CX hh hw) (by omega)),G4];by_cases h1:MR v i=1;rw[h1,aF rfl];rfl;rw[aH h1,show(((MR v i:Nat):Int)==1)=false from by simp;omega];rfl;simp only[qQ];rw[ai (n:=8*(v.length:Int)) (by omega) (by omega),fT];rfl
def zL (f:DF):Bytes:=((jk f.2.1++jk f.2.2.1)++cb f.2.2.2.1)++cb f.2.2.2.2
theorem XA (f:DF):vZ f=some (zL f):=by have:=dQ f.2.1;have:=dQ f.2.2.1;have:=bC f.2.2.2.1;have:=bC f.2.2.2.2;simp only[vZ,BG,kT,ab];rw[aQ (by omega),aQ (by grind),aQ (by grind)];rfl
theorem Yx (f:DF):wQ f=some (zL f):=by have:=dQ f.2.1;have:=dQ f.2.2.1;have:=bC f.2.2.2.1;have:=bC f.2.2.2.2;simp only[wQ,mI,gU,ab];rw[aQ (by omega),aQ (by grind),aQ (by grind)];rfl
theorem IV (s:Bytes)(f:DF):tL s f=some (Cf s (zL f)):=by grind[tL,XA,adC,ab]
theorem JG (s:Bytes)(f:DF):ub s f=some (Cf s (zL f)):=by grind[ub,Yx,aeD,ab]
def CH (s:jV)(f:DF):Int:=bif ((s.2.length:Int)==0)||decide (Cf s.1 (zL f)<0) then-1 else tmod (Cf s.1 (zL f)) (s.2.length:Int)
theorem aaO (s:jV)(f:DF):Ax s f=some (CH s f):=by grind[Ax,CH,IV,ab]
theorem ab4 (s:jV)(f:DF):AJ s f=some (CH s f):=by grind[AJ,CH,JG,ab]
theorem Ke (s:jV)(f:DF)(h:¬CH s f<0):∃n:Nat,CH s f=(n:Int)/\n<s.2.length:=by
 unfold CH at h⊢;cases hc:((s.2.length:Int)==0)||decide (Cf s.1 (zL f)<0)with
 |true=>grind
 |false=>
  rw[hc]at h;simp only[cX,cK,cP]at hc;simp only[ae]at h⊢;have h1:0<=Cf s.1 (zL f):=by omega
  rw[dU h1]at h⊢;have:=fQ (Cf s.1 (zL f)) (show(0:Int)<s.2.length by omega);grind[aG]
def GL (s:jV)(q:Int)(f:DF):Int:=bif !xk s q||decide (CH s f<0) then-1 else s.2.getD (CH s f).toNat 0
theorem U2 (s:jV)(q:Int)(f:DF)(h:s.2.length<=10^9):sy s q f=some (GL s q f):=by unfold sy GL;grind[aaO,ab,NR,Ke,dM,aW]
theorem V6 (s:jV)(q:Int)(f:DF)(h:s.2.length<=10^9):sX s q f=some (GL s q f):=by unfold sX GL;grind[ab4,ab,HY,Ke,dM,aW]
theorem RM (t:au Slot)(f:DF)(h:∀j,j<8->qa (fS t j) f=false):∀n k,walk t f n k= -1
 |0,_=>rfl
 |n+1,k=>by unfold walk;rw[h _ (GO f k),RM t f h n (k+1)];split<;>rfl
theorem K9 (f:DF):∀(t:au Slot)(m:Int),(∀s∈t,qa s f=false)->zJ f t m= -1
 |[],_,_=>rfl
 |s::r,m,h=>by unfold zJ;rw[h s (by simp)];exact K9 f r (m+1) (λx hx=>h x (by simp[hx]))
theorem Xg (t:au Slot)(f:DF)(h:qv t=true):zJ f t 0=walk t f 8 0:=by simp only[qv,ah,bw,aL,cW]at h;obtain⟨h8,hs⟩:=h;by_cases hex:∃j,j<t.length/\qa (fS t j) f=true;obtain⟨j,hj,hu,e⟩:=Fe f t 0 hex;have:=hs j (by omega);simp only[nR,ah,di,aN,bw]at this;simp only[qa,ah,bw,bp]at hu;rcases this.2 with g|g;rw[hu.1]at g;simp at g;rw[hu.2]at g;rw[show((0:Int))=((0:Nat):Int) from rfl,e,g];omega;have hn:∀j,j<t.length->qa (fS t j) f=false:=λj hj=>Bool.eq_false_iff.2 λhu=>hex ⟨j,hj,hu⟩;rw[RM t f (λj hj=>hn j (by omega)),K9];intro s uo;obtain⟨j,hj,rfl⟩:=List.getElem_of_mem uo;have:=hn j hj;rwa[xQ hj]at this
def findF (t:au Slot)(f:DF):Int:=bif qv t then walk t f 8 0 else-1
theorem Sz (t:au Slot)(f:DF)(h:t.length<=10^9):yj t f=some (findF t f):=by grind[yj,findF,QS,ab,U1,Xg]
theorem Ta (t:au Slot)(f:DF):yH t f=some (findF t f):=by grind[yH,findF,KW,ab,qv,OH]
theorem Z6 (t:au Slot)(f:DF):∀n k,walk t f n k= -1\/∃m:Nat,walk t f n k=(m:Int)/\m<8
 |0,_=> .inl rfl
 |n+1,k=>by unfold walk;split;exact .inl rfl;split;exact .inr ⟨_,rfl,GO f k⟩;exact Z6 t f n (k+1)
theorem Nh (t:au Slot)(f:DF)(h:findF t f>=0):∃m:Nat,findF t f=(m:Int)/\m<t.length:=by
 unfold findF at h⊢;cases ht:qv t with
 |false=>grind
 |true=>
  rw[ht]at h;simp only[af]at h⊢;have h8:t.length=8:=by grind[qv]
  rcases Z6 t f 8 0 with g|⟨m,g,hm⟩;all_goals grind
def cG (m:bD):Bool:=m.all (λx=>(x.length:Int)==128)&&decide ((m.length:Int)<=64)
theorem Ej (m:bD)(h:m.length<=10^9):qo m=some (cG m):=by
 unfold qo cG;rw[sc (fin:=some (decide ((m.length:Int)<=64))) (λx:Bytes=>(x.length:Int)==128) m (by omega) (λi hi nx=>?hs) (λnx=>?hf)]
 case hs=>
  simp only[sS]
  rw[jy,aW hi,ai (by omega) (by omega)];rfl
 all_goals grind[sS]
theorem HR (m:bD)(h:m.length<=10^9):tN m=some (cG m):=Ej m h
def SO:ay:=(0,0,0,false)
def Kx (m:ay):Bool:=dy m.1 0 7&&(dy m.2.1 0 1023&&dy m.2.2.1 0 63)
def vu (d p:Int)(m:ay):Bool:=(m.1==d)&&(m.2.1==p)
def SM (l:au ay)(i:Nat):Bool:=Kx (l.getD i SO)&&(range i).all (λj=> !(vu (l.getD i SO).1 (l.getD i SO).2.1 (l.getD j SO)))
def eX (l:au ay):Bool:=decide ((l.length:Int)<=96)&&(range l.length).all (SM l)
theorem JH (l:au ay)(h:l.length<=10^9):pO l=some (eX l):=by
 unfold pO eX;rw[qc (hit:=some false) (fin:=some true) (SM l) l.length (by omega) (λi nx hi=>?hs) (λnx=>?hf)]
 case hs=>
  simp only[pe]
  rw[jy,aW hi,ai (by omega) (by omega)]
  simp only[af,ab,cx,cw]
  rw[qc (hit:=some false) (fin:=nx ((i)+1)) (λj=> !(vu l[i].1 l[i].2.1 (l.getD j SO))) i (by omega) (λj nx hj=>?hs2) (λnx=>?EH)]
  case hs2=>
   grind[nm,aW,ai,ab,vu]
  all_goals grind[nm,SM,Kx]
 all_goals grind[pe]
def Vq (l:au ay)(d p:Int):Int:=match l.findIdx? (vu d p)with|some i=>(i:Int)|none=> -1
theorem US (l:au ay)(d p:Int)(h:l.length<=10^9):nK l d p=some (Vq l d p):=by unfold nK Vq;rw[Gj (hit:=λi=>some i) (fin:=some (-1)) (vu d p) l (by omega) (λi hi nx=>?hs) (λnx=>?hf)];all_goals grind[tz,aW,ai,ab,vu]
theorem Yb (l:au ay)(i:Nat)(hi:i<l.length):(Vq l l[i].1 l[i].2.1==(i:Int))=(range i).all (λj=> !(vu l[i].1 l[i].2.1 (l.getD j SO))):=by
 have Cg:vu l[i].1 l[i].2.1 l[i]=true:=by simp[vu]
 unfold Vq;cases hq:l.findIdx? (vu l[i].1 l[i].2.1)with
 |none=>rw[List.findIdx?_eq_none_iff]at hq;rw[hq l[i] (aY hi)]at Cg;cases Cg
 |some k=>
  rw[List.findIdx?_eq_some_iff_getElem]at hq;obtain⟨hk,hpk,gB⟩:=hq;rw[fe,aL];simp only[cW,bw,aN];constructor;intro e j hj;have hjl:j<l.length:=by omega
  rw[eK hjl];have:=gB j (by omega);simpa using this;intro EU;rcases Nat.lt_trichotomy k i with hki|hki|hki;have:=EU k hki;rw[eK hk,hpk]at this;cases this;omega;have:=gB i hki;rw[Cg]at this;simp at this
theorem IW (l:au ay)(h:l.length<=10^9):pD l=some (eX l):=by
 unfold pD eX;rw[qc (hit:=some false) (fin:=some (decide ((l.length:Int)<=96))) (SM l) l.length (by omega) (λi nx hi=>?hs) (λnx=>?hf)]
 case hs=>
  simp only[oO]
  rw[jy,aW hi,ai (by omega) (by omega)]
  grind[ab,da,US,Yb,SM,Kx,dy]
 all_goals grind[oO]
def Fj (n:Int)(l:cL)(i:Nat):Bool:=dy (l.getD i 0) 0 (n-1)&& !((l.take i).contains (l.getD i 0))
def dH (p:cM):Bool:=dy p.1 0 130944&&(dy p.2.1 1 512&&(dy p.2.2.1 0 16&&(range p.2.2.2.length).all (Fj p.2.2.1 p.2.2.2)))
def ER (n:Int)(l:cL):au Bool:=(range n.toNat).map λk:Nat=>l.contains (k:Int)
theorem Rn (n:Int)(l:cL):(ER n l).length=n.toNat:=by simp[ER]
theorem GA (n:Int)(l:cL)(k:Nat)(h:k<(ER n l).length):(ER n l)[k]=l.contains (k:Int):=by simp[ER]
theorem abU (n:Int)(l:cL)(k:Nat)(h:k<n.toNat):(ER n l).set k true=ER n (l++[(k:Int)]):=by
 apply List.ext_getElem;simp[ER];intro j h1 h2;rw[List.getElem_set];split;rename_i e;subst e;rw[GA];simp;rename_i e;rw[GA,GA];simp only[List.contains_append];have:([(k:Int)].contains (j))=false:=by simp;omega
 rw[this];simp
theorem Vu {T:(au Bool×Int->ax Bool)->au Bool×Int->ax Bool}(n:Int)(l:cL)(hl:l.length<=10^9)
 (hs:∀i (hi:i<l.length)(s:au Bool) nx,T nx (s,(i:Int))=aa (cond (!(dy l[i] 0 (n-1))) (some true) (aa (idx s l[i]) λx=>some x)) λq=>
  cond q (some false) (aa (idx s l[i]) λ_=>aa (idx s l[i]) λ_=>nx (s.set l[i].toNat true,((i+1:Nat):Int)))) (hf:∀s nx,T nx (s,(l.length:Int))=some true):
 aM T fuel (List.replicate n.toNat false,0)=some ((range l.length).all (Fj n l)):=by
 have e0:(List.replicate n.toNat false,(0))=(ER n (l.take 0),((0:Nat):Int)):=by congr 1;simp only[ER,List.take_zero,List.contains_nil,List.map_const',List.length_range]
 rw[e0,J8 (λi=>(ER n (l.take i),(i:Int))) (Fj n l) l.length (by omega) (λi nx hi hp=>?hs) (λ_ nx=>hf _ nx)]
 case hs=>
  rw[hs i hi]
  unfold Fj
  rw[eK hi]
  by_cases vS:dy l[i] 0 (n-1)=true
  ·have hb:=vS
   rw[bl]at hb
   obtain⟨k,hk⟩:∃k:Nat,l[i]=(k):=⟨l[i].toNat,by omega⟩
   have hkn:k<(ER n (l.take i)).length:=by rw[Rn];omega
   rw[vS,hk,aW hkn,GA]
   simp only[aj,ae,ab,bB,Bool.not_not,az]
   rw[abU _ _ _ (by rw[Rn]at hkn;exact hkn),<-hk,<-bg hi]
  ·have ahb:dy l[i] 0 (n-1)=false:=by simpa using vS
   rw[ahb];rfl
 cases (range l.length).all (Fj n l)<;>rfl
theorem tX (p:cM)(h:p.2.2.2.length<=10^9):iL p=some (dH p):=by
 unfold iL dH;simp only[cx,ab,cw];by_cases hn:dy p.2.2.1 0 16=true
 ·have hb:=hn;rw[bl]at hb;rw[zip,aQ (by omega),Vu p.2.2.1 p.2.2.2 h (λi hi s nx=>?hs) (λs nx=>?hf)]
  case hs=>
   simp only[wX]
   rw[jy,aW hi,ai (by omega) (by omega),ai (by omega) (by omega)]
   simp only[af,ab,cx];rfl
  case hf=>
   simp only[wX]
   rw[fT];rfl
  rw[hn];cases dy p.1 0 130944<;>cases dy p.2.1 1 512<;>rfl
 have Dc:dy p.2.2.1 0 16=false:=by simpa using hn
 rw[Dc];cases dy p.1 0 130944<;>cases dy p.2.1 1 512<;>rfl
theorem vU (p:cM)(h:p.2.2.2.length<=10^9):iI p=some (dH p):=by
 unfold iI dH;simp only[da,ab,cw];by_cases hn:dy p.2.2.1 0 16=true
 ·have hb:=hn;rw[bl]at hb;rw[zip,aQ (by omega),Vu p.2.2.1 p.2.2.2 h (λi hi s nx=>?hs) (λs nx=>?hf)]
  case hs=>
   simp only[wj]
   rw[jy,aW hi,ai (by omega) (by omega),ai (by omega) (by omega)]
   simp only[af,ab,da];rfl
  case hf=>
   simp only[wj]
   rw[fT];rfl
  rw[hn];cases dy p.1 0 130944<;>cases dy p.2.1 1 512<;>rfl
 have Dc:dy p.2.2.1 0 16=false:=by simpa using hn
 rw[Dc];cases dy p.1 0 130944<;>cases dy p.2.1 1 512<;>rfl
def jQ (n:Int):Bool:=(n==2)||((n==4)||((n==8)||(n==16)))
theorem D5 (n:Int):ti n=some (jQ n):=by grind[ti,ab,jQ]
theorem FN (n:Int):tS n=some (jQ n):=D5 n
theorem gH {n:Int}:jQ n=true↔n=2\/n=4\/n=8\/n=16:=by simp[jQ]
theorem DD (x:Int)(k:Nat)(hk:k<=64:=by omega):ak x%(2^k:Int)=x%(2^k:Int):=by
 obtain⟨c,hc⟩:∃c:Int,(18446744073709551616)=2^k*c:=⟨2^(64-k),by rw[<-Int.pow_add,show k+(64-k)=64 by omega];rfl⟩
 have:ak x=x\/∃q:Int,ak x=x+18446744073709551616*q:=by right;simp only[ak,gh,IntKind.wrap,IntKind.bits,IntKind.signed];simp;split;exact⟨-(x/18446744073709551616)-1,by omega⟩;exact⟨-(x/18446744073709551616),by omega⟩
 rcases this with h|⟨q,h⟩;all_goals simp_all[Int.mul_assoc]
theorem C0 (x:Int)(k:Nat)(hk:k<63:=by omega):((fa x&&&fa (2^k-1)).toNat:Int)=x%2^k:=by
 have h2:(2)^k<=2^62:=by have:(2)^k<=2^62:=Nat.pow_le_pow_right (by omega) (by omega);exact_mod_cast this
 have hm:(fa (2^k-1)).toNat=2^k-1:=by show(BitVec.ofInt 64 (2^k-1)).toNat=2^k-1;grind
 rw[BitVec.toNat_and,hm,Nat.and_two_pow_sub_one_eq_mod];have hx:0<=x%18446744073709551616:=by omega
 have e:(((x%18446744073709551616).toNat%2^k))=(x%18446744073709551616)%2^k:=by push_cast;rw[Int.toNat_of_nonneg hx]
 refine e.trans ?_;exact Int.emod_emod_of_dvd x ⟨2^(64-k),by rw[<-Int.pow_add,show k+(64-k)=64 by omega];rfl⟩
theorem KA (x n:Int)(h0:0<n:=by omega)(h1:n<=4611686018427387904:=by omega):iJ x n=some (x%n):=by unfold iJ;have:=Int.emod_nonneg x (show n≠0 by omega);grind[fQ,ai]
def cj (r:kg):Int:=if jQ r.2.1 then(r.2.2.2-r.2.2.1)%(2*r.2.1) else 0
theorem BS (r:kg):jv r=some (cj r):=by
 unfold jv cj;rw[D5,ab];cases hs:jQ r.2.1 with
 |false=>rfl
 |true=>
  congr 1;rcases gH.1 hs with h|h|h|h<;>rw[h];have e:ak (ak (2*2)-1)=2^2-1:=by decide
  rw[e,C0 _ 2,DD _ 2,ai (by omega) (by omega)];rfl;have e:ak (ak (2*4)-1)=2^3-1:=by decide
  rw[e,C0 _ 3,DD _ 3,ai (by omega) (by omega)];rfl;have e:ak (ak (2*8)-1)=2^4-1:=by decide
  rw[e,C0 _ 4,DD _ 4,ai (by omega) (by omega)];rfl;have e:ak (ak (2*16)-1)=2^5-1:=by decide
  rw[e,C0 _ 5,DD _ 5,ai (by omega) (by omega)];rfl
theorem BE (r:kg):js r=some (cj r):=by unfold js cj;rw[FN,ab];cases hs:jQ r.2.1 with|false=>rfl|true=>have hb:=gH.1 hs;rw[ai (by omega) (by omega)];simp only[KA _ (2*r.2.1) (show 0<2*r.2.1 by omega),ab];grind[ai]
def du (r:kg):Bool:=dy r.1 0 130944&&(jQ r.2.1&&(dy r.2.2.1 0 (2*r.2.1-1)&&(dy r.2.2.2 0 (2*r.2.1-1)&&decide (cj r<=r.2.1))))
theorem Dw {n:Int}(h:jQ n=true):ak (ak (2*n)-1)=2*n-1:=by grind[gH,ai]
theorem zB (r:kg):jH r=some (du r):=by unfold jH du;simp only[cx,D5,BS,ab,cw,cF];grind[jQ,Dw]
theorem zg (r:kg):jD r=some (du r):=by unfold jD du;simp only[da,FN,BE,ab,cw,cF];grind[jQ,Dw]
theorem xI (p:cM)(h:p.2.2.2.length<=10^9):jw p=some p:=by grind[jw,aQ]
theorem oC (l:cL)(h:l.length<=10^9):fN l=some l:=by grind[fN,aQ]
theorem vk (p:cM)(h:p.2.2.2.length<=10^9):ik p=some p:=by simp_all[ik,oC]
def iA (p:cM)(l:cL):cM:=(p.1,p.2.1,p.2.2.1,p.2.2.2++l)
def Fl (p:cM)(l:cL):Bool:=dH p&&dH (iA p l)
def HL (p:cM)(l:cL):cM×Bool:=bif Fl p l then(iA p l,true) else(p,false)
theorem OJ (p:cM)(l:cL)(h:p.2.2.2.length+l.length<=10^9):gr p l=some (HL p l):=by unfold gr;rw[xI p (by omega),ab,aQ (by omega),tX p (by omega)];rw[tX (p.1,p.2.1,p.2.2.1,p.2.2.2++l) (by simp;omega)];show _=some (bif dH p&&dH (p.1,p.2.1,p.2.2.1,p.2.2.2++l) then _ else _);cases dH p<;>cases dH (p.1,p.2.1,p.2.2.1,p.2.2.2++l)<;>rfl
theorem NN (p:cM)(l:cL)(h:p.2.2.2.length+l.length<=10^9):fL p l=some (HL p l):=by unfold fL;rw[vk p (by omega),ab,aQ (by omega),vU p (by omega)];rw[vU (p.1,p.2.1,p.2.2.1,p.2.2.2++l) (by simp;omega)];show _=some (bif dH p&&dH (p.1,p.2.1,p.2.2.1,p.2.2.2++l) then _ else _);cases dH p<;>cases dH (p.1,p.2.1,p.2.2.1,p.2.2.2++l)<;>rfl
theorem adb (p:cM)(l:cL):(HL p l).2=Fl p l:=by grind[HL]
def iV (n:Int)(s:oJ):Bool:=dy s.2.1 1 n&&dy s.1 0 65535
def bj (l:au oJ):cL:=l.flatMap (·.2.2)
def dc (l:au oJ):Int:=(l.map (·.2.1)).sum
def JY (t:bX):Bool:=du t.1&&(dH t.2.1&&(dy t.2.2.2 0 65535&&(t.2.2.1.all (iV t.1.2.1)&&(Fl t.2.1 (bj t.2.2.1)&&decide (dc t.2.2.1<=t.1.2.1)))))
theorem Ap (n:Int):∀l:au oJ,l.all (iV n)=true->0<=dc l
 |[],_=>by simp[dc]
 |x::l,h=>by simp only[bR,ah]at h;have:=Ap n l h.2;grind[iV,bl,dc]
theorem Rx (p:cM)(n:Int)(hn:0<=n/\n<=16)(fin:Int×cL->ax Bool)(ri:∀s:Int×cL,p.2.2.2.length+s.2.length<=10^9->fin s=some (Fl p s.2&&decide (s.1<=n))):
 ∀(l:au oJ)(sum:Int)(acc:cL),0<=sum->sum+16*l.length<=100000000000->p.2.2.2.length+(acc.length+(bj l).length)<=10^9->
 Ad (λx (s:Int×cL) k=>cond (!(iV n x)) (some false) (room (s.2.length+x.2.2.length) (k (ak (s.1+x.2.1),s.2++x.2.2)))) fin l (sum,acc)
  =some (l.all (iV n)&&(Fl p (acc++bj l)&&decide (sum+dc l<=n)))
 |[],sum,acc,h0,h1,h2=>by simp_all[Ad,bj,dc]
 |x::l,sum,acc,h0,h1,h2=>by
  have hb:bj (x::l)=x.2.2++bj l:=by simp[bj]
  rw[hb,aq]at h2;rw[Ad,bR];cases hx:iV n x with
  |false=>rfl
  |true=>
   have B7:=hx;unfold iV at B7;simp only[ah,bl]at B7;simp only[bZ,Int.natCast_add,Int.natCast_one]at h1;simp only[aj,ae,bB];rw[aQ (by omega),ai (by omega) (by omega),Rx p n hn fin ri l _ _ (by omega) (by omega) (by rw[aq];omega)];rw[hb,aZ];have e:sum+x.2.1+dc l=sum+dc (x::l):=by grind[dc]
   rw[e]
theorem QO (p:cM)(n:Int)(hn:n<=16)(fin:Int×cL->ax Bool)(ri:∀s:Int×cL,p.2.2.2.length+s.2.length<=10^9->fin s=some (Fl p s.2)):
 ∀(l:au oJ)(left:Int)(acc:cL),0<=left->left<=n->p.2.2.2.length+(acc.length+(bj l).length)<=10^9->
 Ad (λx (s:Int×cL) k=>cond (decide (x.2.1<1)||(decide (x.2.1>s.1)|| !(dy x.1 0 65535))) (some false) (room (s.2.length+x.2.2.length) (k (ak (s.1-x.2.1),s.2++x.2.2)))) fin l (left,acc)
  =some (l.all (iV n)&&(Fl p (acc++bj l)&&decide (dc l<=left)))
 |[],left,acc,h0,h1,h2=>by rw[Ad,ri _ (by exact h2)];simp[bj,dc,h0]
 |x::l,left,acc,h0,h1,h2=>by
  have hb:bj (x::l)=x.2.2++bj l:=by simp[bj]
  have hc:dc (x::l)=x.2.1+dc l:=by simp only[dc,List.map_cons,List.sum_cons]
  rw[hb,aq]at h2;rw[Ad,bR,hb,hc];by_cases c1:x.2.1<1;have e:iV n x=false:=by unfold iV dy;rw[ar (show¬1<=x.2.1 by omega)];rfl
  rw[e,aw c1];rfl;rw[ar c1];by_cases c2:x.2.1>left;rw[aw c2];cases ha:l.all (iV n)with|false=>simp|true=>have:=Ap n l ha;rw[ar (show¬x.2.1+dc l<=left by omega)];simp
  rw[ar c2];have e:iV n x=dy x.1 0 65535:=by have:dy x.2.1 1 n=true:=bl.2 ⟨by omega,by omega⟩;unfold iV;rw[this];rfl
  rw[e];cases dy x.1 0 65535 with
  |false=>rfl
  |true=>
   simp only[cJ,aj,ae,bB];rw[aQ (by omega),ai (by omega) (by omega),QO p n hn fin ri l _ _ (by omega) (by omega) (by rw[aq];omega),aZ];have e:decide (dc l<=left-x.2.1)=decide (x.2.1+dc l<=left):=by simp;omega
   rw[e]
theorem YF (t:bX)(h1:t.2.2.1.length<=10^9)(h2:t.2.1.2.2.2.length+(bj t.2.2.1).length<=10^9):Bn t=some (JY t):=by
 unfold Bn JY;simp only[zB,tX _ (show t.2.1.2.2.2.length<=10^9 by omega),cx,ab,cw];cases hr:du t.1 with
 |false=>rfl
 |true=>
  have hn:0<=t.1.2.1/\t.1.2.1<=16:=by grind[du,gH]
  have xq:=cU;have key:=Bk (T:=xb (λ(y9) (xo) (_)=>aa (gr t.2.1 xo) λpA=>some (bif pA.2 then decide (y9<=t.1.2.1) else false)) (λ(DE) (_) (_) (_)=>some DE) false t) t.2.2.1 (λ(s) i=>(s.1,s.2,(i))) (λx (s) k=>cond (!(iV t.1.2.1 x)) (some false) (room (s.2.length+x.2.2.length) (k (ak (s.1+x.2.1),s.2++x.2.2)))) (λs=>aa (gr t.2.1 s.2) λpA=>some (pA.2&&decide (s.1<=t.1.2.1))) (λi hi s nx=>by simp(disch:=omega)[xb,aw,aW,ai,cx,iV]) (λs nx=>by grind[xb]) fuel 0 (0,([])) (by omega) (by omega);rw[eG,Rx t.2.1 t.1.2.1 hn _ (λs hs=>by grind[OJ,ab,adb]) _ _ _ (by omega) (by omega) (by simpa using h2)]at key;grind
theorem XH (t:bX)(h1:t.2.2.1.length<=10^9)(h2:t.2.1.2.2.2.length+(bj t.2.2.1).length<=10^9):Bj t=some (JY t):=by
 unfold Bj JY;simp only[zg,vU _ (show t.2.1.2.2.2.length<=10^9 by omega),da,ab,cw];cases hr:du t.1 with
 |false=>rfl
 |true=>
  have hn:0<=t.1.2.1/\t.1.2.1<=16:=by grind[du,gH]
  have xq:=cU;have key:=Bk (T:=wu (λ(_) (y9) (_)=>aa (fL t.2.1 y9) λsL=>some sL.2) (λ(GU) (_) (_) (_)=>some GU) false t.2.2.1 ((List.length t.2.2.1)) t) t.2.2.1 (λ(s) i=>(s.1,s.2,(i))) (λx (s) k=>cond (decide (x.2.1<1)||(decide (x.2.1>s.1)|| !(dy x.1 0 65535))) (some false) (room (s.2.length+x.2.2.length) (k (ak (s.1-x.2.1),s.2++x.2.2)))) (λs=>aa (fL t.2.1 s.2) λpA=>some pA.2) (λi hi s nx=>by simp(disch:=omega)[wu,aw,aW,ai,da,cw]) (λs nx=>by grind[wu]) fuel 0 (t.1.2.1,([])) (by omega) (by omega);rw[eG,QO t.2.1 t.1.2.1 (by omega) _ (λs hs=>by grind[NN,ab,adb]) _ _ _ (by omega) (by omega) (by simpa using h2)]at key;grind
def vf (s:ei):Bool:=dy s.2.1 0 65535&&(dy s.2.2.1 0 65535&&(!decide ((List.length s.2.2.2.2.2.2.2:Int)>320)&&
 (bif s.1==17 then(s.2.2.2.1==0)&&((s.2.2.2.2.1==0)&&((s.2.2.2.2.2.1==0)&&(s.2.2.2.2.2.2.1==0)))
  else(s.1==6)&&(dy s.2.2.2.1 0 4294967295&&(dy s.2.2.2.2.1 0 4294967295&&(dy s.2.2.2.2.2.1 0 31&&dy s.2.2.2.2.2.2.1 0 65535))))))
theorem ZW (s:ei):rU s=some (vf s):=by simp_all[rU,cx,cw,Bool.and_assoc,vf]
theorem Zx (s:ei):rA s=some (vf s):=by simp only[rA,da,ab,cw,cF,cT,cN,Bool.not_or,Bool.not_not,Bool.and_assoc,vf];by_cases h:s.1=17;rw[h];rfl;rw[show(s.1==17)=false from by simpa using h];cases s.1==6<;>rfl
def Ff (f:Int):Bool:=(f==16)||(f==17)||(f==24)||(f==25)
theorem HF (f:Int)(h:dy f 0 31=true):(ak (toNat (fa f&&&~~~ fa 9))==16)=Ff f:=by
 have key:∀k:Fin 32,(ak (toNat (fa (k.val:Int)&&&~~~ fa 9))==16)=Ff (k.val:Int):=by decide
 rw[bl]at h;have:=key ⟨f.toNat,by omega⟩;grind
theorem Nk (f:Int)(h:dy f 0 31=true):rG f=some (Ff f):=by
 have key:∀k:Fin 32,((ak (toNat (fa (k.val:Int)&&&fa 16)) !=0)&&(ak (toNat (fa (k.val:Int)&&&~~~ fa 25))==0))=Ff (k.val:Int):=by decide
 rw[bl]at h;have:=key ⟨f.toNat,by omega⟩;rw[show((f.toNat:Nat):Int)=f by omega]at this;grind[rG,ab]
theorem GB {s:ei}(h:vf s=true)(h6:(s.1==6)=true):dy s.2.2.2.2.2.1 0 31=true:=by grind[vf]
def vQ (p:aD):Bool:=dy p.1 0 281474976710655&&(dy p.2.1 0 281474976710655&&(dy p.2.2.1 (-1) 4095&&(dy p.2.2.2.1 0 255&&(dy p.2.2.2.2.2.1 0 255&&(dy p.2.2.2.2.1 0 65535&&(dy p.2.2.2.2.2.2.1 0 4294967295&&(dy p.2.2.2.2.2.2.2.1 0 4294967295&&vf p.2.2.2.2.2.2.2.2)))))))
def dm (p:aD):Bool:=vQ p&&(decide ((List.length p.2.2.2.2.2.2.2.2.2.2.2.2.2.2.2:Int)<=128)||(p.2.2.2.2.2.2.2.2.1==6)&&Ff p.2.2.2.2.2.2.2.2.2.2.2.2.2.1)
theorem Da (h:vQ p=true):vf p.2.2.2.2.2.2.2.2=true:=by grind[vQ]
theorem sN (p:aD):gP p=some (dm p):=by unfold gP dm;simp only[cx,ZW,ab,cw,cF,cT,cN,Bool.not_or,Bool.not_not];rw[show(dy p.1 0 281474976710655&&(dy p.2.1 0 281474976710655&&(dy p.2.2.1 (-1) 4095&&(dy p.2.2.2.1 0 255&&(dy p.2.2.2.2.2.1 0 255&&(dy p.2.2.2.2.1 0 65535&&(dy p.2.2.2.2.2.2.1 0 4294967295&&(dy p.2.2.2.2.2.2.2.1 0 4294967295&&vf p.2.2.2.2.2.2.2.2))))))))=vQ p from rfl];grind[HF,GB,Da,Bool.or_comm]
theorem qf (p:aD):gk p=some (dm p):=by unfold gk dm;simp only[da,Zx,ab];grind[vQ,Nk,GB,ab]
def fB (q:K0):Bool:=dy q.1 0 130944&&(jQ q.2.1&&dy q.2.2 0 (ak ((ak (2*q.2.1))-1)))
theorem KU (q:K0):pj q=some (fB q):=by grind[pj,cx,D5,ab,fB]
theorem Kq (q:K0):oR q=some (fB q):=by grind[oR,da,FN,ab,fB]
def acr:mS:=((0,0,0,0,0,0,0,0,0,0,0,0,0,0,0,([]:Bytes)),0,0)
def Wg (p:mS):Bool:=(p.1.1==0)&&((p.1.2.1==0)&&((p.1.2.2.1==0)&&((p.1.2.2.2.1==0)&&((p.1.2.2.2.2.1==0)&&((p.1.2.2.2.2.2.1==0)&&((p.1.2.2.2.2.2.2.1==0)&&((p.1.2.2.2.2.2.2.2.1==0)&&((p.1.2.2.2.2.2.2.2.2.1==0)&&((p.1.2.2.2.2.2.2.2.2.2.1==0)&&((p.1.2.2.2.2.2.2.2.2.2.2.1==0)&&((p.1.2.2.2.2.2.2.2.2.2.2.2.1==0)&&((p.1.2.2.2.2.2.2.2.2.2.2.2.2.1==0)&&((p.1.2.2.2.2.2.2.2.2.2.2.2.2.2.1==0)&&((p.1.2.2.2.2.2.2.2.2.2.2.2.2.2.2.1==0)&&((p.1.2.2.2.2.2.2.2.2.2.2.2.2.2.2.2==([]:Bytes))&&((p.2.1==0)&&((p.2.2==0)&&true)))))))))))))))))
def Hj (r:bm):Bool:=(du r.1&&(fB r.2.1&&(fB r.2.2.1&&((r.2.1.1==r.2.2.1.1)&&((r.2.1.2.1==r.2.2.1.2.1)&&dy r.2.2.2.2.2 0 1000000000000)))))&&
 (bif r.2.2.2.2.1 then dm r.2.2.2.1.1&&(dy r.2.2.2.1.2.1 0 320&&dy r.2.2.2.1.2.2 1 320) else Wg r.2.2.2.1)
theorem aeO (p:mS):Wg p=true↔p=acr:=by grind[Wg,acr]
theorem Tg (r:bm):xU r=some (Hj r):=by unfold xU Hj Wg;simp_all[zB,KU,cx,sN,cw,bne]
theorem SH (r:bm):xG r=some (Hj r):=by unfold xG Hj Wg;simp_all[zg,Kq,da,qf,cw,bne]
def ft (v:Vector):Bool:=(gI v).getD false
theorem rN (v:Vector):gI v=some (ft v):=by simp_all[gI,rV,cx,cw,ft]
theorem BF (v:Vector):mE v=some (ft v):=rN v
theorem KM (l:au α)(p:α->Bool):(range l.length).all (λi=>l[i]?.all p)=l.all p:=by rw[fe,aL,aL];constructor;intro h x hx;obtain⟨i,hi,rfl⟩:=List.getElem_of_mem hx;have:=h i (cW.2 hi);rwa[al hi]at this;intro h i hi;rw[al (cW.1 hi)];exact h _ (aY _)
theorem Y5 (l:au α)(p q:α->Bool):l.all (λx=>p x&&q x)=(l.all p&&l.all q):=by grind
def fY (h:Host):cL:=[h.2.2.2.2.2.2.2.2.2.2.2.2.2.2.1,h.2.2.2.2.2.2.2.2.2.2.2.2.2.2.2.1,h.2.2.2.2.2.2.2.2.2.2.2.2.2.2.2.2.1,h.2.2.2.2.2.2.2.2.2.2.2.2.2.2.2.2.2.1,h.2.2.2.2.2.2.2.2.2.2.2.2.2.2.2.2.2.2]
def mV (h:Host):Bool:=dy (h.2.2.2.1.length:Int) 1 2&&(((h.2.2.2.2.1.length:Int)==(h.2.2.2.1.length:Int))&&(((h.2.2.2.2.2.1.length:Int)==(h.2.2.2.1.length:Int))&&((h.2.2.2.2.2.2.1.length:Int)==(h.2.2.2.1.length:Int))))
def Rj (h:Host):Bool:=h.2.2.2.1.all Hj&&(h.2.2.2.2.1.all dH&&h.2.2.2.2.2.1.all ft)
def dw (h:Host):Bool:=cG h.1&&(eX h.2.1&&(JY h.2.2.1&&(qy h.2.2.2.2.2.2.2.1&&(mV h&&(eF h.2.2.2.2.2.2.2.2.1 (h.2.2.2.1.length:Int)&&(Rj h&&(fY h).all (λx=>dy x 0 1000000000000)))))))
structure DG (h:Host):Prop where
 a1:h.1.length<=10^9
 a2:h.2.1.length<=10^9
 t1:h.2.2.1.2.2.1.length<=10^9
 t2:h.2.2.1.2.1.2.2.2.length+(bj h.2.2.1.2.2.1).length<=10^9
 f1:h.2.2.2.2.2.2.2.1.2.2.length<=10^9
 s1:h.2.2.2.2.2.2.2.2.1.1.length<=10^9
 s2:h.2.2.2.2.2.2.2.2.1.2.1.length<=10^9
 s3:h.2.2.2.2.2.2.2.2.1.2.2.2.length<=10^9
 p1:∀p∈h.2.2.2.2.1,p.2.2.2.length<=10^9
theorem lu (l:mV h=true):h.2.2.2.1.length<=2/\h.2.2.2.2.1.length=h.2.2.2.1.length/\h.2.2.2.2.2.1.length=h.2.2.2.1.length/\h.2.2.2.2.2.2.1.length=h.2.2.2.1.length:=by grind[mV,bl]
theorem Rk {T:(Int->ax R)->Int->ax R}{fin hit:ax R}(l:mV h=true)(hs:∀i (hi:i<h.2.2.2.1.length) nx,T nx (i:Int)=cond (!(Hj h.2.2.2.1[i]&&(dH (h.2.2.2.2.1[i]'((lu l).2.1▸hi))&&ft (h.2.2.2.2.2.1[i]'((lu l).2.2.1▸hi))))) hit (nx ((i+1:Nat):Int)))(hf:∀nx,T nx (h.2.2.2.1.length:Int)=fin):aM T fuel 0=cond (Rj h) fin hit:=by
 have hl:=lu l;rw[qc (fin:=fin) (hit:=hit) (λi=>h.2.2.2.1[i]?.all Hj&&(h.2.2.2.2.1[i]?.all dH&&h.2.2.2.2.2.1[i]?.all ft)) h.2.2.2.1.length (by omega) ?hs hf]
 case hs=>
  grind
 rw[Y5,Y5,KM];have e1:=KM h.2.2.2.2.1 dH;have e2:=KM h.2.2.2.2.2.1 ft;rw[hl.2.1]at e1;rw[hl.2.2.1]at e2;rw[e1,e2];rfl
theorem K8 {T:(Int->ax R)->Int->ax R}{fin hit:ax R}(h:Host)(hs:∀i (hi:i<(fY h).length) nx,T nx (i:Int)=cond (!(dy (fY h)[i] 0 1000000000000)) hit (nx ((i+1:Nat):Int)))(hf:∀nx,T nx ((fY h).length:Int)=fin):aM T fuel 0=cond ((fY h).all (λx=>dy x 0 1000000000000)) fin hit:=sc (λx=>dy x 0 1000000000000) (fY h) (by simp[fY]) hs hf
theorem mm (h:Host)(z:DG h):ga h=some (dw h):=by
 unfold ga dw;simp only[Ej _ z.a1,JH _ z.a2,YF _ z.t1 z.t2,Ei _ z.f1,AI _ _ z.s1 z.s2 z.s3,cx,ab,cw];cases cG h.1;rfl;cases eX h.2.1;rfl;cases JY h.2.2.1;rfl;cases qy h.2.2.2.2.2.2.2.1;rfl;simp only[aj,ae,cT,bne];rw[show(!dy (h.2.2.2.1.length:Int) 1 2||(!((h.2.2.2.2.1.length:Int)==(h.2.2.2.1.length:Int))||(!((h.2.2.2.2.2.1.length:Int)==(h.2.2.2.1.length:Int))||(!((h.2.2.2.2.2.2.1.length:Int)==(h.2.2.2.1.length:Int))|| !eF h.2.2.2.2.2.2.2.2.1 (h.2.2.2.1.length:Int)))))= !(mV h&&eF h.2.2.2.2.2.2.2.2.1 (h.2.2.2.1.length:Int)) by unfold mV;simp only[Bool.not_and,Bool.or_assoc]];cases hl:mV h;rfl;cases eF h.2.2.2.2.2.2.2.2.1 (h.2.2.2.1.length:Int);rfl;have hL:=lu hl;simp only[gW,aj,ae,bB];rw[Rk (h:=h) (hit:=some false) (fin:=some ((fY h).all (λx=>dy x 0 1000000000000))) hl ?hs ?hf]
 case hs=>
  intro i hi nx
  simp only[wR]
  rw[jy,aW hi,aW (hL.2.1▸hi),aW (hL.2.2.1▸hi),ai (n:=(i:Int)+1) (by omega) (by omega)]
  simp only[af,ab,Tg,rN,tX _ (z.p1 _ (aY _)),cw,cT,Bool.not_and]
  rfl
 case hf=>
  intro nx
  simp only[wR]
  rw[fT]
  simp only[ae]
  refine(K8 (fin:=some true) (hit:=some false) h ?_ ?_).trans ?_
  ·intro i hi nx
   simp only[uH]
   have vR:i<5:=hi
   change (bif decide ((i:Int)<5) then aa (idx (fY h) (i:Int)) _ else _)=_
   rw[jy,aW hi,ai (n:=(i:Int)+1) (by omega) (by omega),ab,cx]
   rfl
  ·intro nx
   simp only[uH]
   rw[ar (by simp[fY])];rfl
  ·cases (fY h).all (λx=>dy x 0 1000000000000)<;>rfl
 cases Rj h<;>rfl
theorem nz (h:Host)(z:DG h):fC h=some (dw h):=by
 unfold fC dw;simp only[HR _ z.a1,IW _ z.a2,XH _ z.t1 z.t2,HQ _ z.f1,DY _ _ z.s1 z.s2 z.s3,da,ab,cw];cases cG h.1;rfl;cases eX h.2.1;rfl;cases JY h.2.2.1;rfl;cases qy h.2.2.2.2.2.2.2.1;rfl;simp only[aj,ae,cT,bne];rw[show(!dy (h.2.2.2.1.length:Int) 1 2||(!((h.2.2.2.2.1.length:Int)==(h.2.2.2.1.length:Int))||(!((h.2.2.2.2.2.1.length:Int)==(h.2.2.2.1.length:Int))|| !((h.2.2.2.2.2.2.1.length:Int)==(h.2.2.2.1.length:Int)))))= !(mV h) by unfold mV;simp only[Bool.not_and]];cases hl:mV h;rfl;have hL:=lu hl;simp only[aj,ae,bB];rw[Rk (h:=h) (hit:=some false) (fin:=some ((fY h).all (λx=>dy x 0 1000000000000)&&eF h.2.2.2.2.2.2.2.2.1 (h.2.2.2.1.length:Int))) hl ?hs ?hf]
 case hs=>
  intro i hi nx
  simp only[wa]
  rw[jy,aW hi,aW (hL.2.1▸hi),aW (hL.2.2.1▸hi),ai (n:=(i:Int)+1) (by omega) (by omega)]
  simp only[af,ab,SH,BF,vU _ (z.p1 _ (aY _)),cw,cT,Bool.not_and]
  rfl
 case hf=>
  intro nx
  simp only[wa]
  rw[fT]
  simp only[ae]
  refine(K8 (fin:=some (eF h.2.2.2.2.2.2.2.2.1 (h.2.2.2.1.length:Int))) (hit:=some false) h ?_ ?_).trans ?_
  ·intro i hi nx
   simp only[uy]
   have vR:i<5:=hi
   change (bif decide ((i:Int)<5) then aa (idx (fY h) (i:Int)) _ else _)=_
   rw[jy,aW hi,ai (n:=(i:Int)+1) (by omega) (by omega),ab,da]
   rfl
  ·intro nx
   simp only[uy]
   rw[ar (by simp[fY])];rfl
  ·cases (fY h).all (λx=>dy x 0 1000000000000)<;>rfl
 cases Rj h<;>cases eF h.2.2.2.2.2.2.2.2.1 (h.2.2.2.1.length:Int)<;>cases (fY h).all (λx=>dy x 0 1000000000000)<;>rfl
def hasB (l:cL)(v:Int):Bool:=l.any (·==v)
theorem af5 (l:cL)(v:Int)(h:l.length<=10^9):vE l v=some (hasB l v):=by
 unfold vE hasB;rw[Bq (hit:=some true) (fin:=some false) (λx:Int=>x==v) l (by omega) (λi hi nx=>?hs) (λnx=>?hf)]
 case hs=>
  simp(disch:=omega)[xj,aw,aW,ai]
 all_goals grind[xj]
theorem afz (l:cL)(v:Int)(h:l.length<=10^9):vr l v=some (hasB l v):=by
 unfold vr hasB;rw[Bq (hit:=some true) (fin:=some false) (λx:Int=>x==v) l (by omega) (λi hi nx=>?hs) (λnx=>?hf)]
 case hs=>
  simp(disch:=omega)[wz,aw,aW,ai]
 all_goals grind[wz]
theorem We (l:au α)(j:Nat)(h:j<=l.length):sub l (j:Int) (l.length:Int)=some (l.drop j):=by simp_all[sub]
def nt (f:Filter)(p:aD):Bool:=qy f&&(((p.1==f.1)||((p.1==281474976710655)||f.2.1))&&((p.2.2.1== -1)||hasB f.2.2 p.2.2.1))
theorem Ln (f:Filter)(p:aD)(h:f.2.2.length<=10^9):vV f p=some (nt f p):=by grind[vV,HQ,afz,ab,nt]
theorem LO (f:Filter)(p:aD)(h:f.2.2.length<=10^9):wL f p=some (nt f p):=by grind[wL,Ei,af5,ab,nt]
def preB (a b n:Int):Bool:=fdiv a (2^(min (Int.toNat (ak (32-n))) (IntKind.bits .i64)))==fdiv b (2^(min (Int.toNat (ak (32-n))) (IntKind.bits .i64)))
theorem Rl {r:iX}(h:Du r=true):0<=r.2.2.2.1/\r.2.2.2.1<=32:=by grind[Du,my,cx,ab,dy]
def acU (r:iX)(p:aD):Bool:=preB r.2.2.1 p.2.2.2.2.2.2.1 r.2.2.2.1&&(dy p.2.2.2.2.2.2.2.2.2.2.1 r.2.2.2.2.1 r.2.2.2.2.2.1&&((r.2.2.2.2.2.2.1== -2)||(r.2.2.2.2.2.2.1==p.2.2.1)))
def FE (r:iX)(p:aD):Bool:=Du r&&(dm p&&(((r.2.1==0)||(r.2.1==p.2.2.2.2.2.2.2.2.1))&&acU r p))
theorem afC (a b n:Int)(h0:0<=n)(h1:n<=32):pH a b n=some (preB a b n):=by grind[pH,preB,ai]
theorem aaT (r:iX)(p:aD):sq r p=some (FE r p):=by unfold sq FE;rw[adL,ab];grind[Rl,qf,afC,da,ab,acU]
theorem ab7 (r:iX)(p:aD):sU r p=some (FE r p):=by
 unfold sU FE;rw[OP,ab];cases hr:Du r;rfl;have hp:=Rl hr;have hw:¬ak (32-r.2.2.2.1)<0:=by grind[ai]
 simp only[sN,zV,aH hw,cx,ab,acU];rw[show(fdiv r.2.2.1 (2^(min (Int.toNat (ak (32-r.2.2.2.1))) (IntKind.bits .i64)))==fdiv p.2.2.2.2.2.2.1 (2^(min (Int.toNat (ak (32-r.2.2.2.1))) (IntKind.bits .i64))))=preB r.2.2.1 p.2.2.2.2.2.2.1 r.2.2.2.1 from rfl];cases dm p<;>cases r.2.1==0<;>cases r.2.1==p.2.2.2.2.2.2.2.2.1<;>cases preB r.2.2.1 p.2.2.2.2.2.2.1 r.2.2.2.1<;>cases dy p.2.2.2.2.2.2.2.2.2.2.1 r.2.2.2.2.1 r.2.2.2.2.2.1<;>cases r.2.2.2.2.2.2.1== -2<;>rfl
def LI:iX:=(0,0,0,0,0,0,0,0,0)
def Ab (l:au iX)(p:aD):Nat->Int
 |0=> -1
 |i+1=>bif FE (l.getD i LI) p&&(decide (Ab l p i<0)||decide ((l.getD i LI).1<(l.getD (Ab l p i).toNat LI).1)) then(i:Int) else Ab l p i
theorem MO (l:au iX)(p:aD):∀i,Ab l p i= -1\/∃n:Nat,Ab l p i=(n:Int)/\n<i
 |0=> .inl rfl
 |i+1=>by rw[Ab];cases FE (l.getD i LI) p&&(decide (Ab l p i<0)||decide ((l.getD i LI).1<(l.getD (Ab l p i).toNat LI).1))with|true=>grind|false=>rcases MO l p i with h|⟨n,h,hn⟩;all_goals grind
theorem Qa (l:au iX)(p:aD)(i:Nat)(hi:i<l.length)(nx:Int×Int->ax R): (aa (cond (FE l[i] p) (cond (decide (Ab l p i<0)) (some true) (aa (idx l (Ab l p i)) λx4=>some (decide (l[i].1<x4.1)))) (some false)) λq5=>cond q5 (nx ((i:Int),((i+1:Nat):Int))) (nx (Ab l p i,((i+1:Nat):Int))))=nx (Ab l p (i+1),((i+1:Nat):Int)):=by
 rw[Ab,eK hi];cases FE l[i] p;rfl;rcases MO l p i with h|⟨n,h,hn⟩;rw[h];rfl;have hl:n<l.length:=by omega
 rw[h,ar (show¬(n:Int)<0 by omega),aW hl];simp only[af,ae,ab,az,eK hl,bB,cJ];cases decide (l[i].1<l[n].1)<;>rfl
def Fc (l:au iX)(p:aD):Int:=bif zP l then Ab l p l.length else-1
theorem Ni (l:au iX)(p:aD)(h:Fc l p>=0):∃n:Nat,Fc l p=(n:Int)/\n<l.length:=by unfold Fc at h⊢;cases hr:zP l with|false=>grind|true=>rw[hr]at h;simp only[af]at h⊢;rcases MO l p l.length with g|g;omega;exact g
theorem aaR (l:au iX)(p:aD)(h:l.length<=10^9):yk l p=some (Fc l p):=by unfold yk Fc;rw[QN l h,ab];cases zP l;rfl;simp only[aj,ae,af];refine cq (λi=>(Ab l p i,(i:Int))) l.length (by omega) (λi nx hi=>?_) (λnx=>?_);simp only[sj];rw[jy,aW hi,ai (n:=(i:Int)+1) (by omega) (by omega)];simp only[af,ab,aaT];exact Qa l p i hi nx;simp only[sj];rw[fT];rfl
theorem ab6 (l:au iX)(p:aD)(h:l.length<=10^9):yI l p=some (Fc l p):=by
 have xq:=cU;unfold yI Fc;cases hr:zP l with
 |false=>
  obtain⟨f,hf⟩:∃f,fuel=f+1:=⟨fuel-1,by omega⟩
  rw[hf,aM];simp only[nV,GH l h,hr,ab];cases decide ((0:Int)<(l.length:Int))<;>rfl
 |true=>simp only[af];refine cq (λi=>(Ab l p i,(i:Int))) l.length (by omega) (λi nx hi=>?_) (λnx=>?_);simp only[nV,GH l h,hr];rw[jy,aW hi,ai (n:=(i:Int)+1) (by omega) (by omega)];simp only[af,ab,ab7];exact Qa l p i hi nx;simp only[nV];rw[fT];rfl
def mB (p:aD):DF:=(p.2.2.2.2.2.2.2.2.1,p.2.2.2.2.2.2.1,p.2.2.2.2.2.2.2.1,p.2.2.2.2.2.2.2.2.2.1,p.2.2.2.2.2.2.2.2.2.2.1)
theorem NL (p:aD):vp p=some (mB p):=rfl
theorem JF (p:aD):rP p=some (mB p):=rfl
def aiV:Slot:=(0,(0,0,0,0,0),0)
def ou (s:de)(q:Int)(p:aD):Int:=
 bif !eF s q|| !dm p then-1 else
 bif decide (Fc s.1 p>=0) then(bif (s.1.getD (Fc s.1 p).toNat LI).2.2.2.2.2.2.2.1==1 then-1 else(s.1.getD (Fc s.1 p).toNat LI).2.2.2.2.2.2.2.2) else
 bif decide (findF s.2.1 (mB p)>=0) then(s.2.1.getD (findF s.2.1 (mB p)).toNat aiV).2.2 else GL s.2.2 q (mB p)
theorem QR (s:de)(q:Int)(p:aD)(h1:s.1.length<=10^9)(h2:s.2.1.length<=10^9)(h3:s.2.2.2.length<=10^9):nH s q p=some (ou s q p):=by unfold nH ou;rw[DY s q h1 h2 h3,ab,qf,ab];cases eF s q;rfl;cases dm p;rfl;simp only[aj,ae,ab,bF,aaR s.1 p h1,NL,Sz s.2.1 _ h2,U2 s.2.2 q _ h3];grind[Ni,aW,ab,Nh]
theorem Rz (s:de)(q:Int)(p:aD)(h1:s.1.length<=10^9)(h2:s.2.1.length<=10^9)(h3:s.2.2.2.length<=10^9):oh s q p=some (ou s q p):=by unfold oh ou;rw[AI s q h1 h2 h3,ab,sN,ab];cases eF s q;rfl;cases dm p;rfl;simp only[aj,ae,ab,bF,ab6 s.1 p h1,JF,Ta s.2.1 _,V6 s.2.2 q _ h3];grind[Ni,aW,ab,Nh]
def aac (a b:Int):Int:=(pa a b).getD 0
theorem Mz (a b:Int):pa a b=some (aac a b):=by grind[aac,pa,cx,ab]
theorem UL (a b:Int):Aw a b=some (aac a b):=Mz a b
theorem ae8 {a b:Int}(h:0<=a/\a<=65535)(k:0<=b/\b<=65535):0<=aac a b/\aac a b<=65535:=by have e:=Mz a b;simp only[pa,cx,ab,bl.2 h,bl.2 k,aj,ae]at e;rw[ai (n:=a+b) (by omega) (by omega)]at e;by_cases hc:a+b>65535;rw[aw hc,af,ai (by omega) (by omega)]at e;rw[<-cC e];omega;rw[ar hc,ae]at e;rw[<-cC e];omega
def sw (s:Bytes):Nat->Int
 |0=>0
 |j+1=>aac (sw s j) ((bK s (2*j)*256+bK s (2*j+1):Nat):Int)
theorem aeP (s:Bytes):∀j,0<=sw s j/\sw s j<=65535
 |0=>by simp[sw]
 |j+1=>by have b0:=eV s (2*j);have b1:=eV s (2*j+1);exact ae8 (aeP s j) (by omega)
theorem Hy {i:Nat}(h:s.length<=i:=by omega):bK s i=0:=by simp_all[bK]
theorem af7 (s:Bytes)(h:s.length<=10^9):yR s=some (sw s ((s.length+1)/2)):=by
 unfold yR;refine cq (λj=>(sw s j,((2*j:Nat):Int))) ((s.length+1)/2) (by omega) (λj nx hj=>?_) (λnx=>?_);have b0:=eV s (2*j);have b1:=eV s (2*j+1);obtain⟨x,hx,ex⟩:=ki (s:=s) (i:=2*j);simp only[sY];rw[jy,af,hx,ab,mQ,ai (n:=((2*j:Nat):Int)+1) (by omega) (by omega),ai (n:=((2*j:Nat):Int)+2) (by omega) (by omega),ex,fJ (by omega)];have e8:re 8=8:=rfl;have en:((2*j:Nat):Int)+2=((2*(j+1):Nat):Int):=by omega
 rw[e8,ai (n:=((bK s (2*j):Nat):Int)*2^8) (by omega) (by omega)];by_cases hc:2*j+1<s.length;obtain⟨y,hy,ey⟩:=ki (s:=s) (i:=2*j+1) hc;rw[jy,af,show((2*j:Nat):Int)+1=((2*j+1:Nat):Int) by omega,hy,ab,ey,fJ (n:=bK s (2*j+1)) (by omega),ai (by omega) (by omega),Mz,ab,en,show((bK s (2*j):Nat):Int)*2^8+((bK s (2*j+1):Nat):Int)=((bK s (2*j)*256+bK s (2*j+1):Nat):Int) by omega];rfl;have hz:=Hy (s:=s) (i:=2*j+1);rw[fT,ae,Mz,ab,en,show((bK s (2*j):Nat):Int)*2^8=((bK s (2*j)*256+bK s (2*j+1):Nat):Int) by rw[hz];omega];rfl;simp only[sY];rw[fT];rfl
theorem afD (s:Bytes)(h:s.length<=10^9):yw s=some (sw s ((s.length+1)/2)):=by
 unfold yw;refine cq (λj=>(sw s j,((2*j:Nat):Int))) ((s.length+1)/2) (by omega) (λj nx hj=>?_) (λnx=>?_);have b0:=eV s (2*j);have b1:=eV s (2*j+1);obtain⟨x,hx,ex⟩:=ki (s:=s) (i:=2*j);simp only[sA];rw[jy,af,hx,ab,mQ,ai (n:=((2*j:Nat):Int)+1) (by omega) (by omega),ai (n:=((2*j:Nat):Int)+2) (by omega) (by omega),ex,fJ (by omega)];have e8:re 8=8:=rfl;have en:((2*j:Nat):Int)+2=((2*(j+1):Nat):Int):=by omega
 rw[e8,show((bK s (2*j):Nat):Int)*2^8=((2^8*bK s (2*j):Nat):Int) by omega,fJ (n:=2^8*bK s (2*j)) (by omega)];by_cases hc:2*j+1<s.length;obtain⟨y,hy,ey⟩:=ki (s:=s) (i:=2*j+1) hc;rw[jy,af,show((2*j:Nat):Int)+1=((2*j+1:Nat):Int) by omega,hy,ab,ey,fJ (n:=bK s (2*j+1)) (by omega),HW (bK s (2*j)) 8 (bK s (2*j+1)),UL,ab,en,show 2^8*bK s (2*j)+bK s (2*j+1)=bK s (2*j)*256+bK s (2*j+1) by omega];rfl;have hz:=Hy (s:=s) (i:=2*j+1);rw[fT,ae,UL,ab,en,show((2^8*bK s (2*j):Nat):Int)=((bK s (2*j)*256+bK s (2*j+1):Nat):Int) by rw[hz];omega];rfl;simp only[sA];rw[fT];rfl
def RZ (s:Bytes):Int:=65535-sw s ((s.length+1)/2)
theorem JA (s:Bytes)(h:s.length<=10^9):kK s=some (RZ s):=by have:=aeP s ((s.length+1)/2);simp only[kK,af7 s h,ab];rw[ai (by omega) (by omega)];rfl
theorem Mu (s:Bytes)(h:s.length<=10^9):jq s=some (RZ s):=by have:=aeP s ((s.length+1)/2);simp only[jq,afD s h,ab];rw[ai (by omega) (by omega)];rfl
def wH (s:Bytes)(a:Int)(p:Bytes):Bytes:=bif fA s a (p.length:Int) then(s.take a.toNat++p)++s.drop (a.toNat+p.length) else s
theorem wI (s:Bytes)(a:Int)(p:Bytes):(wH s a p).length=s.length:=by grind[wH,fA]
theorem VA (s:Bytes)(a:Int)(p:Bytes)(h:s.length<=10^9)(hw:fA s a (p.length:Int)=true): (aa (sub s 0 a) λx2=>room (List.length x2+List.length p) (aa (sub s (ak (a+((List.length p:Int)))) ((List.length s:Int))) λx3=>room (List.length (x2++p)+List.length x3) (some ((x2++p)++x3))))=some (wH s a p):=by
 have hw':=hw;simp only[fA,bp]at hw';obtain⟨n,rfl⟩:=aG hw'.1;have e1:sub s 0 (n:Int)=some (s.take n):=by grind[sub]
 have e2:sub s (((n+p.length:Nat):Int)) (s.length:Int)=some (s.drop (n+p.length)):=by grind[sub,cI]
 rw[e1,ai (by omega) (by omega),show(n:Int)+(p.length:Int)=((n+p.length:Nat):Int) by omega,e2,ab,aQ (by grind),ab,aQ (by grind)];grind[wH]
theorem Cw (s:Bytes)(a:Int)(p:Bytes)(h:s.length<=10^9):ee s a p=some (wH s a p):=by grind[ee,FX,ab,wH,VA]
theorem DX (s:Bytes)(a:Int)(p:Bytes)(h:s.length<=10^9:=by omega)(hp:p.length<=10^9:=by omega):fz s a p=some (wH s a p):=by
 unfold fz;rw[ai (n:=(s.length:Int)-(p.length:Int)) (by omega) (by omega)];cases hw:fA s a (p.length:Int)with
 |true=>have hw':=hw;simp only[fA,bp]at hw';rw[ar (show¬a<0 by omega),ar (show¬a>(s.length:Int)-(p.length:Int) by omega)];exact VA s a p h hw
 |false=>
  have hp:wH s a p=s:=by grind[wH]
  rw[hp];simp only[fA,cP]at hw;by_cases h0:a<0;all_goals simp(disch:=omega)[aw]
def bs2 (x y:Int):Bytes:=aK [x,y]
theorem RY (x y:Int):(bs2 x y).length=2:=rfl
def AF (a b k n:Int):Bool:=dy a 0 4294967295&&(dy b 0 4294967295&&(dy k 0 255&&dy n 0 65535))
def xL (a b k n:Int):Bytes:=((jk a++jk b)++bs2 0 (gh k))++cb n
theorem Gx (a b k n:Int):(xL a b k n).length<=12:=by grind[dQ,bC,xL,RY]
theorem El (a b k n:Int):jT a b k n=some (bif AF a b k n then(xL a b k n,true) else([],false)):=by have:=dQ a;have:=dQ b;have:=bC n;unfold jT AF;simp only[cx,ab,mI,gU];cases dy a 0 4294967295;rfl;cases dy b 0 4294967295;rfl;cases dy k 0 255;rfl;cases dy n 0 65535;rfl;simp only[aj,ae,dE,af,ab];have e:(aK [0,gh k]).length=2:=rfl;rw[aQ (by omega),aQ (by grind),aQ (by grind)];rfl
theorem NP (a b k n:Int):qI a b k n=some (bif AF a b k n then(xL a b k n,true) else([],false)):=El a b k n
def bare (g:ei):Bytes:=bif g.1==6 then
    (((((cb g.2.1++cb g.2.2.1)++jk g.2.2.2.1)++jk g.2.2.2.2.1)++bs2 80 (gh g.2.2.2.2.2.1))++cb g.2.2.2.2.2.2.1)++jk 0++g.2.2.2.2.2.2.2
 else(((cb g.2.1++cb g.2.2.1)++cb (8+(g.2.2.2.2.2.2.2.length:Int)))++cb 0)++g.2.2.2.2.2.2.2
theorem RV (g:ei):(bare g).length<=20+g.2.2.2.2.2.2.2.length:=by have:=bC g.2.1;have:=bC g.2.2.1;have:=dQ g.2.2.2.1;have:=dQ g.2.2.2.2.1;have:=bC g.2.2.2.2.2.2.1;have:=dQ 0;have:=bC 0;have:=bC (8+(g.2.2.2.2.2.2.2.length:Int));unfold bare;cases g.1==6<;>simp only[af,ae,aq,RY]<;>omega
theorem acx:cb 0++cb 0=jk 0:=by rfl
theorem adz (g:ei)(h:g.2.2.2.2.2.2.2.length<=1000000):sG g=some (bare g):=by have:=bC g.2.1;have:=bC g.2.2.1;have:=dQ g.2.2.2.1;have:=dQ g.2.2.2.2.1;have:=bC g.2.2.2.2.2.2.1;have:=bC 0;have:=bC (8+(g.2.2.2.2.2.2.2.length:Int));have e:∀x,(aK [80,gh x]).length=2:=λ_=>rfl;unfold sG bare;rw[ai (n:=8+(g.2.2.2.2.2.2.2.length:Int)) (by omega) (by omega)];simp only[kT,BG,ab];rw[aQ (by omega)];cases g.1==6 with|true=>simp only[af];rw[aQ (by simp only[aq,e];omega),aQ (by simp only[aq,e];omega),aQ (by simp only[aq,e];omega),aQ (by simp only[aq,e];omega),aQ (by simp only[aq,e];omega),aQ (by simp only[aq,e];omega),aQ (by simp only[aq,e];omega)];rw[<-acx];simp only[bs2,aZ]|false=>simp only[ae];rw[aQ (by simp only[aq];omega),aQ (by simp only[aq];omega),aQ (by simp only[aq];omega)]
def ZZ (a b:Int)(g:ei):Int:=bif (RZ (xL a b g.1 ((bare g).length:Int)++bare g)==0)&&(g.1==17) then 65535 else RZ (xL a b g.1 ((bare g).length:Int)++bare g)
def ZO (a b:Int)(g:ei):Bytes:=wH (bare g) (bif g.1==6 then 16 else 6) (cb (ZZ a b g))
def OB (a b:Int)(g:ei):Bool:=vf g&&AF a b g.1 ((bare g).length:Int)
def CQ (a b:Int)(g:ei):Bytes×Bool:=bif OB a b g then(ZO a b g,true) else([],false)
theorem FQ {g:ei}(h:vf g=true):g.2.2.2.2.2.2.2.length<=320:=by grind[vf]
theorem FW (a b:Int)(g:ei):jR a b g=some (CQ a b g):=by
 unfold jR CQ OB;rw[ZW,ab];cases hg:vf g;rfl;have hb:=FQ hg;have hl:=RV g;have hp:=Gx a b g.1 ((bare g).length:Int);have:=bC g.2.1;have:=bC g.2.2.1;have:=dQ g.2.2.2.1;have:=dQ g.2.2.2.2.1;have:=bC g.2.2.2.2.2.2.1;have:=dQ 0;have:=bC 0;have:=bC (8+(g.2.2.2.2.2.2.2.length:Int));have e:∀x,(aK [80,gh x]).length=2:=λ_=>rfl;rw[ai (n:=8+(g.2.2.2.2.2.2.2.length:Int)) (by omega) (by omega)];simp only[gU,mI,ab,aj,ae,bB];rw[aQ (by omega)];cases h6:g.1==6 with
 |true=>
  have adg:bare g=(((((cb g.2.1++cb g.2.2.1)++jk g.2.2.2.1)++jk g.2.2.2.2.1)++aK [80,gh g.2.2.2.2.2.1])++cb g.2.2.2.2.2.2.1)++jk 0++g.2.2.2.2.2.2.2:=by unfold bare;rw[h6];rfl
  simp only[af];rw[aQ (by grind),aQ (by grind),aQ (by grind),aQ (by grind),aQ (by grind),aQ (by grind),<-adg,El,ab];cases AF a b g.1 ((bare g).length:Int);rfl;simp only[af,aj,ae];rw[aQ (by omega),JA _ (by grind)];simp only[ab,cw,Cw _ _ _ (show(bare g).length<=10^9 by omega),ZO,ZZ,h6,af,cF];cases (RZ (xL a b g.1 ((bare g).length:Int)++bare g)==0)&&(g.1==17)<;>rfl
 |false=>
  have adg:bare g=(((cb g.2.1++cb g.2.2.1)++cb (8+(g.2.2.2.2.2.2.2.length:Int)))++cb 0)++g.2.2.2.2.2.2.2:=by unfold bare;rw[h6];rfl
  simp only[ae];rw[aQ (by simp_all;omega),aQ (by simp_all;omega),aQ (by simp_all;omega),<-adg,El,ab];cases AF a b g.1 ((bare g).length:Int);rfl;simp only[af,aj,ae];rw[aQ (by omega),JA _ (by simp_all;omega)];simp only[ab,cw,Cw _ _ _ (show(bare g).length<=10^9 by omega),ZO,ZZ,h6,ae,cF];cases (RZ (xL a b g.1 ((bare g).length:Int)++bare g)==0)&&(g.1==17)<;>rfl
theorem Fz (a b:Int)(g:ei):jM a b g=some (CQ a b g):=by
 unfold jM CQ OB;rw[Zx,ab];cases hg:vf g;rfl;have hb:=FQ hg;have hl:=RV g;have hp:=Gx a b g.1 ((bare g).length:Int);have Kl:ff g.1=some (bif g.1==6 then 16 else 6):=by unfold ff;rw[cw]
 have w1:=bC 65535;have w2:=bC (RZ (xL a b g.1 ((bare g).length:Int)++bare g));simp only[adz g (by omega),NP,ab,aj,ae,bB];cases AF a b g.1 ((bare g).length:Int);rfl;simp only[af,aj,ae];rw[aQ (by omega),Mu _ (by grind)];simp only[ab,cw,Kl,kT,DX _ _ _ (show(bare g).length<=10^9 by omega) (show(cb 65535).length<=10^9 by omega),DX _ _ _ (show(bare g).length<=10^9 by omega) (show(cb (RZ (xL a b g.1 ((bare g).length:Int)++bare g))).length<=10^9 by omega),ZO,ZZ,cF];grind
theorem af1 (a b:Int)(g:ei):(CQ a b g).1.length<=340:=by unfold CQ;cases h:OB a b g with|false=>exact cd _|true=>simp only[OB,ah]at h;have:=FQ h.1;have:=RV g;show(wH _ _ _).length<=340;rw[wI];omega
def ipB (d:Ip):Bool:=dy d.1 0 255&&(dy d.2.2.1 0 255&&(dy d.2.2.2.1 0 255&&(dy d.2.1 0 65535&&(dy d.2.2.2.2.1 0 4294967295&&(dy d.2.2.2.2.2.1 0 4294967295&&decide ((d.2.2.2.2.2.2.length:Int)<=380))))))
theorem VZ (d:Ip):GI d=some (ipB d):=by simp_all[GI,cx,cw,ipB]
theorem adF (d:Ip):Ks d=some (ipB d):=VZ d
def NW (d:Ip):Bytes:=((((((bs2 69 (gh d.1)++cb (20+(d.2.2.2.2.2.2.length:Int)))++cb d.2.1)++cb 16384)++bs2 (gh d.2.2.1) (gh d.2.2.2.1))++cb 0)++jk d.2.2.2.2.1)++jk d.2.2.2.2.2.1
theorem NX (d:Ip):(NW d).length<=20:=by have:=bC (20+(d.2.2.2.2.2.2.length));have:=bC d.2.1;have:=bC 16384;have:=bC 0;have:=dQ d.2.2.2.2.1;have:=dQ d.2.2.2.2.2.1;simp_all[NW,RY];omega
def NV (d:Ip):Bytes:=wH (NW d) 10 (cb (RZ (NW d)))
theorem Yy (d:Ip):yL d=some (bif ipB d then(NV d,true) else([],false)):=by
 unfold yL;rw[VZ,ab];cases hd:ipB d;rfl;have hn:(d.2.2.2.2.2.2.length)<=380:=by grind[ipB]
 have:=bC (20+(d.2.2.2.2.2.2.length));have:=bC d.2.1;have:=bC 16384;have:=bC 0;have:=dQ d.2.2.2.2.1;have:=dQ d.2.2.2.2.2.1;have hl:=NX d;have e:∀x y,(aK [x,y]).length=2:=λ_ _=>rfl;rw[ai (by omega) (by omega)];simp only[gU,mI,ab,aj,ae,af];rw[aQ (by grind),aQ (by grind),aQ (by simp_all;omega),aQ (by simp_all;omega),aQ (by simp_all;omega),aQ (by simp_all;omega),aQ (by simp_all;omega)];have hp:((((((aK [69,gh d.1]++cb (20+(d.2.2.2.2.2.2.length)))++cb d.2.1)++cb 16384)++aK [gh d.2.2.1,gh d.2.2.2.1])++cb 0)++jk d.2.2.2.2.1)++jk d.2.2.2.2.2.1=NW d:=rfl;rw[hp,JA _ (by omega),ab,Cw _ _ _ (by omega)];rfl
theorem XB (d:Ip):yo d=some (bif ipB d then(NV d,true) else([],false)):=by
 unfold yo;rw[adF,ab];cases hd:ipB d;rfl;have hn:(d.2.2.2.2.2.2.length)<=380:=by grind[ipB]
 have:=bC (20+(d.2.2.2.2.2.2.length));have:=bC d.2.1;have:=bC 16384;have:=bC 0;have:=dQ d.2.2.2.2.1;have:=dQ d.2.2.2.2.2.1;have hl:=NX d;have hw:=bC (RZ (NW d));have e:∀x y,(aK [x,y]).length=2:=λ_ _=>rfl;rw[ai (by omega) (by omega)];simp only[kT,BG,ab,aj,ae,af];rw[aQ (by grind),aQ (by grind),aQ (by simp_all;omega),aQ (by simp_all;omega),aQ (by simp_all;omega),aQ (by simp_all;omega),aQ (by simp_all;omega)];have hp:((((((aK [69,gh d.1]++cb (20+(d.2.2.2.2.2.2.length)))++cb d.2.1)++cb 16384)++aK [gh d.2.2.1,gh d.2.2.2.1])++cb 0)++jk d.2.2.2.2.1)++jk d.2.2.2.2.2.1=NW d:=rfl;rw[hp,Mu _ (by omega),ab,DX _ _ _];rfl
def Zz (d:Ip):Bytes×Bool:=bif ipB d then(NV d++d.2.2.2.2.2.2,true) else([],false)
theorem Ku (d:Ip):(NV d).length<=20:=by grind[NV,wI,NX]
theorem aeE (d:Ip):wM d=some (Zz d):=by grind[wM,Zz,Yy,ab,ipB,Ku,aQ]
theorem adE (d:Ip):vW d=some (Zz d):=by grind[vW,Zz,XB,ab,ipB,Ku,aQ]
def Ao (n:Nat):Bytes:=aK (List.replicate n (0:Int))
theorem GP (n:Nat):(Ao n).length=n:=by simp[Ao,aK]
theorem OL (n:Nat)(h:n<=10^9:=by omega):iD (n:Int) 0=some (Ao n):=by unfold iD;rw[zip,aQ (by omega),az];refine cq (λi=>(List.replicate n (0),(i:Int))) n (by omega) (λi nx hi=>?_) (λnx=>?_);simp only[pT];rw[jy,aW (by simpa using hi),ai (by omega) (by omega)];simp only[af,ab,az,List.set_replicate_self];rfl;simp only[pT];rw[fT];rfl
theorem Zw (n:Nat)(h:n<=10^9:=by omega):oF 0 (n:Int)=some (Ao n):=by unfold oF;rw[zip,aQ (by omega),az];refine cq (λi=>(List.replicate n (0),(i:Int))) n (by omega) (λi nx hi=>?_) (λnx=>?_);simp only[wB];rw[aw (by simp;omega),aW (by simpa using hi),ai (by omega) (by omega)];simp only[af,ab,az,List.set_replicate_self];rfl;simp only[wB];rw[ar (by simp)];rfl
def pad (s:Bytes):Bytes:=if s.length<46 then s++Ao (46-s.length) else s
theorem SX (s:Bytes):(pad s).length=max 46 s.length:=by grind[pad,GP]
theorem af6 (s:Bytes)(h:s.length<=10^9):AK s=some (pad s):=by unfold AK pad;by_cases hc:s.length<46;rw[jy,aF hc,ai (by omega) (by omega),show(46:Int)-(s.length)=((46-s.length:Nat)) by omega,OL _];simp only[af,ab];rw[aQ (by rw[GP];omega)];rw[fT,aH hc];rfl
theorem afB (s:Bytes)(h:s.length<=10^9):Ay s=some (pad s):=by unfold Ay pad;by_cases hc:s.length<46;rw[fT,aF hc,ai (by omega) (by omega),show(46:Int)-(s.length)=((46-s.length:Nat)) by omega,Zw _];simp only[ae,ab];rw[aQ (by rw[GP];omega)];rw[jy,aH hc];rfl
def Bt (e:Pf):Bool:=dy e.1 0 281474976710655&&(dy e.2.1 0 281474976710655&&(dy e.2.2.1 (-1) 4095&&(dy e.2.2.2.1 1536 65535&&((e.2.2.2.1 !=33024)&&dy (e.2.2.2.2.length:Int) 46 400))))
theorem KS (e:Pf):xS e=some (Bt e):=by simp_all[xS,cx,cw,Bt]
theorem QH (e:Pf):BH e=some (Bt e):=KS e
def WC (a:Int):Bytes:=(iM a).getD []
theorem Ct (a:Int):iM a=some (WC a)/\(WC a).length<=6:=by
 have h:∃x,iM a=some x/\x.length<=6:=by unfold iM;simp only[gU,mI,ab];have h1:=bC (fdiv a (2^(re 32)));grind[dQ,aQ]
 grind[WC]
theorem afA (a:Int):yx a=some (WC a):=(Ct a).1
def Ql (e:Pf):Bytes:=(bif decide (e.2.2.1>=0) then(((WC e.1++WC e.2.1)++cb 33024)++cb e.2.2.1) else WC e.1++WC e.2.1)++cb e.2.2.2.1++e.2.2.2.2
theorem ac4 (e:Pf):(Ql e).length<=18+e.2.2.2.2.length:=by have:=(Ct e.1).2;have:=(Ct e.2.1).2;grind[bC,Ql]
def T5 (e:Pf):Bytes×Bool:=bif Bt e then(Ql e,true) else([],false)
theorem af4 (e:Pf):yE e=some (T5 e):=by
 unfold yE T5;rw[KS,ab];cases he:Bt e;rfl;have hn:(e.2.2.2.2.length)<=400:=by grind[Bt,bl]
 have:=(Ct e.1).2;have:=(Ct e.2.1).2;have:=bC 33024;have:=bC e.2.2.1;have:=bC e.2.2.2.1;simp only[(Ct _).1,gU,ab,aj,ae,af,Ql];grind[aQ]
theorem afy (e:Pf):yg e=some (T5 e):=by
 unfold yg T5;rw[QH,ab];cases he:Bt e;rfl;have hn:(e.2.2.2.2.length)<=400:=by grind[Bt,bl]
 have:=(Ct e.1).2;have:=(Ct e.2.1).2;have:=bC 33024;have:=bC e.2.2.1;have:=bC e.2.2.2.1;simp only[afA,kT,ab,aj,ae,af,Ql];grind[aQ]
def aiU (p:aD):Bytes×Bool:=CQ p.2.2.2.2.2.2.1 p.2.2.2.2.2.2.2.1 p.2.2.2.2.2.2.2.2
def ipP (p:aD):Bytes×Bool:=Zz (p.2.2.2.1,p.2.2.2.2.1,p.2.2.2.2.2.1,p.2.2.2.2.2.2.2.2.1,p.2.2.2.2.2.2.1,p.2.2.2.2.2.2.2.1,(aiU p).1)
def afj (p:aD):Bytes×Bool:=T5 (p.1,p.2.1,p.2.2.1,2048,pad (ipP p).1)
def eD (p:aD):Bytes×Bool:=bif dm p then afj p else([],false)
theorem SJ (p:aD):(ipP p).1.length<=360:=by grind[af1,ipP,Zz,aiU,Ku]
theorem GF (p:aD):gO p=some (eD p):=by have hl:=SJ p;unfold gO eD;simp only[sN,FW,aeE,ab];rw[show(Zz (p.2.2.2.1,p.2.2.2.2.1,p.2.2.2.2.2.1,p.2.2.2.2.2.2.2.2.1,p.2.2.2.2.2.2.1,p.2.2.2.2.2.2.2.1,(CQ p.2.2.2.2.2.2.1 p.2.2.2.2.2.2.2.1 p.2.2.2.2.2.2.2.2).1))=ipP p from rfl,af6 _ (by omega),ab,af4];cases dm p<;>rfl
theorem Gt (p:aD):gM p=some (eD p):=by have hl:=SJ p;unfold gM eD;simp only[qf,Fz,adE,ab];rw[show(Zz (p.2.2.2.1,p.2.2.2.2.1,p.2.2.2.2.2.1,p.2.2.2.2.2.2.2.2.1,p.2.2.2.2.2.2.1,p.2.2.2.2.2.2.2.1,(CQ p.2.2.2.2.2.2.1 p.2.2.2.2.2.2.2.1 p.2.2.2.2.2.2.2.2).1))=ipP p from rfl,afB _ (by omega),ab,afy];cases dm p<;>rfl
theorem Df (h:dm p=true):(eD p).2=true:=by grind[SJ,vQ,dm,SX,eD,afj,T5,Bt,bl]
theorem xE (p:aD):(eD p).1.length<=378:=by grind[SJ,SX,eD,afj,T5,ac4]
def fcs (c:Int):Bytes:=aK [gh c,gh (fdiv c (2^(re 8))),gh (fdiv c (2^(re 16))),gh (fdiv c (2^(re 24)))]
def Ez (s:Bytes):Bytes:=s++fcs (acV s)
theorem afl (c:Int):(fcs c).length=4:=rfl
theorem ZV (s:Bytes)(h:s.length<=10^9):xc s=some (Ez s):=by unfold xc;rw[af3 s h,ab,mQ,mQ,mQ];exact aQ (by show s.length+4<=_;omega)
theorem Zv (s:Bytes)(h:s.length<=10^9):wv s=some (Ez s):=by unfold wv;rw[afw s h,ab,mQ,mQ,mQ];exact aQ (by show s.length+4<=_;omega)
def gn (p:aD):Bool:=dm p&&decide ((p.2.2.2.2.2.2.2.2.2.2.2.2.2.2.2.length:Int)<=128)
theorem Ek (p:aD):mM p=some (gn p):=by grind[mM,sN,ab,gn]
theorem DW (p:aD):mC p=some (gn p):=by grind[mC,qf,ab,gn]
def Fi (p:aD):Bytes×Bool:=bif gn p then(Ez (eD p).1,true) else([],false)
theorem Rs (p:aD):pM p=some (Fi p):=by grind[xE,pM,Ek,GF,ZV,ab,Fi]
theorem aaS (p:aD):uw p=some (Fi p):=by grind[xE,uw,DW,Gt,Zv,ab,Fi,gn,Df]
theorem Qw (p:aD):(Fi p).1.length<=382:=by grind[xE,Fi,Ez,afl]
def Oi (p:aD)(z:Int)(k:Nat):aD:=
 (p.1,p.2.1,p.2.2.1,p.2.2.2.1,tmod (ak (p.2.2.2.2.1+(k:Int))) 65536,p.2.2.2.2.2.1,p.2.2.2.2.2.2.1,p.2.2.2.2.2.2.2.1,p.2.2.2.2.2.2.2.2.1,p.2.2.2.2.2.2.2.2.2.1,p.2.2.2.2.2.2.2.2.2.2.1,
   tmod (ak (p.2.2.2.2.2.2.2.2.2.2.2.1+((k:Int)*z))) 4294967296,p.2.2.2.2.2.2.2.2.2.2.2.2.1,
   (bif decide (((k:Int)+1)*z<(p.2.2.2.2.2.2.2.2.2.2.2.2.2.2.2.length:Int)) then ak (toNat (fa p.2.2.2.2.2.2.2.2.2.2.2.2.2.1&&&~~~ fa 9)) else p.2.2.2.2.2.2.2.2.2.2.2.2.2.1),
   p.2.2.2.2.2.2.2.2.2.2.2.2.2.2.1,(p.2.2.2.2.2.2.2.2.2.2.2.2.2.2.2.take (min ((k+1)*z.toNat) p.2.2.2.2.2.2.2.2.2.2.2.2.2.2.2.length)).drop (k*z.toNat))
def jP (n z:Nat):Nat:=(n+z-1)/z
def CR (p:aD)(z:Int):au aD:=bif dm p&&dy z 1 128 then
    (bif (p.2.2.2.2.2.2.2.2.1 !=6)||decide ((p.2.2.2.2.2.2.2.2.2.2.2.2.2.2.2.length:Int)<=z) then [p] else(range (jP p.2.2.2.2.2.2.2.2.2.2.2.2.2.2.2.length z.toNat)).map (Oi p z)) else []
theorem KJ {n z k:Nat}(hz:0<z:=by omega):k<jP n z↔k*z<n:=by grind[jP,Nat.lt_div_iff_mul_lt]
theorem ya (h:dm p=true):p.2.2.2.2.2.2.2.2.2.2.2.2.2.2.2.length<=320:=by grind[dm,FQ,Da]
theorem RD {b:Bytes}{k z:Nat}(hk:k*z<b.length)(hb:b.length<=320):sub b ((k*z:Nat):Int) ((min ((k+1)*z) b.length:Nat):Int)=some ((b.take (min ((k+1)*z) b.length)).drop (k*z)):=by grind[sub]
theorem acd (p:aD)(z:Int):Eo p z=some (CR p z):=by
 unfold Eo CR;simp only[sN,cx,ab];cases hs:dm p;rfl;cases hz:dy z 1 128;rfl;have hz':=bl.1 hz;have hb:=ya hs;simp only[aj,ae,dE,af,ab,cw,cT];cases hq:(p.2.2.2.2.2.2.2.2.1 !=6)||decide ((p.2.2.2.2.2.2.2.2.2.2.2.2.2.2.2.length)<=z)with
 |true=>rfl
 |false=>
  obtain⟨m,rfl⟩:=aG (show 0<=z by omega);have hN:∀k,k<jP p.2.2.2.2.2.2.2.2.2.2.2.2.2.2.2.length m↔k*m<p.2.2.2.2.2.2.2.2.2.2.2.2.2.2.2.length:=λk=>KJ;have GS:jP p.2.2.2.2.2.2.2.2.2.2.2.2.2.2.2.length m<=320:=by rcases bQ 320 (jP p.2.2.2.2.2.2.2.2.2.2.2.2.2.2.2.length m)with h|h;have:=(hN 320).1 h;omega;exact h
  refine cq (λk=>((range k).map (Oi p (m)),(k:Int))) (jP p.2.2.2.2.2.2.2.2.2.2.2.2.2.2.2.length m) (by omega) (λk nx hk=>?_) (λnx=>?_);have hkm:=(hN k).1 hk;have hk1:(k+1)*m=k*m+m:=by rw[cB,eI]
  have e1:(k:Int)*(m)=((k*m:Nat)):=by push_cast;rfl
  have e2:((k:Int)+1)*(m)=(((k+1)*m:Nat)):=by push_cast;rfl
  simp only[yQ];rw[ai (n:=(k)+1) (by omega) (by omega),e1,e2,fJ (by omega),fJ (by omega),jy,af];have e3:(if(((k+1)*m:Nat):Int)<(p.2.2.2.2.2.2.2.2.2.2.2.2.2.2.2.length) then(((k+1)*m:Nat):Int) else(p.2.2.2.2.2.2.2.2.2.2.2.2.2.2.2.length))=((min ((k+1)*m) p.2.2.2.2.2.2.2.2.2.2.2.2.2.2.2.length)):=by split<;>omega
  rw[e3,RD hkm hb,ab,mQ,mQ];rw[List.range_succ,List.map_append,List.map_singleton];simp only[Oi,e1,e2,az];cases decide ((((k+1)*m:Nat):Int)<(p.2.2.2.2.2.2.2.2.2.2.2.2.2.2.2.length))with|true=>rw[aQ (by simp;omega)];rfl|false=>simp only[ae];rw[aQ (by simp;omega)];rfl
  have hkm:¬jP p.2.2.2.2.2.2.2.2.2.2.2.2.2.2.2.length m*m<p.2.2.2.2.2.2.2.2.2.2.2.2.2.2.2.length:=λh=>absurd ((hN _).2 h) (nv _);have hub:jP p.2.2.2.2.2.2.2.2.2.2.2.2.2.2.2.length m*m<=320*128:=Nat.mul_le_mul GS (by omega);have e1:((jP p.2.2.2.2.2.2.2.2.2.2.2.2.2.2.2.length m):Int)*(m)=((jP p.2.2.2.2.2.2.2.2.2.2.2.2.2.2.2.length m*m:Nat)):=by push_cast;rfl
  simp only[yQ];rw[e1,fJ (by omega),fT];rfl
theorem aaZ (p:aD)(z:Int):D1 p z=some (CR p z):=by
 unfold D1 CR;simp only[qf,da,ab];cases hs:dm p;rfl;cases hz:dy z 1 128;rfl;have hz':=bl.1 hz;have hb:=ya hs;simp only[aj,ae,dE,af,ab,cw,cT];cases hq:(p.2.2.2.2.2.2.2.2.1 !=6)||decide ((p.2.2.2.2.2.2.2.2.2.2.2.2.2.2.2.length)<=z)with
 |true=>rfl
 |false=>
  obtain⟨m,rfl⟩:=aG (show 0<=z by omega);have hN:∀k,k<jP p.2.2.2.2.2.2.2.2.2.2.2.2.2.2.2.length m↔k*m<p.2.2.2.2.2.2.2.2.2.2.2.2.2.2.2.length:=λk=>KJ;have GS:jP p.2.2.2.2.2.2.2.2.2.2.2.2.2.2.2.length m<=320:=by rcases bQ 320 (jP p.2.2.2.2.2.2.2.2.2.2.2.2.2.2.2.length m)with h|h;have:=(hN 320).1 h;omega;exact h
  refine cq (λk=>((range k).map (Oi p (m)),(k:Int))) (jP p.2.2.2.2.2.2.2.2.2.2.2.2.2.2.2.length m) (by omega) (λk nx hk=>?_) (λnx=>?_);have hkm:=(hN k).1 hk;have hk1:(k+1)*m=k*m+m:=by rw[cB,eI]
  have e1:(k:Int)*(m)=((k*m:Nat)):=by push_cast;rfl
  have e2:((k:Int)+1)*(m)=(((k+1)*m:Nat)):=by push_cast;rfl
  have qs:=RD hkm hb;simp only[yu];rw[ai (n:=(k)+1) (by omega) (by omega),e1,e2,fJ (by omega),fJ (by omega),jy,af];rw[List.range_succ,List.map_append,List.map_singleton];simp only[Oi,e1,e2,az];by_cases hc:(((k+1)*m:Nat):Int)<(p.2.2.2.2.2.2.2.2.2.2.2.2.2.2.2.length);rw[aw hc];rw[show min ((k+1)*m) p.2.2.2.2.2.2.2.2.2.2.2.2.2.2.2.length=(k+1)*m by omega]at qs⊢;rw[qs,ab,mQ,mQ,aQ (by simp;omega)];rfl;rw[ar hc];rw[show min ((k+1)*m) p.2.2.2.2.2.2.2.2.2.2.2.2.2.2.2.length=p.2.2.2.2.2.2.2.2.2.2.2.2.2.2.2.length by omega]at qs⊢;rw[qs,ab,mQ,mQ,aQ (by simp;omega)];rfl;have hkm:¬jP p.2.2.2.2.2.2.2.2.2.2.2.2.2.2.2.length m*m<p.2.2.2.2.2.2.2.2.2.2.2.2.2.2.2.length:=λh=>absurd ((hN _).2 h) (nv _);have hub:jP p.2.2.2.2.2.2.2.2.2.2.2.2.2.2.2.length m*m<=320*128:=Nat.mul_le_mul GS (by omega);have e1:((jP p.2.2.2.2.2.2.2.2.2.2.2.2.2.2.2.length m):Int)*(m)=((jP p.2.2.2.2.2.2.2.2.2.2.2.2.2.2.2.length m*m:Nat)):=by push_cast;rfl
  simp only[yu];rw[e1,fJ (by omega),fT];rfl
theorem H0 (p:aD)(z:Int):(CR p z).length<=320:=by unfold CR;cases hs:dm p&&dy z 1 128;exact cd _;simp only[ah,bl]at hs;have hb:=ya hs.1;cases (p.2.2.2.2.2.2.2.2.1 !=6)||decide ((p.2.2.2.2.2.2.2.2.2.2.2.2.2.2.2.length)<=z)with|true=>simp only[af,bf];omega|false=>simp only[af,ae,cA,List.length_range];rcases bQ 320 (jP p.2.2.2.2.2.2.2.2.2.2.2.2.2.2.2.length z.toNat)with h|h;have:=(KJ).1 h;omega;exact h
def MJ (acc:bD)(p:aD):bD:=bif (Fi p).2 then acc++[(Fi p).1] else acc
theorem MK (acc:bD)(p:aD):(MJ acc p).length<=acc.length+1:=by grind[MJ]
def Gp (l:au aD):bD:=l.foldl MJ []
theorem La:∀(l:au aD)(acc:bD),(l.foldl MJ acc).length<=acc.length+l.length
 |[],acc=>by simp
 |p::l,acc=>by have:=La l (MJ acc p);grind[MK]
theorem GZ:∀(l:au aD)(acc:bD),(∀x∈acc,x.length<=382)->∀x∈l.foldl MJ acc,x.length<=382
 |[],acc,h=>h
 |p::l,acc,h=>by refine GZ l _ (λx hx=>?_);grind[MJ,Qw]
theorem Yv (l:au aD)(h:l.length<=10^9):yJ l=some (Gp l):=by
 unfold yJ Gp;have:=Dv (T:=nX (λ(y3) (_)=>some y3) l) l (λ(s) i=>(s,(i))) (λi s=>s.length<=i) (λp s=> .ok (MJ s p)) (λs=>some s) (by omega) (λi hi s nx hI=>?hs) (λi hi s s' hI hg=>?hn) (λs nx hI=>?hf) [] (by simp)
 case hs=>
  grind[nX,aW,ai,ab,Rs,MJ,aQ]
 all_goals grind[MK,nX,Jr]
theorem Xy (l:au aD)(h:l.length<=10^9):yl l=some (Gp l):=by
 unfold yl Gp;have:=Dv (T:=nC (λ(y3) (_)=>some y3) l (l.length)) l (λ(s) i=>(s,(i))) (λi s=>s.length<=i) (λp s=> .ok (MJ s p)) (λs=>some s) (by omega) (λi hi s nx hI=>?hs) (λi hi s s' hI hg=>?hn) (λs nx hI=>?hf) [] (by simp)
 case hs=>
  grind[nC,aW,ai,ab,aaS,MJ,aQ]
 all_goals grind[MK,nC,Jr]
def LJ (p:aD)(z:Int):bD:=Gp (CR p z)
theorem V5 (p:aD)(z:Int):pR p z=some (LJ p z):=by have:=H0 p z;simp only[pR,acd,Yv _ (show(CR p z).length<=10^9 by omega),ab];rfl
theorem U0 (p:aD)(z:Int):pF p z=some (LJ p z):=by have:=H0 p z;simp only[pF,aaZ,Xy _ (show(CR p z).length<=10^9 by omega),ab];rfl
theorem GC (p:aD)(z:Int):(LJ p z).length<=320/\∀x∈LJ p z,x.length<=382:=by have:=H0 p z;have:=La (CR p z) [];exact⟨by grind[LJ,Gp],GZ _ [] (by simp)⟩
theorem C6 {a:Int}(h0:0<=a:=by omega)(h:a+2<=(s.length:Int):=by omega):0<=cD s a/\cD s a<=65535:=by grind[eV,cD,fA]
theorem C7 {a:Int}(h0:0<=a:=by omega)(h:a+4<=(s.length:Int):=by omega):0<=fb s a/\fb s a<=4294967295:=by grind[eV,fb,fA]
theorem adW {x y:Int}(hx:0<=x/\x<=65535)(hy:0<=y/\y<=4294967295):ak (toNat (fa (ak (x*2^(re 32)))|||fa y))=x*4294967296+y:=by have e:(2:Int)^(re 32)=4294967296:=rfl;obtain⟨x,rfl⟩:=aG hx.1;obtain⟨y,rfl⟩:=aG hy.1;rw[e,ai (n:=(x:Int)*4294967296) (by omega) (by omega),show(x:Int)*4294967296=((2^32*x:Nat):Int) by omega,HW x 32 y];omega
theorem ZC {x y:Int}(hx:0<=x/\x<=65535)(hy:0<=y/\y<=4294967295):ak (ak (x*2^(re 32))+y)=x*4294967296+y:=by grind[IntKind.bits,ai]
theorem CB {l:au α}{n:Int}(h0:0<=n)(h1:n<=(l.length:Int)):sub l 0 n=some (l.take n.toNat):=by grind[sub]
theorem tn {l:au α}(k:Nat)(h:k<=l.length:=by omega){a:Int}(ha:a=(k:Int):=by omega):sub l a (l.length:Int)=some (l.drop k):=by simp_all[sub]
theorem JR {l:au α}(k:Nat){a n:Int}(ha:a=(k:Int))(h0:a<=n)(h1:n<=(l.length:Int)):sub l a n=some ((l.take n.toNat).drop k):=by grind[sub]
def DL (s:Bytes):Bytes×Bool:=bif decide ((s.length:Int)<4) then([],false) else bif Ez (s.take ((s.length:Int)-4).toNat)==s then(s.take ((s.length:Int)-4).toNat,true) else([],false)
theorem Yt (s:Bytes)(h:s.length<=10^9):yF s=some (DL s):=by unfold yF DL;rw[ai (n:=(s.length:Int)-4) (by omega) (by omega)];by_cases h4:(s.length:Int)<4;rw[aw h4];rfl;rw[ar h4,CB (by omega) (by omega)];simp only[ae,ab,ZV _ (show(s.take ((s.length:Int)-4).toNat).length<=10^9 by rw[bq];omega)];cases Ez (s.take ((s.length:Int)-4).toNat)==s<;>rfl
theorem Xw (s:Bytes)(h:s.length<=10^9):yh s=some (DL s):=by unfold yh DL;rw[ai (n:=(s.length:Int)-4) (by omega) (by omega)];by_cases h4:(s.length:Int)<4;rw[aw (show(s.length:Int)-4<0 by omega),aw h4];rfl;rw[ar (show¬(s.length:Int)-4<0 by omega),ar h4,CB (by omega) (by omega)];simp only[ae,ab,Zv _ (show(s.take ((s.length:Int)-4).toNat).length<=10^9 by rw[bq];omega)];cases Ez (s.take ((s.length:Int)-4).toNat)==s<;>rfl
def afi:Pf:=(0,0,0,0,([]:Bytes))
def He (s:Bytes)(a:Int):Int:=cD s a*4294967296+fb s (a+2)
def M8 (s:Bytes):Pf:=(He s 0,He s 6,cD s 14,cD s 16,s.drop 18)
def C2 (s:Bytes):Pf:=(He s 0,He s 6, -1,cD s 12,s.drop 14)
def fI (s:Bytes):Pf×Bool:=bif decide ((s.length:Int)<18) then(afi,false) else
 bif cD s 12==33024 then(bif Bt (M8 s) then(M8 s,true) else(afi,false)) else bif Bt (C2 s) then(C2 s,true) else(afi,false)
theorem Tc (s:Bytes)(h:s.length<=10^9):yM s=some (fI s):=by unfold yM fI;by_cases h8:(s.length:Int)<18;rw[aw h8];rfl;rw[ar h8];simp only[ae,sM s _ h,Bm s _ h,ab];rw[mQ,mQ,tn (l:=s) 14 (by omega) (show(14:Int)=((14:Nat):Int) from rfl),ab,tn (l:=s) 18 (by omega) (show(18:Int)=((18:Nat):Int) from rfl)];rw[ZC (C6 (s:=s) (a:=0)) (C7 (s:=s) (a:=2)),ZC (C6 (s:=s) (a:=6)) (C7 (s:=s) (a:=8))];simp only[ab,KS];rw[show((cD s 0*4294967296+fb s 2,cD s 6*4294967296+fb s 8,cD s 14,cD s 16,s.drop 18):Pf)=M8 s from rfl,show((cD s 0*4294967296+fb s 2,cD s 6*4294967296+fb s 8, -1,cD s 12,s.drop 14):Pf)=C2 s from rfl];cases cD s 12==33024<;>cases Bt (M8 s)<;>cases Bt (C2 s)<;>rfl
theorem IX (s:Bytes)(h:s.length<=10^9):tO s=some (fI s):=by
 unfold tO fI;by_cases h4:(s.length:Int)<14;rw[aw h4,aw (show(s.length:Int)<18 by omega)];rfl;rw[ar h4];simp only[ae,xF s _ h,Bi s _ h,ab];rw[mQ,mQ,tn (l:=s) 14 (by omega) (show(14:Int)=((14:Nat):Int) from rfl),ab];rw[adW (C6 (s:=s) (a:=0)) (C7 (s:=s) (a:=2)),adW (C6 (s:=s) (a:=6)) (C7 (s:=s) (a:=8))];simp only[ab,QH];rw[show((cD s 0*4294967296+fb s 2,cD s 6*4294967296+fb s 8, -1,cD s 12,s.drop 14):Pf)=C2 s from rfl];by_cases h8:(s.length:Int)<18;have hB:Bt (C2 s)=false:=by
  unfold Bt C2;have:dy ((s.drop 14).length:Int) 46 400=false:=by rw[Bool.eq_false_iff,ne_eq,bl,bh];omega
  simp only[this,jJ]
 rw[aw h8,ar (show¬(s.length:Int)>=18 by omega),hB];cases cD s 12==33024<;>rfl;rw[ar h8,aw (show(s.length:Int)>=18 by omega),tn (l:=s) 18 (by omega) (show(18:Int)=((18:Nat):Int) from rfl)];simp only[ab];rw[show((cD s 0*4294967296+fb s 2,cD s 6*4294967296+fb s 8,cD s 14,cD s 16,s.drop 18):Pf)=M8 s from rfl];cases cD s 12==33024<;>cases Bt (M8 s)<;>cases Bt (C2 s)<;>rfl
def ip0:Ip:=(0,0,0,0,0,0,([]:Bytes))
def HU (s:Bytes):Ip:=((bK s 1:Int),cD s 4,(bK s 8:Int),(bK s 9:Int),fb s 12,fb s 16,(s.take (cD s 2).toNat).drop 20)
def me (s:Bytes):Ip×Bool:=bif decide ((s.length:Int)<20)||(decide (cD s 2<20)||decide (cD s 2>(s.length:Int))) then(ip0,false) else
 bif (Zz (HU s)).2&&((Zz (HU s)).1==s.take (cD s 2).toNat) then(HU s,true) else(ip0,false)
theorem V0 (s:Bytes)(h:s.length<=10^9):AL s=some (me s):=by
 unfold AL me;simp only[sM s _ h,Bm s _ h,ab];by_cases h1:(s.length:Int)<20;rw[aw h1];rfl;by_cases h2:cD s 2<20;rw[ar h1,aw h2];rfl;by_cases h3:cD s 2>(s.length:Int);rw[ar h1,ar h2,aw h3];rfl;rw[ar h1,ar h2,ar h3];have b1:=kx (s[1]'(by omega));have b8:=kx (s[8]'(by omega));have b9:=kx (s[9]'(by omega));have i1:idx s 1=some (s[1]'(by omega)):=aW (i:=1) (by omega);have i8:idx s 8=some (s[8]'(by omega)):=aW (i:=8) (by omega);have i9:idx s 9=some (s[9]'(by omega)):=aW (i:=9) (by omega);simp only[ae,ab,bF,i1,i8,i9];rw[JR (l:=s) 20 (show(20:Int)=((20:Nat):Int) from rfl) (by omega) (by omega),CB (by omega) (by omega),fJ (n:=(s[1]'(by omega)).toNat) (by omega),fJ (n:=(s[8]'(by omega)).toNat) (by omega),fJ (n:=(s[9]'(by omega)).toNat) (by omega)];have e:(((s[1]'(by omega)).toNat:Int),cD s 4,((s[8]'(by omega)).toNat:Int),((s[9]'(by omega)).toNat:Int),fb s 12,fb s 16,(s.take (cD s 2).toNat).drop 20)=HU s:=by grind[HU,bK]
 simp only[ab,e,aeE];cases (Zz (HU s)).2<;>cases (Zz (HU s)).1==s.take (cD s 2).toNat<;>rfl
theorem UT (s:Bytes)(h:s.length<=10^9):Az s=some (me s):=by
 unfold Az me;simp only[xF s _ h,Bi s _ h,ab];by_cases h1:(s.length:Int)<20;rw[aw h1];rfl;by_cases h2:cD s 2<20;rw[ar h1,aw h2];rfl;by_cases h3:cD s 2>(s.length:Int);rw[ar h1,ar h2,aw h3];rfl;rw[ar h1,ar h2,ar h3];have b1:=kx (s[1]'(by omega));have b8:=kx (s[8]'(by omega));have b9:=kx (s[9]'(by omega));have i1:idx s 1=some (s[1]'(by omega)):=aW (i:=1) (by omega);have i8:idx s 8=some (s[8]'(by omega)):=aW (i:=8) (by omega);have i9:idx s 9=some (s[9]'(by omega)):=aW (i:=9) (by omega);simp only[ae,ab,bF,i1,i8,i9];rw[JR (l:=s) 20 (show(20:Int)=((20:Nat):Int) from rfl) (by omega) (by omega),CB (by omega) (by omega),fJ (n:=(s[1]'(by omega)).toNat) (by omega),fJ (n:=(s[8]'(by omega)).toNat) (by omega),fJ (n:=(s[9]'(by omega)).toNat) (by omega)];have e:(((s[1]'(by omega)).toNat:Int),cD s 4,((s[8]'(by omega)).toNat:Int),((s[9]'(by omega)).toNat:Int),fb s 12,fb s 16,(s.take (cD s 2).toNat).drop 20)=HU s:=by grind[HU,bK]
 simp only[ab,e,adE];cases (Zz (HU s)).2<;>cases (Zz (HU s)).1==s.take (cD s 2).toNat<;>rfl
def ahL:ei:=(0,0,0,0,0,0,0,([]:Bytes))
def OC (k:Int)(s:Bytes):ei:=(k,cD s 0,cD s 2,fb s 4,fb s 8,(bK s 13:Int),cD s 14,s.drop 20)
def S6 (k:Int)(s:Bytes):ei:=(k,cD s 0,cD s 2,0,0,0,0,s.drop 8)
def tW (a b k:Int)(s:Bytes):ei×Bool:=
 bif (k==6)&&decide ((s.length:Int)>=20) then(bif (CQ a b (OC k s)).2&&((CQ a b (OC k s)).1==s) then(OC k s,true) else(ahL,false)) else
 bif (k==17)&&decide ((s.length:Int)>=8) then(bif (CQ a b (S6 k s)).2&&((CQ a b (S6 k s)).1==s) then(S6 k s,true) else(ahL,false)) else(ahL,false)
theorem Td (a b k:Int)(s:Bytes)(h:s.length<=10^9):qV a b k s=some (tW a b k s):=by
 unfold qV tW;simp only[sM s _ h,Bm s _ h,ab];rw[show(aa (cond (k==6) (some (decide ((s.length:Int)>=20))) (some false)):(Bool->ax (ei×Bool))->ax (ei×Bool))=λK=>K ((k==6)&&decide ((s.length:Int)>=20)) from by funext K;cases k==6<;>rfl];rw[show(aa (cond (k==17) (some (decide ((s.length:Int)>=8))) (some false)):(Bool->ax (ei×Bool))->ax (ei×Bool))=λK=>K ((k==17)&&decide ((s.length:Int)>=8)) from by funext K;simp_all];simp only;cases h1:(k==6)&&decide ((s.length:Int)>=20)with
 |true=>
  simp only[ah,bp]at h1;have bb:=kx (s[13]'(by omega));have i:idx s 13=some (s[13]'(by omega)):=aW (i:=13) (by omega);have e:(k,cD s 0,cD s 2,fb s 4,fb s 8,((s[13]'(by omega)).toNat:Int),cD s 14,s.drop 20)=OC k s:=by grind[OC,bK]
  simp only[af,i,ab];rw[tn (l:=s) 20 (by omega) (show(20:Int)=((20:Nat):Int) from rfl),fJ (n:=(s[13]'(by omega)).toNat) (by omega)];simp only[ab,e,FW];cases (CQ a b (OC k s)).2<;>cases (CQ a b (OC k s)).1==s<;>rfl
 |false=>simp only[ae];cases h2:(k==17)&&decide ((s.length:Int)>=8)with|false=>rfl|true=>simp only[ah,bp]at h2;rw[tn (l:=s) 8 (by omega) (show(8:Int)=((8:Nat):Int) from rfl)];simp only[af,ab,show((k,cD s 0,cD s 2,0,0,0,0,s.drop 8):ei)=S6 k s from rfl,FW];cases (CQ a b (S6 k s)).2<;>cases (CQ a b (S6 k s)).1==s<;>rfl
theorem SB (a b k:Int)(s:Bytes)(h:s.length<=10^9):qH a b k s=some (tW a b k s):=by
 unfold qH tW;simp only[xF s _ h,Bi s _ h,ab];rw[show(aa (cond (k==6) (some (decide ((s.length:Int)>=20))) (some false)):(Bool->ax (ei×Bool))->ax (ei×Bool))=λK=>K ((k==6)&&decide ((s.length:Int)>=20)) from by funext K;cases k==6<;>rfl];rw[show(aa (cond (k==17) (some (decide ((s.length:Int)>=8))) (some false)):(Bool->ax (ei×Bool))->ax (ei×Bool))=λK=>K ((k==17)&&decide ((s.length:Int)>=8)) from by funext K;simp_all];simp only;cases h1:(k==6)&&decide ((s.length:Int)>=20)with
 |true=>
  simp only[ah,bp]at h1;have bb:=kx (s[13]'(by omega));have i:idx s 13=some (s[13]'(by omega)):=aW (i:=13) (by omega);have e:(k,cD s 0,cD s 2,fb s 4,fb s 8,((s[13]'(by omega)).toNat:Int),cD s 14,s.drop 20)=OC k s:=by grind[OC,bK]
  simp only[af,i,ab];rw[tn (l:=s) 20 (by omega) (show(20:Int)=((20:Nat):Int) from rfl),fJ (n:=(s[13]'(by omega)).toNat) (by omega)];simp only[ab,e,Fz];cases (CQ a b (OC k s)).2<;>cases (CQ a b (OC k s)).1==s<;>rfl
 |false=>simp only[ae];cases h2:(k==17)&&decide ((s.length:Int)>=8)with|false=>rfl|true=>simp only[ah,bp]at h2;rw[tn (l:=s) 8 (by omega) (show(8:Int)=((8:Nat):Int) from rfl)];simp only[af,ab,show((k,cD s 0,cD s 2,0,0,0,0,s.drop 8):ei)=S6 k s from rfl,Fz];cases (CQ a b (S6 k s)).2<;>cases (CQ a b (S6 k s)).1==s<;>rfl
def pk0:aD:=(0,0,0,0,0,0,0,0,0,0,0,0,0,0,0,([]:Bytes))
def vA (s:Bytes):aD×Int:=
 let e:=fI s
 bif !e.2||(e.1.2.2.2.1 !=2048) then(pk0,2) else
 let i:=me e.1.2.2.2.2
 bif !i.2 then(pk0,3) else
 let g:=tW i.1.2.2.2.2.1 i.1.2.2.2.2.2.1 i.1.2.2.2.1 i.1.2.2.2.2.2.2
 bif !g.2 then(pk0,4) else
 bif !dm (e.1.1,e.1.2.1,e.1.2.2.1,i.1.1,i.1.2.1,i.1.2.2.1,i.1.2.2.2.2.1,i.1.2.2.2.2.2.1,g.1) then(pk0,5) else
 ((e.1.1,e.1.2.1,e.1.2.2.1,i.1.1,i.1.2.1,i.1.2.2.1,i.1.2.2.2.2.1,i.1.2.2.2.2.2.1,g.1),0)
theorem D9 (s:Bytes):(fI s).1.2.2.2.2.length<=s.length:=by grind[fI,afi,M8,C2]
theorem Ly (s:Bytes):(me s).1.2.2.2.2.2.2.length<=s.length:=by grind[me,ip0,HU]
theorem GG (s:Bytes)(h:s.length<=10^9):iC s=some (vA s):=by
 have h1:=D9 s;unfold iC vA;rw[Tc s h,ab];generalize fI s=e at h1⊢;have h2:=Ly e.1.2.2.2.2;simp only;cases e.2;rfl;cases e.1.2.2.2.1 !=2048;case true=>rfl
 simp only[aj,ae,ab,bF,V0 _ (show e.1.2.2.2.2.length<=10^9 by omega)];generalize me e.1.2.2.2.2=i at h2⊢;cases i.2;rfl;simp only[aj,ae,ab,Td _ _ _ _ (show i.1.2.2.2.2.2.2.length<=10^9 by omega)];generalize tW i.1.2.2.2.2.1 i.1.2.2.2.2.2.1 i.1.2.2.2.1 i.1.2.2.2.2.2.2=g;cases g.2;rfl;simp only[aj,ae,ab,sN];cases dm (e.1.1,e.1.2.1,e.1.2.2.1,i.1.1,i.1.2.1,i.1.2.2.1,i.1.2.2.2.2.1,i.1.2.2.2.2.2.1,g.1)<;>rfl
theorem Gu (s:Bytes)(h:s.length<=10^9):ix s=some (vA s):=by
 have h1:=D9 s;unfold ix vA;rw[IX s h,ab];generalize fI s=e at h1⊢;have h2:=Ly e.1.2.2.2.2;simp only;cases e.2;rfl;cases e.1.2.2.2.1 !=2048;case true=>rfl
 simp only[aj,ae,ab,bF,UT _ (show e.1.2.2.2.2.length<=10^9 by omega)];generalize me e.1.2.2.2.2=i at h2⊢;cases i.2;rfl;simp only[aj,ae,ab,SB _ _ _ _ (show i.1.2.2.2.2.2.2.length<=10^9 by omega)];generalize tW i.1.2.2.2.2.1 i.1.2.2.2.2.2.1 i.1.2.2.2.1 i.1.2.2.2.2.2.2=g;cases g.2;rfl;simp only[aj,ae,ab,qf];cases dm (e.1.1,e.1.2.1,e.1.2.2.1,i.1.1,i.1.2.1,i.1.2.2.1,i.1.2.2.2.2.1,i.1.2.2.2.2.2.1,g.1)<;>rfl
def kJ (s:Bytes):aD×Int:=
 let c:=DL s
 bif !c.2 then(pk0,1) else
 let r:=vA c.1
 bif r.2 !=0 then(pk0,r.2) else
 bif !gn r.1 then(pk0,5) else(r.1,0)
theorem M0 (s:Bytes):(DL s).1.length<=s.length:=by grind[DL]
theorem KV (s:Bytes)(h:s.length<=10^9):oe s=some (kJ s):=by
 have h1:=M0 s;unfold oe kJ;rw[Yt s h,ab];generalize DL s=c at h1⊢;simp only;cases c.2;rfl;simp only[aj,ae,ab,GG _ (show c.1.length<=10^9 by omega)];generalize vA c.1=r;cases r.2 !=0;case true=>rfl
 simp only[ae,ab,Ek];cases gn r.1<;>rfl
theorem QM (s:Bytes)(h:s.length<=10^9):ry s=some (kJ s):=by
 have h1:=M0 s;unfold ry kJ;rw[Xw s h,ab];generalize DL s=c at h1⊢;simp only;cases c.2;rfl;simp only[aj,ae,ab,Gu _ (show c.1.length<=10^9 by omega)];generalize vA c.1=r;cases r.2 !=0;case true=>rfl
 simp only[ae,ab,DW];cases gn r.1<;>rfl
theorem fK (a:bD)(h:a.length<=1073741824:=by omega):dh a=some a:=by simp_all[dh,jf,aQ]
theorem gR (a:bD)(h:a.length<=1073741824:=by omega):dv a=some a:=by grind[dv,aQ]
theorem EM (l:bD)(h:l.length<=10^9):jf l=some l:=by grind[jf,fw]
theorem Fx (f:Filter)(h:f.2.2.length<=10^9):pG f=some f:=by grind[pG,oC,ab]
theorem wK (f:Filter)(h:f.2.2.length<=10^9):px f=some f:=by simp only[px,fw h,bO]
theorem uu (l:au Stream)(h:l.length<=10^9:=by omega):je l=some l:=by grind[je,fw]
theorem PA (t:au Slot)(h:t.length<=10^9):wy t=some t:=by grind[wy,fw]
theorem NK (s:jV)(h:s.2.length<=10^9):uF s=some s:=by grind[uF,oC,ab]
theorem Hb (s:de)(h1:s.1.length<=10^9)(h2:s.2.1.length<=10^9)(h3:s.2.2.2.length<=10^9):lZ s=some s:=by simp only[lZ,fw h1,PA _ h2,NK _ h3,ab,bO]
theorem Hl (t:au Slot)(h:t.length<=10^9):xf t=some t:=by grind[xf,fw]
theorem yC (s:de)(h1:s.1.length<=10^9)(h2:s.2.1.length<=10^9)(h3:s.2.2.2.length<=10^9):pw s=some s:=by simp only[pw,fw h1,Hl _ h2,fw h3,ab,bO]
theorem Rp (l:au oJ)(i:Nat)(hi:i<l.length):l.take i++[(l[i].1,l[i].2.1,l[i].2.2)]=l.take (i+1):=(bg hi).symm
theorem IS (l:au oJ)(h:l.length<=10^9)(hx:∀x∈l,x.2.2.length<=10^9):tR l=some l:=by unfold tR;refine(cq (λi=>(l.take i,(i:Int))) l.length (by omega) (λi nx hi=>?_) (λnx=>?_));simp only[sI];rw[jy,aW hi,ai (by omega) (by omega)];simp only[af,ab,oC _ (hx _ (aY hi))];rw[aQ (by simp;omega),Rp l i hi];rfl;simp only[sI];rw[fT,cI];rfl
structure WI (t:bX):Prop where
 p:t.2.1.2.2.2.length<=10^9
 w:t.2.2.1.length<=10^9
 x:∀x∈t.2.2.1,x.2.2.length<=10^9
theorem HP (t:bX)(z:WI t):rC t=some t:=by simp only[rC,vk _ z.p,IS _ z.w z.x,ab]
theorem BR (t:bX)(z:WI t):jx t=some t:=by have h:=z.w;unfold jx;simp only[xI _ z.p,ab];refine(cq (λi=>((i:Int),t.1,t.2.1,t.2.2.1.take i,t.2.2.2)) t.2.2.1.length (by omega) (λi nx hi=>?_) (λnx=>?_));simp only[uT];rw[jy,aW hi,ai (by omega) (by omega)];simp only[af,ab,fw (z.x _ (aY hi)),bO];rw[aQ (by simp;omega),Rp _ i hi];rfl;simp only[uT];rw[fT,cI];rfl
theorem agG (z:cn 1000000000 dF h):WI h.2.2.1:=⟨z.2.2.1.2.1.2.2.2.1,z.2.2.1.2.2.1.1,λx hx=>(z.2.2.1.2.2.1.2 x hx).2.2.1⟩
theorem iu (h:Host)(z:cn 1000000000 dF h):fM h=some h:=by have hp:h.2.2.2.2.1.length<=10^9:=z.2.2.2.2.1.1;have hm:h.1.length<=10^9:=z.1.1;unfold fM;simp only[fK _ (show h.1.length<=1073741824 by omega),wx,fw z.2.1.1,HP _ (agG z),fw z.2.2.2.1.1,ab,bO];refine(cq (λi=>((i:Int),h.1,h.2.1,h.2.2.1,h.2.2.2.1,h.2.2.2.2.1.take i,h.2.2.2.2.2)) h.2.2.2.2.1.length (by omega) (λi nx hi=>?_) (λnx=>?_));simp only[sH];rw[jy,aW hi,ai (by omega) (by omega)];simp only[af,ab,vk _ (z.2.2.2.2.1.2 _ (aY hi)).2.2.2.1];rw[aQ (by simp;omega),<-bg hi];rfl;simp only[sH];rw[fT,cI];simp only[ae,fw z.2.2.2.2.2.1.1,fw z.2.2.2.2.2.2.1.1,Fx _ z.2.2.2.2.2.2.2.1.2.2.1,Hb _ z.2.2.2.2.2.2.2.2.1.1.1 z.2.2.2.2.2.2.2.2.1.2.1.1 z.2.2.2.2.2.2.2.2.1.2.2.2.1,uu _ z.2.2.2.2.2.2.2.2.2.1.1,EM _ z.2.2.2.2.2.2.2.2.2.2.2.1.1,oC _ z.2.2.2.2.2.2.2.2.2.2.2.2.1.1,oC _ z.2.2.2.2.2.2.2.2.2.2.2.2.2.1.1,ab,bO]
theorem iB (h:Host)(z:cn 1000000000 dF h):gw h=some h:=by have hp:h.2.2.2.2.1.length<=10^9:=z.2.2.2.2.1.1;have hm:h.1.length<=10^9:=z.1.1;unfold gw;simp only[gR _ (show h.1.length<=1073741824 by omega),fw z.2.1.1,BR _ (agG z),fw z.2.2.2.1.1,ab,bO];refine(cq (λi=>((i:Int),h.1,h.2.1,h.2.2.1,h.2.2.2.1,h.2.2.2.2.1.take i,h.2.2.2.2.2)) h.2.2.2.2.1.length (by omega) (λi nx hi=>?_) (λnx=>?_));simp only[uU];rw[jy,aW hi,ai (by omega) (by omega)];simp only[af,ab,xI _ (z.2.2.2.2.1.2 _ (aY hi)).2.2.2.1];rw[aQ (by simp;omega),<-bg hi];rfl;simp only[uU];rw[fT,cI];simp only[ae,fw z.2.2.2.2.2.1.1,fw z.2.2.2.2.2.2.1.1,wK _ z.2.2.2.2.2.2.2.1.2.2.1,yC _ z.2.2.2.2.2.2.2.2.1.1.1 z.2.2.2.2.2.2.2.2.1.2.1.1 z.2.2.2.2.2.2.2.2.1.2.2.2.1,fw z.2.2.2.2.2.2.2.2.2.1.1,fw z.2.2.2.2.2.2.2.2.2.2.2.1.1,fw z.2.2.2.2.2.2.2.2.2.2.2.2.1.1,fw z.2.2.2.2.2.2.2.2.2.2.2.2.2.1.1,ab,bO]
theorem Zd:∀l:au oJ,(bj l).length<=szC (.sl MH) l
 |[]=>by simp[bj]
 |x::l=>by have:=Zd l;grind[bj,szC]
theorem Av (s:iP)(z:cn 1000000000 lP s):mF s=some s:=by simp only[mF,Fx _ z.1.2.2.1,Hb _ z.2.1.1.1 z.2.1.2.1.1 z.2.1.2.2.2.1,uu _ z.2.2.2.1.1,EM _ z.2.2.2.2.1,ab]
def aiW:iP:=((0,false,([]:cL)),(([]:au iX),([]:au Slot),([]:Bytes),([]:cL)),0,([]:au Stream),([]:bD))
def Jy (h:Host):iP:=bif dw h then(h.2.2.2.2.2.2.2.1,h.2.2.2.2.2.2.2.2.1,(h.2.2.2.1.length:Int),h.2.2.2.2.2.2.2.2.2.1,([]:bD)) else aiW
theorem YE (h:Host)(z:cn 1000000000 dF h)(k:DG h):Cx h=some (Jy h):=by simp only[Cx,mm h k,ab,Jy];cases dw h with|false=>rfl|true=>simp only[aj,ae,af,wK _ z.2.2.2.2.2.2.2.1.2.2.1,yC _ z.2.2.2.2.2.2.2.2.1.1.1 z.2.2.2.2.2.2.2.2.1.2.1.1 z.2.2.2.2.2.2.2.2.1.2.2.2.1,fw z.2.2.2.2.2.2.2.2.2.1.1,ab,bO]
theorem KQ (h:Host){n:Nat}(z:cn n dF h):cn n lP (Jy h):=by unfold Jy;cases dw h with|false=>exact⟨⟨cv,cv,cd _,λ_ h=>nomatch h⟩,⟨⟨cd _,λ_ h=>nomatch h⟩,⟨cd _,λ_ h=>nomatch h⟩,cd _,cd _,λ_ h=>nomatch h⟩,cv,⟨cd _,λ_ h=>nomatch h⟩,cd _,λ_ h=>nomatch h⟩|true=>exact⟨z.2.2.2.2.2.2.2.1,z.2.2.2.2.2.2.2.2.1,cv,z.2.2.2.2.2.2.2.2.2.1,cd _,λ_ h=>nomatch h⟩
theorem XF (h:Host)(z:cn 1000000000 dF h)(k:DG h):Cj h=some (Jy h):=by have hl:=KQ h z;simp only[Cj,nz h k,ab,Jy]at hl⊢;cases hb:dw h with|false=>rfl|true=>grind[Av,ab]
noncomputable def Dy (s:iP):Bool:=qy s.1&&eF s.2.1 s.2.2.1
theorem OQ (s:iP)(h0:s.1.2.2.length<=10^9)(h1:s.2.1.1.length<=10^9)(h2:s.2.1.2.1.length<=10^9)(h3:s.2.1.2.2.2.length<=10^9):vD s=some (Dy s):=by grind[vD,Dy,Ei,AI,ab]
theorem NQ (s:iP)(h0:s.1.2.2.length<=10^9)(h1:s.2.1.1.length<=10^9)(h2:s.2.1.2.1.length<=10^9)(h3:s.2.1.2.2.2.length<=10^9):vq s=some (Dy s):=by grind[vq,Dy,HQ,DY,ab]
def atF (f:DF)(s:Stream):Bool:=decide (s.1=f)
def Mh (l:au Stream)(f:DF):Int:=match l.findIdx? (atF f)with|some i=>(i:Int)|none=> -1
theorem V7 (l:au Stream)(f:DF)(h:l.length<=10^9):gu l f=some (Mh l f):=by unfold gu Mh;rw[Gj (p:=atF f) (hit:=λi=>some i) (fin:=some (-1)) l (by omega) (λi hi nx=>?hs) (λnx=>?hf)];all_goals grind[kt,aW,ai,ab,atF]
theorem adN (l:au Stream)(f:DF)(h:l.length<=10^9):gY l f=some (Mh l f):=by unfold gY Mh;rw[Gj (p:=atF f) (hit:=λi=>some i) (fin:=some (-1)) l (by omega) (λi hi nx=>?hs) (λnx=>?hf)];all_goals grind[kj,aW,ai,ab,atF]
def YP:Stream:=((0,0,0,0,0),0,([]:Bytes),false)
def body (p:aD):Bytes:=p.2.2.2.2.2.2.2.2.2.2.2.2.2.2.2
def udp (p:aD):Bytes:=cb ((body p).length:Int)++body p
def zI (p:aD)(b:Int):Bool:=ak (toNat (fa p.2.2.2.2.2.2.2.2.2.2.2.2.2.1&&&fa b)) !=0
def rl (s:Stream)(p:aD):Int:=(s.2.1-p.2.2.2.2.2.2.2.2.2.2.2.1)%4294967296
def agi (s:Stream)(p:aD):Stream:=(s.1,(s.2.1+((body p).length:Int)-rl s p)%4294967296,s.2.2.1++(body p).drop (rl s p).toNat,zI p 1)
def tE (l:au Stream)(p:aD):au Stream:=
 bif !dm p then l else
 match l.findIdx? (atF (mB p))with
 |none=>
  bif p.2.2.2.2.2.2.2.2.1==17 then l++[(mB p,0,udp p,false)] else
  bif zI p 2 then l++[(mB p,tmod (ak (p.2.2.2.2.2.2.2.2.2.2.2.1+1)) 4294967296,([]:Bytes),false)] else l
 |some i=>
  bif p.2.2.2.2.2.2.2.2.1==17 then l.set i ((l.getD i YP).1,(l.getD i YP).2.1,(l.getD i YP).2.2.1++udp p,(l.getD i YP).2.2.2) else
  bif zI p 2 then l else
  bif (l.getD i YP).2.2.2||zI p 4 then l else
  bif decide (rl (l.getD i YP) p<=((body p).length:Int)) then l.set i (agi (l.getD i YP) p) else l
theorem TL (s:Stream)(p:aD):0<=rl s p/\rl s p<4294967296:=by unfold rl;omega
theorem adZ (x:Int):ak (toNat (fa x&&&fa 4294967295))=x%4294967296:=by have:=C0 x 32;grind[ai]
theorem ae2 (x:Int):ak x%4294967296=x%4294967296:=by have:=DD x 32;omega
theorem Jx (l:au α)(x y:α):(l++[x]).set l.length y=l++[y]:=by grind
theorem Zr {l:au α}{i:Nat}(h:i<l.length)(x:α):idx (l.set i x) (i:Int)=some x:=by rw[Sw,List.getElem?_set_self h]
theorem Au (l:au α)(x:α):idx (l++[x]) (l.length:Int)=some x:=by grind[Sw]
theorem MS (h:dm p=true):(body p).length<=320:=ya h
theorem IT (l:au Stream)(p:aD)(h:cn 900000000 (.sl jo) l):sf l p=some (tE l p):=by
 have hl:l.length<=900000000:=h.1;unfold sf tE;simp only[uu l,qf,ab,NL,adN l _ (show l.length<=10^9 by omega),kT];cases hs:dm p;rfl;have hb:=MS hs;have hw:=bC ((body p).length:Int);simp only[aj,ae];rw[show p.2.2.2.2.2.2.2.2.2.2.2.2.2.2.2=body p from rfl];cases hf:l.findIdx? (atF (mB p))with
 |none=>
  have e1:Mh l (mB p)= -1:=by rw[Mh,hf]
  simp only[e1,show decide ((-1:Int)<0)=true from rfl,af];cases p.2.2.2.2.2.2.2.2.1==17 with|true=>simp only[af];rw[aQ (by simp;omega),Au,ab];simp only;rw[aQ (by omega),aQ (by simp only[aq,ef];omega),ab,az];simp only[ab,Au,Jx,bO];rfl|false=>simp only[ae];rw[show(ak (toNat (fa p.2.2.2.2.2.2.2.2.2.2.2.2.2.1&&&fa 2)) !=0)=zI p 2 from rfl];cases zI p 2 with|true=>simp only[af];rw[mQ,aQ (by simp;omega)]|false=>rfl
 |some i=>
  obtain⟨hi,_⟩:=List.findIdx?_eq_some_iff_getElem.1 hf;have hd:(l[i].2.2.1).length<=900000000:=(h.2 _ (aY hi)).2.2.1;have e1:Mh l (mB p)=(i:Int):=by rw[Mh,hf]
  simp only[e1,ar (show¬(i:Int)<0 by omega),ae,aW hi,ab,eK hi,az];cases p.2.2.2.2.2.2.2.2.1==17 with
  |true=>simp only[af];rw[aQ (by omega),aQ (by simp only[aq];omega)];rfl
  |false=>
   simp only[ae];rw[show(ak (toNat (fa p.2.2.2.2.2.2.2.2.2.2.2.2.2.1&&&fa 2)) !=0)=zI p 2 from rfl,show(ak (toNat (fa p.2.2.2.2.2.2.2.2.2.2.2.2.2.1&&&fa 4)) !=0)=zI p 4 from rfl,show(ak (toNat (fa p.2.2.2.2.2.2.2.2.2.2.2.2.2.1&&&fa 1)) !=0)=zI p 1 from rfl];cases zI p 2;case true=>rfl
   simp only[ae];rw[show(aa (cond l[i].2.2.2 (some true) (some (zI p 4))):(Bool->ax (au Stream))->ax (au Stream))=λK=>K (l[i].2.2.2||zI p 4) from by funext K;cases l[i].2.2.2<;>rfl];simp only;cases l[i].2.2.2||zI p 4;case true=>rfl
   simp only[ae,KA _ 4294967296,ab,ae2];rw[show(l[i].2.1-p.2.2.2.2.2.2.2.2.2.2.2.1)%4294967296=rl l[i] p from rfl];have ha:=TL l[i] p;by_cases hq:rl l[i] p<=((body p).length:Int)
   rw[aw hq,tn (l:=body p) (rl l[i] p).toNat];simp only[af,ab];rw[aQ (by rw[bh];omega)];simp only[Zr hi,ab,List.set_set];refine congrArg some (congrArg (l.set i) ?_);simp only[agi];rw[show(ak (l[i].2.1+((body p).length:Int))-rl l[i] p)%4294967296=(l[i].2.1+((body p).length:Int)-rl l[i] p)%4294967296 from by rw[Int.sub_emod,ae2,<-Int.sub_emod]];rw[ar hq];rfl
theorem JB (l:au Stream)(p:aD)(h:cn 900000000 (.sl jo) l):sO l p=some (tE l p):=by
 have hl:l.length<=900000000:=h.1;unfold sO tE;rw[fw (by omega)];simp only[bO,sN,ab,JF,V7 l _ (show l.length<=10^9 by omega),gU];cases hs:dm p;rfl;have hb:=MS hs;have hw:=bC ((body p).length:Int);simp only[aj,ae];rw[show p.2.2.2.2.2.2.2.2.2.2.2.2.2.2.2=body p from rfl];cases hf:l.findIdx? (atF (mB p))with
 |none=>
  have e1:Mh l (mB p)= -1:=by rw[Mh,hf]
  simp only[e1,show decide ((-1:Int)<0)=true from rfl,af];cases p.2.2.2.2.2.2.2.2.1==17 with|true=>simp only[af];rw[aQ (by simp;omega),Au,ab];simp only;rw[aQ (by simp only[ef];omega),aQ (by simp only[aq,ef];omega),ab,az];simp only[ab,Au,Jx,bO];rfl|false=>simp only[ae];rw[show(ak (toNat (fa p.2.2.2.2.2.2.2.2.2.2.2.2.2.1&&&fa 2)) !=0)=zI p 2 from rfl];cases zI p 2 with|true=>simp only[af];rw[mQ,aQ (by simp;omega)]|false=>rfl
 |some i=>
  obtain⟨hi,_⟩:=List.findIdx?_eq_some_iff_getElem.1 hf;have hd:(l[i].2.2.1).length<=900000000:=(h.2 _ (aY hi)).2.2.1;have e1:Mh l (mB p)=(i:Int):=by rw[Mh,hf]
  simp only[e1,ar (show¬(i:Int)<0 by omega),ae,aW hi,ab,eK hi,az];cases p.2.2.2.2.2.2.2.2.1==17 with
  |true=>simp only[af];rw[aQ (by omega),aQ (by simp only[aq];omega),aZ];rfl
  |false=>
   simp only[ae];rw[show(ak (toNat (fa p.2.2.2.2.2.2.2.2.2.2.2.2.2.1&&&fa 2)) !=0)=zI p 2 from rfl,show(ak (toNat (fa p.2.2.2.2.2.2.2.2.2.2.2.2.2.1&&&fa 4)) !=0)=zI p 4 from rfl,show(ak (toNat (fa p.2.2.2.2.2.2.2.2.2.2.2.2.2.1&&&fa 1)) !=0)=zI p 1 from rfl];cases zI p 2;case true=>rfl
   simp only[ae];rw[show(aa (cond l[i].2.2.2 (some true) (some (zI p 4))):(Bool->ax (au Stream))->ax (au Stream))=λK=>K (l[i].2.2.2||zI p 4) from by funext K;cases l[i].2.2.2<;>rfl];simp only;cases l[i].2.2.2||zI p 4;case true=>rfl
   simp only[ae,adZ,ab,ae2];rw[show(l[i].2.1-p.2.2.2.2.2.2.2.2.2.2.2.1)%4294967296=rl l[i] p from rfl];have ha:=TL l[i] p;by_cases hq:rl l[i] p<=((body p).length:Int)
   rw[aw hq,tn (l:=body p) (rl l[i] p).toNat];simp only[af,ab];rw[aQ (by rw[bh];omega)];simp only[Zr hi,ab,List.set_set,aH (show¬(4294967296:Nat)=0 by omega)];refine congrArg some (congrArg (l.set i) ?_);simp only[agi];have e:tmod (ak (ak (l[i].2.1%4294967296+((body p).length:Int))-rl l[i] p)) 4294967296=(l[i].2.1+((body p).length:Int)-rl l[i] p)%4294967296:=by rw[ai (n:=l[i].2.1%4294967296+((body p).length:Int)) (by omega) (by omega),ai (by omega) (by omega),dU (by omega)];omega
   rw[e];rw[ar hq];rfl
theorem UO (l:au Stream)(p:aD)(h:cn 100000000 (.sl jo) l):sf l p=some (tE l p):=IT l p (h.mono)
theorem VV (l:au Stream)(p:aD)(h:cn 100000000 (.sl jo) l):sO l p=some (tE l p):=JB l p (h.mono)
theorem Is {l:au Stream}{n:Nat}(h:cn n (.sl jo) l):cn (n+322) (.sl jo) (tE l p):=by
 have h':cn (n+322) (.sl jo) l:=h.mono;unfold tE;cases hs:dm p;exact h';have hb:=MS hs;have hw:=bC ((body p).length:Int);have hu:(udp p).length<=322:=by simp only[udp,aq];omega
 simp only[aj,ae];have app:∀x:Stream,x.2.2.1.length<=n+322->cn (n+322) (.sl jo) (l++[x]):=by intro x hx;refine⟨?_,λy hy=>?_⟩;have:l.length<=n:=h.1;simp only[aq,bf];omega;rcases aA.1 hy with g|g;exact h'.2 y g;rw[cH.1 g];exact⟨⟨cv,cv,cv,cv,cv⟩,cv,hx,cv⟩
 have put:∀(i:Nat)(x:Stream),x.2.2.1.length<=n+322->cn (n+322) (.sl jo) (l.set i x):=by intro i x hx;refine⟨?_,λy hy=>?_⟩;show(l.set i x).length<=_;rw[aB];exact h'.1;rcases List.mem_or_eq_of_mem_set hy with g|rfl;exact h'.2 y g;exact⟨⟨cv,cv,cv,cv,cv⟩,cv,hx,cv⟩
 split;cases p.2.2.2.2.2.2.2.2.1==17 with|true=>exact app _ (show(udp p).length<=_ by omega)|false=>cases zI p 2 with|true=>exact app _ (cd _)|false=>exact h'
 ·rename_i i hf;obtain⟨hi,_⟩:=List.findIdx?_eq_some_iff_getElem.1 hf;have hd:(l[i].2.2.1).length<=n:=(h.2 _ (aY hi)).2.2.1;simp only[eK hi];cases p.2.2.2.2.2.2.2.2.1==17 with
  |true=>exact put _ _ (by simp only[aq];omega)
  |false=>
   cases zI p 2;case true=>exact h'
   cases l[i].2.2.2||zI p 4;case true=>exact h'
   cases decide (rl l[i] p<=((body p).length:Int))with|false=>exact h'|true=>exact put _ _ (by simp only[agi,aq,bh];omega)
theorem Eh (s:iP)(z:cn 1000000000 lP s):tk s=some s:=by simp only[tk,wK _ z.1.2.2.1,yC _ z.2.1.1.1 z.2.1.2.1.1 z.2.1.2.2.2.1,fw z.2.2.2.1.1,fw z.2.2.2.2.1,ab,bO]
def Tt (s:iP)(x:Bytes):Bool:=Dy s&&(((kJ x).2==0)&&(nt s.1 (kJ x).1&&(ou s.2.1 s.2.2.1 (kJ x).1 != -1)))
def BN (s:iP)(x:Bytes):iP:=bif Tt s x then(s.1,s.2.1,s.2.2.1,tE s.2.2.2.1 (kJ x).1,s.2.2.2.2) else s
theorem UX (s:iP)(x:Bytes)(z:cn 100000000 lP s)(h:x.length<=10^9):sv s x=some (BN s x):=by have z9:cn 1000000000 lP s:=z.mono;unfold sv BN Tt;simp only[Av s z9,QM x h,NQ s z9.1.2.2.1 z9.2.1.1.1 z9.2.1.2.1.1 z9.2.1.2.2.2.1,Ln s.1 _ z9.1.2.2.1,QR s.2.1 _ _ z9.2.1.1.1 z9.2.1.2.1.1 z9.2.1.2.2.2.1,UO s.2.2.2.1 _ z.2.2.2.1,ab];cases Dy s<;>cases (kJ x).2==0<;>cases nt s.1 (kJ x).1<;>cases ou s.2.1 s.2.2.1 (kJ x).1 != -1<;>rfl
theorem V2 (s:iP)(x:Bytes)(z:cn 100000000 lP s)(h:x.length<=10^9):sV s x=some (BN s x):=by have z9:cn 1000000000 lP s:=z.mono;unfold sV BN Tt;simp only[Eh s z9,KV x h,OQ s z9.1.2.2.1 z9.2.1.1.1 z9.2.1.2.1.1 z9.2.1.2.2.2.1,LO s.1 _ z9.1.2.2.1,Rz s.2.1 _ _ z9.2.1.1.1 z9.2.1.2.1.1 z9.2.1.2.2.2.1,VV s.2.2.2.1 _ z.2.2.2.1,ab];cases Dy s<;>cases (kJ x).2==0<;>cases nt s.1 (kJ x).1<;>cases ou s.2.1 s.2.2.1 (kJ x).1 != -1<;>rfl
theorem S1 {s:iP}{n:Nat}(z:cn n lP s):cn (n+322) lP (BN s x):=by have z':cn (n+322) lP s:=z.mono;unfold BN;cases Tt s x with|false=>exact z'|true=>exact⟨z'.1,z'.2.1,cv,Is z.2.2.2.1,z'.2.2.2.2⟩
theorem jB {y:Bytes}{i:Nat}(h:i<x.length):bK (x++y) i=bK x i:=by grind[bK]
theorem vj {y:Bytes}{i:Nat}(h:x.length<=i):bK (x++y) i=bK y (i-x.length):=by grind[bK]
theorem TX {i n:Nat}(h:i<n):bK (x.take n) i=bK x i:=by grind[bK]
theorem oB {i n:Nat}:bK (x.drop n) i=bK x (n+i):=by grind[bK]
theorem ZI {p:Bytes}{i:Nat}(h:i<a\/a+p.length<=i):bK (wH s (a:Int) p) i=bK s i:=by
 unfold wH fA;by_cases hw:(0:Int)<=a/\(a:Int)+(p.length:Int)<=(s.length:Int)
 rw[aw hw,af,az];have ht:(s.take a).length=a:=by rw[bq];omega
 rcases h with h|h;rw[jB (by rw[aq];omega),jB (by omega),TX h];rw[vj (by rw[aq];omega),oB,aq,ht];congr 1;omega;rw[ar hw];rfl
theorem ZH {p:Bytes}{j:Nat}(hw:a+p.length<=s.length)(hj:j<p.length):bK (wH s (a:Int) p) (a+j)=bK p j:=by unfold wH fA;rw[aw ⟨by omega,by omega⟩,af,az];grind[jB,vj]
theorem xD:cD s (a:Int)=bif decide (a+2<=s.length) then((bK s a*256+bK s (a+1):Nat):Int) else-1:=by grind[cD,fA]
theorem Fk (hl:s.length=t.length)(h0:bK s a=bK t a)(h1:bK s (a+1)=bK t (a+1)):cD s (a:Int)=cD t (a:Int):=by grind[xD]
theorem Nq {k:Nat}:cD (s.drop k) (a:Int)=cD s ((k+a:Nat):Int):=by rw[xD,xD,oB,oB,bh,show k+(a+1)=k+a+1 by omega,show decide (a+2<=s.length-k)=decide (k+a+2<=s.length) from decide_eq_decide.2 (by omega)]
theorem Gq:fb s (a:Int)=bif decide (a+4<=s.length) then(((bK s a*256+bK s (a+1))*65536+(bK s (a+2)*256+bK s (a+3)):Nat):Int) else-1:=by grind[fb,fA]
theorem Nr {k:Nat}:fb (s.drop k) (a:Int)=fb s ((k+a:Nat):Int):=by rw[Gq,Gq,oB,oB,oB,oB,bh,show k+(a+1)=k+a+1 by omega,show k+(a+2)=k+a+2 by omega,show k+(a+3)=k+a+3 by omega,show decide (a+4<=s.length-k)=decide (k+a+4<=s.length) from decide_eq_decide.2 (by omega)]
theorem Uj (hl:s.length=t.length)(h:∀j,j<4->bK s (a+j)=bK t (a+j)):fb s (a:Int)=fb t (a:Int):=by rw[Gq,Gq,hl,show bK s a=bK t a from h 0 (by omega),h 1 (by omega),h 2 (by omega),h 3 (by omega)]
def cf (s:Bytes):Nat:=bif cD s 12==33024 then 18 else 14
def iK (s:Bytes):Nat:=bK s (cf s+9)
def Mf (k:Nat):Nat:=bif (k:Int)==6 then 16 else 6
def xm (s:Bytes):Nat:=cf s+10
def rY (s:Bytes):Nat:=cf s+20+Mf (iK s)
theorem GK (k:Nat):Mf k=16/\k=6\/Mf k=6/\k≠6:=by grind[Mf]
theorem Il (s:Bytes):cf s=18/\(cD s 12==33024)=true\/cf s=14/\(cD s 12==33024)=false:=by grind[cf]
theorem Kr (k:Nat)(h:k<256):ff (k:Int)=some (Mf k:Int):=by grind[ff,Mf]
theorem I1 (s:Bytes)(h:s.length<=10^9):rH s=some ((xm s:Int),(rY s:Int)):=by
 unfold rH;rw[xF s 12 h,ab];have hk:=eV s (cf s+9)
 have core:∀o:Nat,cf s=o->(o=18\/o=14)->(bif decide (ak ((o:Int)+9)<(s.length:Int)) then
  aa (idx s (ak ((o:Int)+9))) λx2=>aa (ff (ak ((UInt8.toNat x2:Int)))) λr3=>some (ak ((o:Int)+10),ak ((ak ((o:Int)+20))+r3))
  else aa (ff 0) λr4=>some (ak ((o:Int)+10),ak ((ak ((o:Int)+20))+r4)))=some ((xm s:Int),(rY s:Int)):=by
  intro o ho h2
  have hs:=GK (iK s)
  rw[ai (n:=(o:Int)+9) (by omega) (by omega),ai (n:=(o:Int)+10) (by omega) (by omega),ai (n:=(o:Int)+20) (by omega) (by omega)]
  unfold xm rY
  rw[ho]
  by_cases hl:o+9<s.length
  ·obtain⟨x,hx,ex⟩:=ki hl
   rw[jy,af,show(o:Int)+9=((o+9:Nat):Int) by omega,hx,ab,ex,fJ (by rw[<-ho];omega),Kr _ (by rw[<-ho];exact hk),ab,show bK s (o+9)=iK s by unfold iK;rw[ho],ai (by omega) (by omega)]
   congr 1
  ·have hz:iK s=0:=by unfold iK;rw[ho];exact Hy
   have h0:ff 0=some (Mf 0:Int):=Kr 0 (by omega)
   rw[fT,ae,h0,ab,<-hz,ai (by omega) (by omega)]
   congr 1
 rcases Il s with⟨h1,h2⟩|⟨h1,h2⟩;rw[h2,af];exact core 18 h1 (.inl rfl);rw[h2,ae];exact core 14 h1 (.inr rfl)
theorem OO (s:Bytes)(h:s.length<=10^9):xh s=some (bif decide (s.length<cf s+46) then(-1, -1) else((xm s:Int),(rY s:Int))):=by
 unfold xh;rw[sM s 12 h,ab];have hk:=eV s (cf s+9)
 have core:∀o:Nat,cf s=o->(o=18\/o=14)->(bif decide ((s.length:Int)<ak ((o:Int)+46)) then some ((-1),(-1)) else
  aa (idx s (ak ((o:Int)+9))) λx2=>bif (ak ((UInt8.toNat x2:Int)))==6 then some (ak ((o:Int)+10),ak ((o:Int)+36)) else some (ak ((o:Int)+10),ak ((o:Int)+26)))=some (bif decide (s.length<cf s+46) then(-1, -1) else((xm s:Int),(rY s:Int))):=by
  intro o ho h2
  rw[ai (n:=(o:Int)+9) (by omega) (by omega),ai (n:=(o:Int)+10) (by omega) (by omega),ai (n:=(o:Int)+46) (by omega) (by omega),ai (n:=(o:Int)+36) (by omega) (by omega),ai (n:=(o:Int)+26) (by omega) (by omega),ho]
  by_cases hl:s.length<o+46
  ·rw[aw (show(s.length:Int)<(o:Int)+46 by omega),aw hl];rfl
  ·obtain⟨x,hx,ex⟩:=ki (s:=s) (i:=o+9)
   rw[ar (show¬(s.length:Int)<(o:Int)+46 by omega),ar hl,ae,ae,show(o:Int)+9=((o+9:Nat):Int) by omega,hx,ab,ex,fJ (by rw[<-ho];omega),show bK s (o+9)=iK s by unfold iK;rw[ho]]
   unfold xm rY Mf
   rw[ho]
   cases (iK s:Int)==6 with
   |true=>simp only[af];congr 2
   |false=>simp only[ae];congr 2
 rcases Il s with⟨h1,h2⟩|⟨h1,h2⟩;rw[h2,af];exact core 18 h1 (.inl rfl);rw[h2,ae];exact core 14 h1 (.inr rfl)
theorem ZD {a:Int}(h:dy a 0 281474976710655=true):(WC a).length=6:=by
 have ha:=bl.1 h;have e:WC a=cb (fdiv a (2^(re 32)))++jk (ak (toNat (fa a&&&fa 4294967295))):=by grind[WC,iM,gU,mI,ab,bC,dQ,aQ]
 grind[IntKind.bits,H6,Pc,adZ,bl]
theorem Lm (h:dm p=true):cf (eD p).1+46<=(eD p).1.length:=by
 have hh:vQ p=true:=by simp only[dm,ah]at h;exact h.1
 have hp:=SX (ipP p).1;have hi:=Df h;unfold eD afj T5 at hi⊢;rw[h,af]at hi⊢;cases he:Bt (p.1,p.2.1,p.2.2.1,2048,pad (ipP p).1)with|false=>rw[he]at hi;cases hi|true=>?_
 simp only[af];simp only[vQ,ah]at hh;have m1:=ZD hh.1;have m2:=ZD hh.2.1;have hv:=bl.1 hh.2.2.1;have w1:(cb 33024).length=2:=rfl;have w3:(cb 2048).length=2:=rfl;generalize pad (ipP p).1=bd at hp⊢;unfold Ql;simp only;generalize WC p.1=M1 at m1⊢;generalize WC p.2.1=M2 at m2⊢;by_cases hc:p.2.2.1>=0;have w2:(cb p.2.2.1).length=2:=by rw[H6,bl.2 (by omega)];rfl
 rw[aw hc,af];have hb:cf (((((M1++M2)++cb 33024)++cb p.2.2.1)++cb 2048)++bd)=18:=by
  unfold cf;have e12:cD (((((M1++M2)++cb 33024)++cb p.2.2.1)++cb 2048)++bd) ((12:Nat):Int)=33024:=by rw[xD,aw (by simp only[aq];omega),af];rw[jB (by simp only[aq];omega),jB (by simp only[aq];omega),jB (by simp only[aq];omega),vj (by simp only[aq];omega)];rw[jB (by simp only[aq];omega),jB (by simp only[aq];omega),jB (by simp only[aq];omega),vj (by simp only[aq];omega)];rw[aq,m1,m2];rfl
  rw[show(12:Int)=((12:Nat):Int) from rfl,e12];rfl
 rw[hb];simp only[aq];omega;rw[ar hc,ae];have hb:cf (((M1++M2)++cb 2048)++bd)=14:=by
  unfold cf;have e12:cD (((M1++M2)++cb 2048)++bd) ((12:Nat):Int)=2048:=by rw[xD,aw (by simp only[aq];omega),af];rw[jB (by simp only[aq];omega),vj (by simp only[aq];omega)];rw[jB (by simp only[aq];omega),vj (by simp only[aq];omega)];rw[aq,m1,m2];rfl
  rw[show(12:Int)=((12:Nat):Int) from rfl,e12];rfl
 rw[hb];simp only[aq];omega
def qM (t:Bytes)(x y:Bytes):Bytes:=wH (wH t (xm t:Int) x) (rY t:Int) y
theorem Cr (t x y:Bytes):(qM t x y).length=t.length:=by grind[qM,wI]
def ic (p:aD):Bytes×Bool:=bif dm p then(qM (eD p).1 (cb 0) (cb 0),true) else([],false)
theorem UK (h:dm p=false):eD p=([],false):=by grind[eD]
theorem QT (p:aD):mD p=some (ic p):=by have hl:=xE p;have w0:=bC 0;unfold mD ic qM;rw[Gt,ab];cases h:dm p with|false=>rw[UK h];rfl|true=>rw[Df h];simp only[aj,ae,af,I1 _ (show(eD p).1.length<=10^9 by omega),ab,kT,DX _ _ _ (show(eD p).1.length<=10^9 by omega) (show(cb 0).length<=10^9 by omega),DX _ _ _ (show(wH (eD p).1 (xm (eD p).1:Int) (cb 0)).length<=10^9 by rw[wI];omega) (show(cb 0).length<=10^9 by omega)]
theorem RA (p:aD):mN p=some (ic p):=by have hl:=xE p;unfold mN ic qM;rw[GF,ab];cases h:dm p with|false=>rw[UK h];rfl|true=>grind[Lm,Df,OO,ab,gU,Cw,cb,wI]
def EA (s t:Bytes):Prop:=s.length=t.length/\∀i,i<xm t\/(xm t+2<=i/\i<rY t)\/rY t+2<=i->bK s i=bK t i
theorem zy (t:Bytes):(cf t=14\/cf t=18)/\xm t=cf t+10/\cf t+26<=rY t/\rY t<=cf t+36/\(rY t=cf t+36/\iK t=6\/rY t=cf t+26/\iK t≠6):=by grind[Il,GK,xm,rY]
theorem Hi (t:Bytes){y:Bytes}(hx:x.length<=2)(hy:y.length<=2):EA (qM t x y) t:=by have:=zy t;refine⟨Cr t x y,λi hi=>?_⟩;grind[qM,ZI]
theorem EA.body (h:EA s t):cf s=cf t:=by have:=zy t;unfold cf;have e:cD s ((12:Nat):Int)=cD t ((12:Nat):Int):=Fk h.1 (h.2 _ (by omega)) (h.2 _ (by omega));grind
theorem EA.kind (h:EA s t):iK s=iK t:=by have:=zy t;unfold iK;rw[h.body,h.2 _ (by omega)]
theorem EA.ahG (h:EA s t):xm s=xm t/\rY s=rY t:=by unfold xm rY;rw[h.body,h.kind];exact⟨rfl,rfl⟩
theorem EA.aiM (h:EA s t):cD s ((cf t+2:Nat):Int)=cD t ((cf t+2:Nat):Int):=by have:=zy t;exact Fk h.1 (h.2 _ (by omega)) (h.2 _ (by omega))
structure TOk (t:Bytes):Prop where
 eth:(fI t).2=true
 bd:(fI t).1.2.2.2.2=t.drop (cf t)
 l1:cf t+46<=t.length
 n1:20+Mf (iK t)+2<=cD t ((cf t+2:Nat):Int)
 n2:cD t ((cf t+2:Nat):Int)<=(t.length:Int)-(cf t:Int)
theorem KI (h:(fI s).2=true):(fI s).1.2.2.2.2=s.drop (cf s)/\18<=s.length/\46<=s.length-cf s/\s.length-cf s<=400:=by
 unfold fI at h⊢;by_cases h8:(s.length:Int)<18;rw[aw h8]at h;cases h;rw[ar h8]at h⊢;simp only[ae]at h⊢;rcases Il s with⟨h1,h2⟩|⟨h1,h2⟩;rw[h2]at h⊢;simp only[af]at h⊢;cases he:Bt (M8 s)with|false=>rw[he]at h;cases h|true=>rw[h1];simp only[Bt,ah,bl,M8,bh]at he;simp only[af,M8];refine⟨cv,by omega,by omega,by omega⟩
 rw[h2]at h⊢;simp only[ae]at h⊢;cases he:Bt (C2 s)with|false=>rw[he]at h;cases h|true=>rw[h1];simp only[Bt,ah,bl,C2,bh]at he;simp only[af,C2];refine⟨cv,by omega,by omega,by omega⟩
theorem aen (h:(vA s).2=0):(fI s).2=true/\(me (fI s).1.2.2.2.2).2=true/\dm (vA s).1=true/\ (tW (me (fI s).1.2.2.2.2).1.2.2.2.2.1 (me (fI s).1.2.2.2.2).1.2.2.2.2.2.1 (me (fI s).1.2.2.2.2).1.2.2.2.1 (me (fI s).1.2.2.2.2).1.2.2.2.2.2.2).2=true:=by grind[vA]
theorem aeh {b:Bytes}(h:(me b).2=true):20<=cD b 2/\cD b 2<=(b.length:Int)/\(me b).1=HU b:=by grind[me]
theorem abI {a b k:Int}(h:(tW a b k s).2=true):k=6/\20<=s.length\/k=17/\8<=s.length:=by grind[tW]
theorem aao (hl:s.length=t.length)(h:∀i,i<18->bK s i=bK t i)(hs:(fI s).2=true):(fI t).2=true:=by
 have g16:∀a,a+2<=18->cD s ((a:Nat):Int)=cD t ((a:Nat):Int):=λa ha=>Fk hl (h _ (by omega)) (h _ (by omega));have g32:∀a,a+4<=18->fb s ((a:Nat):Int)=fb t ((a:Nat):Int):=λa ha=>Uj hl (λj hj=>h _ (by omega));have e0:He s 0=He t 0:=by unfold He;rw[show(0:Int)=((0:Nat):Int) from rfl,g16 0 (by omega),show((0:Nat):Int)+2=((2:Nat):Int) from rfl,g32 2 (by omega)]
 have e6:He s 6=He t 6:=by unfold He;rw[show(6:Int)=((6:Nat):Int) from rfl,g16 6 (by omega),show((6:Nat):Int)+2=((8:Nat):Int) from rfl,g32 8 (by omega)]
 grind[cD,Bt,M8,C2,fI]
theorem ahP (ha:EA s t)(h:(vA s).2=0):TOk t:=by
 have hp:=zy t;obtain⟨h1,h2,_,h4⟩:=aen h;have he:=KI h1;rw[he.1]at h2 h4;have hi:=aeh h2;have hs:=abI h4;rw[hi.2.2]at hs;have e1:(fI t).2=true:=aao ha.1 (λi hi=>ha.2 i (by omega)) h1;have e2:=KI e1;have en:cD (s.drop (cf s)) 2=cD t ((cf t+2:Nat):Int):=by have:cD (s.drop (cf s)) ((2:Nat):Int)=cD s ((cf s+2:Nat):Int):=Nq;rw[show(2:Int)=((2:Nat):Int) from rfl,this,ha.body,ha.aiM]
 have ek:(HU (s.drop (cf s))).2.2.2.1=(iK t:Int):=by show(bK (s.drop (cf s)) 9:Int)=_;rw[oB,<-ha.kind];rfl
 have eg:(HU (s.drop (cf s))).2.2.2.2.2.2.length=(cD t ((cf t+2:Nat):Int)).toNat-20:=by show(((s.drop (cf s)).take (cD (s.drop (cf s)) 2).toNat).drop 20).length=_;grind
 rw[ek,eg]at hs;rw[en]at hi;have hn:=hi.2.1;rw[bh,ha.1,ha.body]at hn;have hk:=GK (iK t);exact⟨e1,e2.1,by omega,by omega,by omega⟩
theorem acq (h:(ic p).1=t)(hs:dm p=true)(ht:TOk t):cD t (xm t:Int)=0/\cD t (rY t:Int)=0:=by
 unfold ic at h;rw[hs]at h;simp only[af]at h;have w0:(cb 0).length=2:=rfl;have ha:EA (qM (eD p).1 (cb 0) (cb 0)) (eD p).1:=Hi _ (by omega) (by omega);rw[h]at ha;have hp:=zy t;have BD:=ha.ahG;have hl:=ht.l1;have Af:=ha.1;have Kk:=ht.n1;have E1:=ht.n2;have hk:=GK (iK t);have hB:rY t+2<=t.length:=by omega
 have b0:bK (cb 0) 0=0:=rfl;have b1:bK (cb 0) 1=0:=rfl;rw[xD,xD,jy,aw hB,af,af];have eB:∀j,j<2->bK t (rY t+j)=bK (cb 0) j:=by intro j hj;rw[<-h];unfold qM;rw[show rY (wH (wH (eD p).1 (xm (eD p).1:Int) (cb 0)) (rY (eD p).1:Int) (cb 0))=rY (eD p).1 from by have:=BD.2;rw[<-h]at this;exact this];simp_all[ZH,wI]
 have eA:∀j,j<2->bK t (xm t+j)=bK (cb 0) j:=by intro j hj;rw[<-h];unfold qM;rw[show xm (wH (wH (eD p).1 (xm (eD p).1:Int) (cb 0)) (rY (eD p).1:Int) (cb 0))=xm (eD p).1 from by have:=BD.1;rw[<-h]at this;exact this];simp(disch:=omega)[ZI,ZH]
 grind
theorem MY (s:Bytes):aK (dq s)=s:=by simp_all[aK,dq,List.map_congr_left]
theorem adO (s t:Bytes):dq (s++t)=dq s++dq t:=List.map_append
theorem I7 (s:Bytes):(dq s).length=s.length:=cA ..
theorem MA (l:au α)(i j:Nat)(h:i<=j)(h2:j<=l.length):sub l (i:Int) (j:Int)=some ((l.drop i).take (j-i)):=by grind[sub,List.take_drop]
theorem Z3 (a k:Nat):tdiv (a:Int) (k:Int)=((a/k:Nat):Int):=(Int.ofNat_tdiv a k).symm
theorem Wj (a k:Nat):tmod (a:Int) (k:Int)=((a%k:Nat):Int):=(Int.ofNat_tmod a k).symm
theorem mem_iff:cG m=true↔(∀x∈m,x.length=128)/\m.length<=64:=by grind[cG]
theorem Ud:∀{m:bD},(∀x∈m,x.length=128)->m.flatten.length=128*m.length
 |[],_=>rfl
 |x::m,h=>by have:=Ud (m:=m) (λy hy=>h y (by simp[hy]));grind
theorem Qu:∀{m:bD}(_:∀x∈m,x.length=128)(p:Nat)(hp:p<m.length)(o c:Nat),o+c<=128->(m.flatten.drop (128*p+o)).take c=(m[p].drop o).take c
 |x::m,h,0,hp,o,c,ho=>by grind
 |x::m,h,p+1,hp,o,c,ho=>by have hx:=h x (by simp);simp only[List.flatten_cons,List.getElem_cons_succ];rw[show 128*(p+1)+o=x.length+(128*p+o) by omega,List.drop_length_add_append];exact Qu (m:=m) (λy hy=>h y (by simp[hy])) p (by simpa using hp) o c ho
def Aj (m:bD)(a n:Nat):Bytes:=(m.flatten.drop a).take n
theorem Ds {n:Nat}(h:cG m=true)(hn:a+n<=128*m.length):(Aj m a n).length=n:=by have:=Ud (mem_iff.1 h).1;grind[Aj]
theorem aeo (m:bD)(a n:Nat):(Aj m a n).length<=n:=by simp[Aj];omega
theorem Rh (m:bD)(a k c:Nat):Aj m a (k+c)=Aj m a k++Aj m (a+k) c:=by grind[Aj,ec]
theorem Ov (h:cG m=true){p:Nat}(hp:p<m.length)(ho:o+c<=128)(ha:a=128*p+o):(m[p].drop o).take c=Aj m a c:=by subst ha;exact(Qu (mem_iff.1 h).1 p hp o c ho).symm
def fX (m:bD)(a n:Int):Bool:=cG m&&decide (0<=n/\0<=a/\a+n<=128*(m.length:Int))
theorem FA (m:bD)(a n:Int)(h:m.length<=10^9):vt m a n=some (fX m a n):=by unfold vt fX;rw[HR m h,ab,ai (n:=(m.length:Int)*128) (by omega) (by omega)];cases hm:cG m with|false=>rfl|true=>simp only[af,bB];by_cases h1:n>=0;by_cases h2:n<=(m.length:Int)*128;rw[ai (n:=(m.length:Int)*128-n) (by omega) (by omega)];by_cases h3:a>=0;simp only[aw h1,aw h2,aw h3,af,ab];exact congrArg some (decide_eq_decide.2 (by omega));simp only[aw h1,aw h2,ar h3,af,ae,ab];exact congrArg some (fT).symm;simp only[aw h1,ar h2,af,ae,ab];exact congrArg some (fT).symm;simp only[ar h1,ae,ab];exact congrArg some (fT).symm
theorem FY (m:bD)(a n:Int)(h:m.length<=10^9):lj m a n=some (fX m a n):=by unfold lj fX;rw[Ej m h,ab,ai (n:=128*(m.length:Int)) (by omega) (by omega)];cases hm:cG m with|false=>rfl|true=>simp only[af,bB];by_cases h1:n>=0;by_cases h3:a>=0;by_cases h2:a<=128*(m.length:Int);rw[ai (n:=128*(m.length:Int)-a) (by omega) (by omega)];simp only[aw h1,aw h2,aw h3,af,ab];exact congrArg some (decide_eq_decide.2 (by omega));simp only[aw h1,ar h2,aw h3,af,ae,ab];exact congrArg some (fT).symm;simp only[aw h1,ar h3,af,ae,ab];exact congrArg some (fT).symm;simp only[ar h1,ae,ab];exact congrArg some (fT).symm
theorem IZ (hm:cG m=true)(K:Int->cL->ax R):∀(n r k a f:Nat),r<=n->n<f->a+k+r<=128*m.length->
 aM (kV K ((k+r:Nat):Int) m) f (((a+k:Nat):Int),dq (Aj m a k))=K ((a+k+r:Nat):Int) (dq (Aj m a (k+r)))
 |n,r,k,a,0,_,hf,_=>by omega
 |n,0,k,a,f+1,hr,hf,hb=>by grind[aM,kV,I7,Ds]
 |0,r+1,k,a,f+1,hr,hf,hb=>by omega
 |n+1,r+1,k,a,f+1,hr,hf,hb=>by
  have h64:=(mem_iff.1 hm).2;have hl:=Ds hm (show a+k<=128*m.length by omega);obtain⟨p,hp⟩:∃p,(a+k)/128=p:=⟨_,rfl⟩
  obtain⟨o,ho⟩:∃o,(a+k)%128=o:=⟨_,rfl⟩
  have hpo:a+k=128*p+o:=by omega
  have ho2:o<128:=by omega
  have BD:p<m.length:=by omega
  obtain⟨c,hc⟩:∃c,min (r+1) (128-o)=c:=⟨_,rfl⟩
  have hpg:=(mem_iff.1 hm).1 _ (aY BD);have e1:tdiv ((a+k:Nat):Int) 128=(p:Int):=by grind
  have e2:tmod ((a+k:Nat):Int) 128=(o:Int):=by grind
  have key:=IZ hm K n (r+1-c) (k+c) a f (by omega) (by omega) (by omega);rw[aM];simp only[kV,I7,hl,e1,e2];rw[jy,af,mQ,ai (n:=(p:Int)) (by omega) (by omega),aW BD,ab,mQ];rw[ai (n:=(o:Int)+((k+(r+1):Nat):Int)) (by omega) (by omega),ai (n:=(o:Int)+((k+(r+1):Nat):Int)-(k:Int)) (by omega) (by omega)];rw[show(if(o:Int)+((k+(r+1):Nat):Int)-(k:Int)<128 then(o:Int)+((k+(r+1):Nat):Int)-(k:Int) else 128)=((o+c:Nat):Int) by split<;>omega];rw[MA _ _ _ (by omega) (by omega),ab,show o+c-o=c by omega,Ov hm BD (show o+c<=128 by omega) hpo];have Af:=Ds hm (show a+k+c<=128*m.length by omega);rw[Af,aQ (by omega),ai (by omega) (by omega),<-adO,<-Rh];grind
theorem adK (m:bD)(a n:Int)(h:m.length<=10^9):pE m a n=some (bif fX m a n then(Aj m a.toNat n.toNat,true) else([],false)):=by have xq:=cU;unfold pE;rw[FA m a n h,ab];cases hw:fX m a n with|false=>rfl|true=>simp only[fX,ah,bp]at hw;obtain⟨hm,h1,h2,h3⟩:=hw;have h64:=(mem_iff.1 hm).2;simp only[aj,ae,af];rw[zip,aQ (by omega)];obtain⟨a,rfl⟩:=aG h2;obtain⟨n,rfl⟩:=aG h1;have:=IZ hm (λ(y4:Int) (y5:cL)=>some (aK y5,true)) n n 0 a fuel (by omega) (by omega) (by omega);rw[cl,eh]at this;refine Eq.trans this ?_;simp only[MY,az]
theorem JJ (hm:cG m=true)(K:Int->Int->Bytes->ax R):∀(n r k a f:Nat),r<=n->n<f->a+k+r<=128*m.length->
 aM (pn K m) f (((a+k:Nat):Int),(r:Int),Aj m a k)=K ((a+k+r:Nat):Int) 0 (Aj m a (k+r))
 |n,r,k,a,0,_,hf,_=>by omega
 |n,0,k,a,f+1,hr,hf,hb=>by rfl
 |0,r+1,k,a,f+1,hr,hf,hb=>by omega
 |n+1,r+1,k,a,f+1,hr,hf,hb=>by
  have h64:=(mem_iff.1 hm).2;have hl:=Ds hm (show a+k<=128*m.length by omega);obtain⟨p,hp⟩:∃p,(a+k)/128=p:=⟨_,rfl⟩
  obtain⟨o,ho⟩:∃o,(a+k)%128=o:=⟨_,rfl⟩
  have hpo:a+k=128*p+o:=by omega
  have ho2:o<128:=by omega
  have BD:p<m.length:=by omega
  obtain⟨c,hc⟩:∃c,min (r+1) (128-o)=c:=⟨_,rfl⟩
  have hpg:=(mem_iff.1 hm).1 _ (aY BD);have e1:tdiv ((a+k:Nat):Int) 128=(p:Int):=by grind
  have e2:tmod ((a+k:Nat):Int) 128=(o:Int):=by grind
  have key:=JJ hm K n (r+1-c) (k+c) a f (by omega) (by omega) (by omega);rw[aM];simp only[pn,e1,e2];rw[jy,af,mQ,mQ,ai (n:=(p:Int)) (by omega) (by omega),aW BD,ab];rw[ai (n:=128-(o:Int)) (by omega) (by omega)];rw[show(if 128-(o:Int)<((r+1:Nat):Int) then 128-(o:Int) else((r+1:Nat):Int))=(c:Int) by split<;>omega];rw[ai (n:=(o:Int)+(c:Int)) (by omega) (by omega),show(o:Int)+(c:Int)=((o+c:Nat):Int) by omega];rw[MA _ _ _ (by omega) (by omega),ab,show o+c-o=c by omega,Ov hm BD (show o+c<=128 by omega) hpo];have Af:=Ds hm (show a+k+c<=128*m.length by omega);rw[Af,hl,aQ (by omega),ai (n:=((a+k:Nat):Int)+(c:Int)) (by omega) (by omega),ai (n:=((r+1:Nat):Int)-(c:Int)) (by omega) (by omega),<-Rh];grind
theorem aeK (m:bD)(a n:Int)(h:m.length<=10^9):pQ m a n=some (bif fX m a n then(Aj m a.toNat n.toNat,true) else([],false)):=by have xq:=cU;unfold pQ;rw[FY m a n h,ab];cases hw:fX m a n with|false=>rfl|true=>simp only[fX,ah,bp]at hw;obtain⟨hm,h1,h2,h3⟩:=hw;have h64:=(mem_iff.1 hm).2;simp only[aj,ae,af];obtain⟨a,rfl⟩:=aG h2;obtain⟨n,rfl⟩:=aG h1;have:=JJ hm (λ(y4:Int) (y5:Int) (y6:Bytes)=>some (y6,true)) n n 0 a fuel (by omega) (by omega) (by omega);rw[cl,eh]at this;exact this
def SN (d p:Int)(w:Bool)(x:ay):Bool:=vu d p x&&(x.2.2.2|| !w)
def vx (l:au ay)(d p:Int)(w:Bool):Int:=match l.findIdx? (SN d p w)with|some i=>(l.getD i SO).2.2.1|none=> -1
theorem aeH (l:au ay)(d p:Int)(w:Bool)(h:l.length<=10^9):AX l d p w=some (vx l d p w):=by unfold AX vx;refine Eq.trans (Gj (p:=SN d p w) (hit:=λi=>aa (idx l i) λx=>some x.2.2.1) (fin:=some (-1)) l (by omega) (λi hi nx=>?_) (λnx=>?_)) ?_;simp only[uR];rw[jy,aW hi,ai (by omega) (by omega)];simp only[af,ab,SN,vu];cases l[i].1==d<;>cases l[i].2.1==p<;>cases l[i].2.2.2<;>cases w<;>rfl;simp only[uR];rw[fT];rfl;cases hf:l.findIdx? (SN d p w)with|none=>rfl|some i=>obtain⟨hi,_⟩:=List.findIdx?_eq_some_iff_getElem.1 hf;simp only[aW hi,ab,eK hi]
theorem N5 (h:eX l=true){i:Nat}(hi:i<l.length):Kx l[i]=true/\∀j (hj:j<i),vu l[i].1 l[i].2.1 (l[j]'(by omega))=false:=by simp only[eX,ah,aL,cW]at h;have:=h.2 i hi;simp only[SM,ah,aL,cW,eK hi,aN]at this;grind
theorem Q0 {d p:Int}{m:ay}:vu d p m=true↔m.1=d/\m.2.1=p:=by simp[vu]
theorem adY (h:eX l=true){d p:Int}{i j:Nat}(hi:i<l.length)(hj:j<l.length)(h1:vu d p l[i]=true)(h2:vu d p l[j]=true):i=j:=by grind[Q0,N5]
theorem Od (h:eX l=true)(d p:Int)(w:Bool)(h1:0<=vx l d p w):vx l d p w<=63/\0<=p/\p<=1023:=by grind[vx,SN,List.findIdx?_eq_some_iff_getElem,N5,Q0,Kx,bl]
theorem aaU (l:au ay)(d:Int)(a:Nat)(w:Bool)(h:l.length<=10^9)(hm:eX l=true)(ha:a<=9223372036854775807): D3 l d (a:Int) w=some (if 0<=vx l d ((a/128:Nat):Int) w then vx l d ((a/128:Nat):Int) w*128+((a%128:Nat):Int) else-1):=by
 have e1:tdiv (a:Int) 128=((a/128:Nat):Int):=Z3 a 128;have e2:tmod (a:Int) 128=((a%128:Nat):Int):=Wj a 128;unfold D3;rw[fT,ae,mQ,e1,e2,ai (by omega) (by omega),US l _ _ h,ab];generalize ((a/128:Nat):Int)=p;have vS:=Od hm d p w;unfold Vq;cases hf:l.findIdx? (vu d p)with
 |none=>
  have hn:vx l d p w= -1:=by grind[vx,SN]
  rw[hn];rfl
 |some i=>
  obtain⟨hi,h2,h3⟩:=List.findIdx?_eq_some_iff_getElem.1 hf;simp only;rw[fT,aW hi];simp only[ae,ab];cases hq:l[i].2.2.2|| !w with
  |true=>
   have hF:vx l d p w=l[i].2.2.1:=by grind[vx,List.findIdx?_eq_some_iff_getElem,SN]
   have h4:=(N5 hm hi).1;simp only[Kx,ah,bl]at h4
   rw[hF,aF (show 0<=l[i].2.2.1 by omega),show(aa (cond w (some (!l[i].2.2.2)) (some false)) λq3=>cond q3 (some (-1:Int)) _)=_ from by
    have:(cond w (some (!l[i].2.2.2)) (some false))=some false:=by cases w<;>cases hz:l[i].2.2.2<;>rw[hz]at hq<;>first|rfl|cases hq
    rw[this,ab,ae]]
   grind[ai]
  |false=>grind[vx,List.getElem_of_mem,vu,SN,adY,ab]
def lJ (l:au ay)(m:bD)(d:Int)(w:Bool):Nat->Nat->Nat->ax (au (Int×Int))
 |0,_,_=>some []
 |n+1,a,r=>if r=0 then some [] else
  if 0<=vx l d ((a/128:Nat):Int) w/\vx l d ((a/128:Nat):Int) w<(m.length:Int) then
   (lJ l m d w n (a+min (128-a%128) r) (r-min (128-a%128) r)).map (λq=>(vx l d ((a/128:Nat):Int) w*128+((a%128:Nat):Int),((min (128-a%128) r:Nat):Int))::q)
  else none
theorem Tx (hm:cG m=true){f:Int}(h0:0<=f)(hc:0<c)(ho:o+c<=128):fX m (f*128+(o:Int)) (c:Int)=decide (f<(m.length:Int)):=by grind[fX]
theorem Ws (hm:cG m=true){f:Int}(h0:0<=f):fX m (f*128) 128=decide (f<(m.length:Int)):=by grind[fX]
theorem I0 (hl:eX l=true)(hL:l.length<=10^9)(hm:cG m=true)(d:Int)(w:Bool):∀(n a r f:Nat)(acc:au (Int×Int)),r<=n->n<f->acc.length+n<=1000000->a<=9223372036854775807->
 aM (rD (λ(y9:Int) (xo:Int) (zZ:au (Int×Int))=>some (zZ,true)) (λ(GU:Int) (GV:Int) (DE:au (Int×Int)) (GW:Bool) (J2:au (Int×Int))=>some (DE,GW)) l d w ([]:au (Int×Int)) false m) f ((a:Int),(r:Int),acc)
  =match lJ l m d w n a r with|some q=>some (acc++q,true)|none=>some ([],false)
 |n,a,r,0,acc,_,hf,_,_=>by omega
 |0,a,r,f+1,acc,hr,hf,hA,ha=>by rw[aM];simp only[rD];rw[fT];simp[lJ]
 |n+1,a,r,f+1,acc,hr,hf,hA,ha=>by
  have h64:=(mem_iff.1 hm).2;rw[aM];simp only[rD,lJ];by_cases h0:r=0;rw[fT,aF h0];simp;have e2:tmod (a:Int) 128=((a%128:Nat):Int):=Wj a 128;have vS:=Od hl d ((a/128:Nat):Int) w;rw[jy,aH h0,aaU l d a w hL hl ha,ab,mQ,e2,ai (n:=128-((a%128:Nat):Int)) (by omega) (by omega)];obtain⟨c,hc⟩:∃c,min (128-a%128) r=c:=⟨_,rfl⟩
  rw[hc,show(if 128-((a%128:Nat):Int)<(r:Int) then 128-((a%128:Nat):Int) else(r:Int))=(c:Int) by split<;>omega];generalize hP:vx l d ((a/128:Nat):Int) w=P at vS⊢;by_cases hP0:0<=P;have vS:=vS hP0;simp only[aF hP0,af];rw[ar (show¬P*128+((a%128:Nat):Int)<0 by omega),FA m _ _ (by omega),Tx hm hP0 (by omega) (by omega)];simp only[ae,ab];by_cases hP1:P<(m.length:Int);rw[aw hP1,aF ⟨hP0,hP1⟩];simp only[aj,ae];rw[aQ (by simp;omega),ai (n:=(a:Int)+(c:Int)) (by omega) (by omega),ai (n:=(r:Int)-(c:Int)) (by omega) (by omega),ar (show¬(a:Int)+(c:Int)<0 by omega)];simp only[ae,ab];have key:=I0 hl hL hm d w n (a+c) (r-c) f (acc++[(P*128+((a%128:Nat):Int),(c:Int))]) (by omega) (by omega) (by simp;omega) (by omega);rw[show((a+c:Nat):Int)=(a:Int)+(c:Int) by omega,show((r-c:Nat):Int)=(r:Int)-(c:Int) by omega]at key;rw[key];cases lJ l m d w n (a+c) (r-c)with|none=>rfl|some q=>simp
  rw[ar hP1,mQ];rfl;simp only[aH hP0,af];rw[mQ,jy];rfl
theorem JK (hl:eX l=true)(hL:l.length<=10^9)(hm:cG m=true)(d:Int)(w:Bool):∀(n a r f:Nat)(acc:au (Int×Int)),r<=n->n<f->acc.length+n<=1000000->a<=9223372036854775807->
 aM (kO (λ(xo:Int) (zZ:Int) (GU:cL) (GV:cL)=>some (GU,GV,true)) (λ(DE:Int) (GW:Int) (J2:cL) (P8:cL) (Pd:Bool) (Wv:cL) (y20:cL)=>some (J2,P8,Pd)) l d w ([]:cL) ([]:cL) false m) f ((a:Int),(r:Int),acc.map (·.1),acc.map (·.2))
  =match lJ l m d w n a r with|some q=>some ((acc++q).map (·.1),(acc++q).map (·.2),true)|none=>some ([],[],false)
 |n,a,r,0,acc,_,hf,_,_=>by omega
 |0,a,r,f+1,acc,hr,hf,hA,ha=>by rw[aM];simp only[kO];rw[fT];simp[lJ]
 |n+1,a,r,f+1,acc,hr,hf,hA,ha=>by
  have h64:=(mem_iff.1 hm).2;rw[aM];simp only[kO,lJ];by_cases h0:r=0;rw[fT,aF h0];simp;have e1:tdiv (a:Int) 128=((a/128:Nat):Int):=Z3 a 128;have e2:tmod (a:Int) 128=((a%128:Nat):Int):=Wj a 128;have vS:=Od hl d ((a/128:Nat):Int) w;rw[aw (show(r:Int)>0 by omega),aw (show(a:Int)>=0 by omega),aH h0];simp only[af];rw[mQ,e1,e2,ai (n:=((a/128:Nat):Int)) (by omega) (by omega),aeH l _ _ w hL,ab,mQ,ai (n:=128-((a%128:Nat):Int)) (by omega) (by omega)];obtain⟨c,hc⟩:∃c,min (128-a%128) r=c:=⟨_,rfl⟩
  rw[hc,show(if 128-((a%128:Nat):Int)<(r:Int) then 128-((a%128:Nat):Int) else(r:Int))=(c:Int) by split<;>omega];generalize hP:vx l d ((a/128:Nat):Int) w=P at vS⊢;by_cases hP0:0<=P;have vS:=vS hP0;rw[ar (show¬P<0 by omega),ai (n:=P*128) (by omega) (by omega),FY m _ _ (by omega),Ws hm hP0];simp only[ae,ab];by_cases hP1:P<(m.length:Int);rw[aw hP1,aF ⟨hP0,hP1⟩];simp only[aj,ae];rw[aQ (by simp;omega),aQ (by simp;omega),ai (n:=P*128+((a%128:Nat):Int)) (by omega) (by omega),ai (n:=(a:Int)+(c:Int)) (by omega) (by omega),ai (n:=(r:Int)-(c:Int)) (by omega) (by omega)];have key:=JK hl hL hm d w n (a+c) (r-c) f (acc++[(P*128+((a%128:Nat):Int),(c:Int))]) (by omega) (by omega) (by simp;omega) (by omega);rw[show((a+c:Nat):Int)=(a:Int)+(c:Int) by omega,show((r-c:Nat):Int)=(r:Int)-(c:Int) by omega,List.map_append,List.map_append]at key;refine Eq.trans key ?_;cases lJ l m d w n (a+c) (r-c)with|none=>rfl|some q=>simp
  rw[ar hP1,mQ];rfl;rw[mQ,jy];rfl
def nP (l:au ay)(m:bD)(d a n:Int)(w:Bool):au (Int×Int)×Bool:=
 bif eX l&&(cG m&&dy n 0 4096) then
  (bif n==0 then([],true) else bif decide (a<0) then([],false) else match lJ l m d w n.toNat a.toNat n.toNat with|some q=>(q,true)|none=>([],false))
 else([],false)
theorem UZ (l:au ay)(m:bD)(d a n:Int)(w:Bool)(hl:l.length<=10^9)(hm:m.length<=10^9)(ha:a<=9223372036854775807):zn l m d a n w=some (nP l m d a n w):=by
 have xq:=cU;unfold zn nP;simp only[IW l hl,HR m hm,da,ab];cases hB:eX l;rfl;cases hM:cG m;rfl;cases hN:dy n 0 4096;rfl;have hn:=bl.1 hN;simp only[aj,ae,ab,dE,af];cases h0:n==0;case true=>rfl
 by_cases hA:a<0;rw[aw hA];rfl;rw[ar hA];simp only[ae];obtain⟨a,rfl⟩:=aG (show 0<=a by omega);obtain⟨n,rfl⟩:=aG hn.1;rw[I0 hB hl hM d w n a n fuel [] (by omega) (by omega) (by simp;omega) (by omega)];simp only[az];cases lJ l m d w n a n<;>rfl
theorem Ru (l:au ay)(m:bD)(d a n:Int)(w:Bool)(hl:l.length<=10^9)(hm:m.length<=10^9)(ha:a<=9223372036854775807):uh l m d a n w=some ((nP l m d a n w).1.map (·.1),(nP l m d a n w).1.map (·.2),(nP l m d a n w).2):=by
 have xq:=cU;unfold uh nP;simp only[JH l hl,Ej m hm,cx,ab];cases hB:eX l;rfl;cases hM:cG m;rfl;cases hN:dy n 0 4096;rfl;have hn:=bl.1 hN;simp only[aj,ae,ab,dE,af];obtain⟨n,rfl⟩:=aG hn.1;cases h0:((n:Int)==0)with
 |true=>
  have:n=0:=by simpa using h0
  subst this;obtain⟨f,hf⟩:∃f,fuel=f+1:=⟨fuel-1,by omega⟩
  rw[hf,aM];rfl
 |false=>
  have hn0:n≠0:=by simpa using h0
  by_cases hA:a<0;obtain⟨f,hf⟩:∃f,fuel=f+1:=⟨fuel-1,by omega⟩
  rw[aw hA,hf,aM];simp only[kO];rw[jy,fT];rfl;rw[ar hA];simp only[ae];obtain⟨a,rfl⟩:=aG (show 0<=a by omega);refine Eq.trans (JK hB hl hM d w n a n fuel [] (by omega) (by omega) (by simp;omega) (by omega)) ?_;simp only[az];cases lJ l m d w n a n<;>rfl
def Hg (x:Bytes)(o:Nat)(t:Bytes):Bytes:=x.take o++(t++x.drop (o+t.length))
theorem abE (h:o+t.length<=x.length):(Hg x o t).length=x.length:=by grind[Hg]
theorem abH (x:Bytes)(o:Nat)(t:Bytes):aK (Dq (dq x) o (dq t))=Hg x o t:=by
 have e:Dq (dq x) o (dq t)=dq (Hg x o t):=by grind[Dq,Hg,dq,List.map_take,List.map_drop]
 rw[e,MY]
theorem aek (h:o+t.length<=x.length):wH x (o:Int) t=Hg x o t:=by grind[wH,fA,Hg]
def B4:Nat->bD->Nat->Bytes->bD
 |0,m,_,_=>m
 |n+1,m,a,s=>if s.length=0 then m else
  B4 n (m.set (a/128) (Hg (m.getD (a/128) []) (a%128) (s.take (128-a%128)))) (a+min (128-a%128) s.length) (s.drop (128-a%128))
def D8 (m:bD):Prop:=(∀x∈m,x.length=128)/\m.length<=64
theorem vy:cG m=true↔D8 m:=mem_iff
theorem KH {p:Nat}(h:D8 m)(hx:x.length=128):D8 (m.set p x):=by refine⟨λy hy=>?_,by rw[aB];exact h.2⟩;rcases List.mem_or_eq_of_mem_set hy with g|g;exact h.1 y g;rw[g];exact hx
theorem H7 (h:D8 m)(hs:s.length≠0)(ha:a+s.length<=128*m.length): ∃(hp:a/128<m.length),(m[a/128]'hp).length=128/\(Hg (m[a/128]'hp) (a%128) (s.take (128-a%128))).length=128:=by
 have hp:a/128<m.length:=by omega
 have hl:=h.1 _ (aY hp);grind[abE]
theorem Be:∀(n:Nat){m:bD}{a:Nat}{s:Bytes},D8 m->a+s.length<=128*m.length->D8 (B4 n m a s)/\(B4 n m a s).length=m.length
 |0,m,a,s,h,_=>⟨h,rfl⟩
 |n+1,m,a,s,h,ha=>by rw[B4];split;exact⟨h,rfl⟩;rename_i hs;obtain⟨hp,hl,ho⟩:=H7 h hs ha;rw[eK hp];have:=Be n (m:=m.set (a/128) (Hg m[a/128] (a%128) (s.take (128-a%128)))) (a:=a+min (128-a%128) s.length) (s:=s.drop (128-a%128)) (KH h ho) (by rw[aB,bh];omega);rw[aB]at this;exact this
theorem Hd (K:Int->Bytes->bD->ax R)(K':bD->ax R)(hK:∀a m,K a [] m=K' m):∀(n:Nat)(m:bD)(a:Nat)(s:Bytes)(f:Nat),s.length<=n->n<f->D8 m->a+s.length<=128*m.length->
 aM (nh K ([]:bD)) f ((a:Int),s,m)=K' (B4 n m a s)
 |n,m,a,s,0,_,hf,_,_=>by omega
 |n,m,a,s,f+1,hs,hf,hm,ha=>by
  rw[aM];simp only[nh];by_cases h0:s.length=0;have:s=[]:=ca h0;subst this;rw[ar (by simp),ae,hK];cases n<;>simp[B4];cases n with
  |zero=>omega
  |succ n=>
   obtain⟨hp,hl,ho⟩:=H7 hm h0 ha;have h64:=hm.2;have e1:tdiv (a:Int) 128=((a/128:Nat):Int):=Z3 a 128;have e2:tmod (a:Int) 128=((a%128:Nat):Int):=Wj a 128;rw[jy,af,mQ,e1,e2,ai (n:=((a/128:Nat):Int)) (by omega) (by omega),aW hp,ab,aQ (by omega),mQ];have qs:sub (dq m[a/128]) ((a%128:Nat):Int) ((dq m[a/128]).length:Int)=some ((dq m[a/128]).drop (a%128)):=by rw[MA _ _ _ (by rw[I7];omega) (aU _),bL (by rw[bh];exact aU _)]
   rw[qs,ab,mQ,ab,ab];have hd:((dq m[a/128]).drop (a%128)).length=128-a%128:=by rw[bh,I7,hl]
   rw[hd];have hdr:s.drop (min (128-a%128) s.length)=s.drop (128-a%128):=by by_cases h3:128-a%128<=s.length;rw[ja h3];rw[Nat.min_eq_right (by omega),df (aU _),df (by omega)]
   have aiG:sub s (((min (128-a%128) s.length:Nat)):Int) ((s.length:Int))=some (s.drop (128-a%128)):=by rw[<-hdr];unfold sub;rw[zip];simp
   rw[aiG,ab,ai (n:=(a:Int)+((min (128-a%128) s.length:Nat):Int)) (by omega) (by omega),az,az,abH];rw[B4,aH h0,eK hp,show(a:Int)+((min (128-a%128) s.length:Nat):Int)=((a+min (128-a%128) s.length:Nat):Int) by omega];exact Hd K K' hK n _ _ _ f (by rw[bh];omega) (by omega) (KH hm ho) (by rw[aB,bh];omega)
theorem Ho (K:Int->Bytes->bD->ax R)(K':bD->ax R)(hK:∀a m,K a [] m=K' m):∀(n:Nat)(m:bD)(a:Nat)(s:Bytes)(f:Nat),s.length<=n->n<f->D8 m->a+s.length<=128*m.length->
 aM (nq K ([]:bD)) f ((a:Int),s,m)=K' (B4 n m a s)
 |n,m,a,s,0,_,hf,_,_=>by omega
 |n,m,a,s,f+1,hs,hf,hm,ha=>by
  rw[aM];simp only[nq];by_cases h0:s.length=0;have:s=[]:=ca h0;subst this;rw[ar (by simp),ae,hK];cases n<;>simp[B4];cases n with
  |zero=>omega
  |succ n=>
   obtain⟨hp,hl,ho⟩:=H7 hm h0 ha;have h64:=hm.2;have e1:tdiv (a:Int) 128=((a/128:Nat):Int):=Z3 a 128;have e2:tmod (a:Int) 128=((a%128:Nat):Int):=Wj a 128;rw[jy,af,mQ,mQ,mQ,e1,e2,ai (n:=((a/128:Nat):Int)) (by omega) (by omega),ai (n:=128-((a%128:Nat):Int)) (by omega) (by omega),aW hp,ab];obtain⟨c,hc⟩:∃c,min (128-a%128) s.length=c:=⟨_,rfl⟩
   rw[show(if 128-((a%128:Nat):Int)<(s.length:Int) then 128-((a%128:Nat):Int) else(s.length:Int))=(c:Int) by split<;>omega];have ht:s.take c=s.take (128-a%128):=by by_cases h3:128-a%128<=s.length;rw[<-hc,ja h3];rw[<-hc,Nat.min_eq_right (by omega),bL (aU _),bL (by omega)]
   have hdr:s.drop c=s.drop (128-a%128):=by by_cases h3:128-a%128<=s.length;rw[<-hc,ja h3];rw[<-hc,Nat.min_eq_right (by omega),df (aU _),df (by omega)]
   have hs1:sub s 0 (c:Int)=some (s.take (128-a%128)):=by rw[<-ht];unfold sub;rw[zip];simp
   have hs2:sub s (c:Int) (s.length:Int)=some (s.drop (128-a%128)):=by rw[<-hdr];unfold sub;rw[zip];simp
   rw[hs1,ab,Cw _ _ _ (by omega),ab,ab,ab,hs2,ab,aek (by rw[bq,hl];omega),ai (n:=(a:Int)+(c:Int)) (by omega) (by omega),az];rw[B4,aH h0,eK hp,hc,show(a:Int)+(c:Int)=((a+c:Nat):Int) by omega];exact Ho K K' hK n _ _ _ f (by rw[bh];omega) (by omega) (KH hm ho) (by rw[aB,bh];omega)
def tq (m:bD)(a:Int)(s:Bytes):bD×Bool:=bif fX m a (s.length:Int) then(B4 s.length m a.toNat s,true) else(m,false)
theorem XI (m:bD)(a:Int)(s:Bytes)(h:m.length<=10^9)(hs:s.length<=10^9):sE m a s=some (tq m a s):=by have xq:=cU;unfold sE tq;rw[fK m,ab,FA m _ _ h,ab];cases hw:fX m a (s.length:Int);rfl;simp only[fX,ah,bp]at hw;obtain⟨a,rfl⟩:=aG hw.2.2.1;simp only[aj,ae,af,az];exact Hd _ (λm=>some (m,true)) (λ_ _=>rfl) s.length m a s fuel (aU _) (by omega) (vy.1 hw.1) (by omega)
theorem YG (m:bD)(a:Int)(s:Bytes)(h:m.length<=10^9)(hs:s.length<=10^9):td m a s=some (tq m a s):=by have xq:=cU;unfold td tq;rw[gR m,ab,FY m _ _ h,ab];cases hw:fX m a (s.length:Int);rfl;simp only[fX,ah,bp]at hw;obtain⟨a,rfl⟩:=aG hw.2.2.1;simp only[aj,ae,af,az];exact Ho _ (λm=>some (m,true)) (λ_ _=>rfl) s.length m a s fuel (aU _) (by omega) (vy.1 hw.1) (by omega)
theorem F7 (m:bD)(a:Int)(s:Bytes):(tq m a s).1.length=m.length:=by grind[tq,fX,Be,vy]
def Oo:au (Int×Int)->bD->Bytes->bD
 |[],m,_=>m
 |p::q,m,s=>Oo q (tq m p.1 (s.take p.2.toNat)).1 (s.drop p.2.toNat)
theorem Vx:∀(q:au (Int×Int))(m:bD)(s:Bytes),(Oo q m s).length=m.length
 |[],m,s=>rfl
 |p::q,m,s=>by rw[Oo,Vx q,F7]
def P3 (q:au (Int×Int)):Int:=(q.map (·.2)).sum
theorem Z0:∀(q:au (Int×Int)),(∀p∈q,0<=p.2)->0<=P3 q
 |[],_=>il _
 |p::q,h=>by have:=Z0 q (λx hx=>h x (by simp[hx]));grind[P3]
theorem VB {p:Int×Int}{q:au (Int×Int)}(hc:∀x∈p::q,0<=x.2)(hs:(s.length:Int)=P3 (p::q)):0<=p.2/\p.2<=(s.length:Int)/\((s.drop p.2.toNat).length:Int)=P3 q:=by have h1:=hc p (by simp);have h2:=Z0 q (λx hx=>hc x (by simp[hx]));grind[P3]
theorem RI {c:Int}(h0:0<=c)(h1:c<=(s.length:Int)):sub s 0 c=some (s.take c.toNat):=by grind[sub]
theorem Wf {c:Int}(h0:0<=c)(h1:c<=(s.length:Int)):sub s c (s.length:Int)=some (s.drop c.toNat):=by simp_all[sub]
theorem Lp (K:Bytes->Int->bD->ax (bD×Bool))(hK:∀s i m,K s i m=some (m,true)):∀(rest pre:au (Int×Int))(m:bD)(s:Bytes)(f:Nat),rest.length<f->pre.length+rest.length<=1000000->(∀x∈rest,0<=x.2)->(s.length:Int)=P3 rest->m.length<=10^9->s.length<=1000000->
 aM (zl K (pre++rest) ((pre++rest).length:Int) ([]:bD)) f (s,(pre.length:Int),m)=some (Oo rest m s,true)
 |rest,pre,m,s,0,hf,_,_,_,_,_=>by omega
 |[],pre,m,s,f+1,_,_,_,_,_,_=>by rw[aM];simp only[zl];rw[ar (by simp),ae,hK];rfl
 |p::q,pre,m,s,f+1,hf,hn,hc,hs,hm,hl=>by
  obtain⟨h1,h2,h3⟩:=VB hc hs;simp only[bZ]at hf hn;have hi:pre.length<(pre++p::q).length:=by simp
  have hp:(pre++p::q)[pre.length]=p:=by simp
  rw[aM];simp only[zl];rw[aw (by simp;omega),aW hi,hp,ai (by omega) (by omega)];simp only[af,ab,RI h1 h2,Wf h1 h2,XI m _ _ hm (show(s.take p.2.toNat).length<=10^9 by rw[bq];omega)];have key:=Lp K hK q (pre++[p]) (tq m p.1 (s.take p.2.toNat)).1 (s.drop p.2.toNat) f (by omega) (by simp;omega) (λx hx=>hc x (by simp[hx])) h3 (by rw[F7];exact hm) (by rw[bh];omega);grind[Oo]
theorem LQ (K:Bytes->Int->bD->ax (bD×Bool))(hK:∀s i m,K s i m=some (m,true)):∀(rest pre:au (Int×Int))(m:bD)(s:Bytes)(f:Nat),rest.length<f->pre.length+rest.length<=1000000->(∀x∈rest,0<=x.2)->(s.length:Int)=P3 rest->m.length<=10^9->s.length<=1000000->
 aM (nS K ((pre++rest).map (·.1)) ((pre++rest).map (·.2)) ([]:bD)) f (s,(pre.length:Int),m)=some (Oo rest m s,true)
 |rest,pre,m,s,0,hf,_,_,_,_,_=>by omega
 |[],pre,m,s,f+1,_,_,_,_,_,_=>by rw[aM];simp only[nS];rw[ar (by simp),ae,hK];rfl
 |p::q,pre,m,s,f+1,hf,hn,hc,hs,hm,hl=>by
  obtain⟨h1,h2,h3⟩:=VB hc hs;simp only[bZ]at hf hn;have hi:pre.length<(pre++p::q).length:=by simp
  have hp:(pre++p::q)[pre.length]=p:=by simp
  have i1:idx ((pre++p::q).map (·.1)) (pre.length:Int)=some p.1:=by grind[aW]
  have i2:idx ((pre++p::q).map (·.2)) (pre.length:Int)=some p.2:=by grind[aW]
  rw[aM];simp only[nS];rw[aw (by simp;omega),i1,i2,ai (by omega) (by omega)];simp only[af,ab,RI h1 h2,Wf h1 h2,YG m _ _ hm (show(s.take p.2.toNat).length<=10^9 by rw[bq];omega)];have key:=LQ K hK q (pre++[p]) (tq m p.1 (s.take p.2.toNat)).1 (s.drop p.2.toNat) f (by omega) (by simp;omega) (λx hx=>hc x (by simp[hx])) h3 (by rw[F7];exact hm) (by rw[bh];omega);grind[Oo]
theorem Oh (l:au ay)(m:bD)(d:Int)(w:Bool):∀(n a r:Nat)(q:au (Int×Int)),r<=n->lJ l m d w n a r=some q->P3 q=(r:Int)/\(∀p∈q,0<=p.2)/\q.length<=n
 |0,a,r,q,hr,h=>by simp only[lJ,ba]at h;subst h;exact⟨by show(0:Int)=_;omega,by simp,by simp⟩
 |n+1,a,r,q,hr,h=>by simp only[lJ]at h;split at h;simp only[ba]at h;subst h;exact⟨by show(0:Int)=_;omega,by simp,by simp⟩;split at h;simp only[Option.map_eq_some_iff]at h;obtain⟨q',h1,rfl⟩:=h;obtain⟨i1,i2,i3⟩:=Oh l m d w n _ _ q' (by omega) h1;refine⟨?_,?_,by simp only[bZ];omega⟩;simp only[P3,List.map_cons,List.sum_cons]at i1⊢;rw[i1];omega;intro p hp;rcases cg.1 hp with rfl|hp;show(0:Int)<=((min (128-a%128) r:Nat):Int);omega;exact i2 p hp;cases h
theorem Rm (l:au ay)(m:bD)(d a n:Int)(w:Bool)(h:(nP l m d a n w).2=true):P3 (nP l m d a n w).1=n/\(∀p∈(nP l m d a n w).1,0<=p.2)/\(nP l m d a n w).1.length<=4096/\n<=4096:=by
 unfold nP at h⊢;cases hB:eX l&&(cG m&&dy n 0 4096)with|false=>grind|true=>?_
 rw[hB]at h;simp only[ah,bl]at hB;simp only[af]at h⊢;cases h0:n==0 with
 |true=>
  have:n=0:=by simpa using h0
  subst this;exact⟨rfl,by simp,by simp,by omega⟩
 |false=>rw[h0]at h;simp only[ae]at h⊢;cases ha:decide (a<0)with|true=>grind|false=>rw[ha]at h;simp only[ae]at h⊢;cases hq:lJ l m d w n.toNat a.toNat n.toNat with|none=>grind|some q=>obtain⟨i1,i2,i3⟩:=Oh l m d w _ _ _ q (aU _) hq;grind
def lF (l:au ay)(m:bD)(d a:Int)(s:Bytes)(w:Bool):bD×Bool:=
 bif (nP l m d a (s.length:Int) w).2 then(Oo (nP l m d a (s.length:Int) w).1 m s,true) else(m,false)
theorem kZ (l:au ay)(m:bD)(d a:Int)(s:Bytes)(w:Bool):(lF l m d a s w).1.length=m.length:=by grind[lF,Vx]
theorem UW (l:au ay)(m:bD)(d a:Int)(s:Bytes)(w:Bool)(hl:l.length<=10^9)(hm:m.length<=10^9)(ha:a<=9223372036854775807):FC l m d a s w=some (lF l m d a s w):=by have xq:=cU;unfold FC lF;rw[fK m,ab,UZ l m d a _ w hl hm ha,ab];have hS:=Rm l m d a (s.length:Int) w;generalize nP l m d a (s.length:Int) w=r at hS⊢;cases hr:r.2;rfl;obtain⟨h1,h2,h3,h4⟩:=hS hr;simp only[aj,ae,af];exact Lp _ (λ_ _ _=>rfl) r.1 [] m s fuel (by omega) (by simp;omega) h2 h1.symm hm (by omega)
theorem AH (l:au ay)(m:bD)(d a:Int)(s:Bytes)(hl:l.length<=10^9)(hm:m.length<=10^9)(ha:a<=9223372036854775807):mK l m d a s=some (lF l m d a s true):=by have xq:=cU;unfold mK lF;rw[Ru l m d a _ true hl hm ha,ab,gR m,ab];have hS:=Rm l m d a (s.length:Int) true;generalize nP l m d a (s.length:Int) true=r at hS⊢;cases hr:r.2;rfl;obtain⟨h1,h2,h3,h4⟩:=hS hr;simp only[aj,ae,af];exact LQ _ (λ_ _ _=>rfl) r.1 [] m s fuel (by omega) (by simp;omega) h2 h1.symm hm (by omega)
theorem DV (l:au ay)(m:bD)(d a:Int)(s:Bytes)(hl:l.length<=10^9)(hm:m.length<=10^9)(ha:a<=9223372036854775807):qh l m d a s=some (lF l m d a s true):=by simp_all[qh,UW]
end
end Go.Pu
