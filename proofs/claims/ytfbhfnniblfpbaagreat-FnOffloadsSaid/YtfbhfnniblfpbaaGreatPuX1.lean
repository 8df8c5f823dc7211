import Derived.Test.YtfbhfnniblfpbaaGreatDnData
import Derived.Test.YtfbhfnniblfpbaaGreatPure
namespace Go.Pu
open Go.Dn
open List (range)
open BitVec (toNat)
open Int (fdiv tmod)
set_option linter.unusedSimpArgs false
set_option linter.unusedVariables false
noncomputable section
variable {s t x:Bytes} {h:Host} {a:Int} {f:Int->aA Int} {k:Nat} {p:aH} {g:fu} {R X α σ:Type}
/- Plain laws of the partial operations and of loops. -/
theorem ak {n:Int}(h1: -9223372036854775808<=n)(h2:n<=9223372036854775807):ar n=n:=by grind[IntKind.wrap,IntKind.bits,IntKind.signed]
@[simp] theorem ab (a:α)(k:α->aA R):aa (some a) k=k a:=rfl
@[simp] theorem alg (k:α->aA R):aa none k=none:=rfl
@[simp] theorem agy (c:Bool)(x y:α)(k:α->aA R):aa (cond c (some x) (some y)) k=k (cond c x y):=by cases c<;>rfl
theorem di (c:Bool)(x y:α):cond c (some x) (some y)=some (cond c x y):=by cases c<;>rfl
theorem bf {n:Nat}{k:aA R}(h:n<=1073741824):room n k=k:=by simp[room,h]
theorem Px (xs:ax α)(i:Nat):idx xs (i:Int)=xs[i]?:=rfl
theorem bw {xs:ax α}{i:Nat}(h:i<xs.length):idx xs (i:Int)=some xs[i]:=by grind[Px]
def upK (step:Nat->σ->(σ->aA R)->aA R)(fin:σ->aA R)(N:Nat):Nat->Nat->σ->aA R
 |0,_,s=>fin s
 |n+1,i,s=>step i s (λs'=>upK step fin N n (i+1) s')
theorem Lw {T:(X->aA R)->X->aA R}(N:Nat)(e:σ->Nat->X)(step:Nat->σ->(σ->aA R)->aA R)(fin:σ->aA R)(hs:∀i s nx,i<N->T nx (e s i)=step i s (λs'=>nx (e s' (i+1))))(hf:∀s nx,T nx (e s N)=fin s): ∀n i s,i<=N->N-i<n->aZ T n (e s i)=upK step fin N (N-i) i s:=by
 intro n;induction n with
 |zero=>intro i s _ h;omega
 |succ n ih=>
  intro i s hi hn;rw[aZ];rcases ca i N with iA|B0;rw[hs i s _ iA,show N-i=(N-(i+1))+1 by omega,upK];congr 1;funext s';exact ih (i+1) s' (by omega) (by omega);have:i=N:=by omega
  subst this;rw[hf,Nat.sub_self,upK]
def BZ (step:α->σ->(σ->aA R)->aA R)(fin:σ->aA R):ax α->σ->aA R
 |[],s=>fin s
 |x::xs,s=>step x s (BZ step fin xs)
theorem C6 {T:(X->aA R)->X->aA R}(xs:ax α)(e:σ->Nat->X)(step:α->σ->(σ->aA R)->aA R)(fin:σ->aA R)(hs:∀i (h:i<xs.length) s nx,T nx (e s i)=step xs[i] s (λs'=>nx (e s' (i+1))))(hf:∀s nx,T nx (e s xs.length)=fin s): ∀n i s,i<=xs.length->xs.length-i<n->aZ T n (e s i)=BZ step fin (xs.drop i) s:=by
 intro n;induction n with
 |zero=>intro i s _ h;omega
 |succ n ih=>
  intro i s hi hn;rw[aZ];rcases ca i xs.length with iA|B0;rw[hs i iA s _,cr iA,BZ];congr 1;funext s';exact ih (i+1) s' (by omega) (by omega);have:i=xs.length:=by omega
  subst this;rw[hf,ij,BZ]
def szC:(t:CT)->t.D->Nat
 | .int _,_=>0
 | .bool,_=>0
 | .str,s=>s.length
 | .sl e,xs=>xs.length+(xs.map (szC e)).sum
 | .pair a b,x=>szC a x.1+szC b x.2
def dF (n:Nat):(t:CT)->t.D->Prop
 | .int _,_=>True
 | .bool,_=>True
 | .str,s=>s.length<=n
 | .sl e,xs=>xs.length<=n/\∀x∈xs,dF n e x
 | .pair a b,x=>dF n a x.1/\dF n b x.2
theorem Rn (f:α->Nat):∀(xs:ax α)(x:α),x∈xs->f x<=(xs.map f).sum
 |y::ys,x,h=>by rcases cy.1 h with rfl|h;simp;have:=Rn f ys x h;simp;omega
theorem PG {n:Nat}:∀{t:CT}{x:t.D},szC t x<=n->dF n t x
 | .int _,_,_=>trivial
 | .bool,_,_=>trivial
 | .str,_,h=>h
 | .sl e,xs,h=>by simp only[szC]at h;exact⟨by omega,λx hx=>PG (by have:=Rn (szC e) xs x hx;omega)⟩
 | .pair a b,x,h=>by simp only[szC]at h;exact⟨PG (by omega),PG (by omega)⟩
theorem dF.mono {n m:Nat}(h:n<=m:=by omega):∀{t:CT}{x:t.D},dF n t x->dF m t x
 | .int _,_,_=>trivial
 | .bool,_,_=>trivial
 | .str,_,k=>bF k h
 | .sl _,_,k=>⟨bF k.1 h,λx hx=>dF.mono h (k.2 x hx)⟩
 | .pair _ _,_,k=>⟨dF.mono h k.1,dF.mono h k.2⟩
def adM:(t:CT)->t.D->Prop
 | .int k,n=>k.min<=n/\n<=k.max
 | .bool,_=>True
 | .str,s=>s.length<=9223372036854775807
 | .sl e,xs=>xs.length<=9223372036854775807/\∀x∈xs,adM e x
 | .pair a b,x=>adM a x.1/\adM b x.2
def mO (l n:Int):Int:=if n<=l then l-n else-1
def PH (f:α->Int->aA Int)(k0:Int->Int->aA R)(k1:Int->Int->Int->aA R)(v0:ax α)(nx:Int×Int->aA R)(x:Int×Int):aA R:=
 cond (decide (x.2<((List.length v0:Int)))) (
  aa (idx v0 x.2) λx1=>
  aa (f x1 x.1) λr2=>
  cond (decide (r2<0)) (
   k1 r2 (-1) x.2) (
   nx (r2,ar (x.2+1)))) (
  k0 x.1 x.2)
noncomputable def WU (f:α->Int->aA Int)(a0:ax α)(a1:Int):aA Int:=
 cond (decide ((ar (a1-((List.length a0:Int))))<0)) (
  some (-1)) (
  aZ (PH f (λy3 _=>some y3) (λ_ y6 _=>some y6) a0) fuel (ar (a1-((List.length a0:Int))),0))
theorem acw {f:α->Int->aA Int}{s:α->Nat}{a:ax α}{l:Int}(h0:0<=l)(h1:l<=1048576)(hm:a.length<=9223372036854775807)(hf:∀x∈a,∀l:Int,0<=l->l<=1048576->∃r,f x l=some r/\((s x:Int)<=l->r=l-s x)/\(¬(s x:Int)<=l->r<0)):WU f a l=some (mO l ((a.length+(a.map s).sum:Nat):Int)):=by
 unfold WU;have zj:=dD;rw[ak (by omega) (by omega)];rcases Int.lt_or_le (l-a.length) 0 with asQ|aep;rw[az asQ];simp only[af,mO];rw[lH];rw[ie];simp only[ae];have key:=C6 (T:=PH f (λy3 _=>some y3) (λ_ y6 _=>some y6) a) a (λ(q) i=>(q,(i))) (λx q k=>aa (f x q) λr=>cond (decide (r<0)) (some (-1)) (k r)) (λq=>some q) (λi hi q nx=>by simp only[PH];rw[kW];simp only[af,bw hi,ab];rw[ak (by omega) (by omega)];rfl) (λq nx=>by simp only[PH];rw[ie];rfl) fuel 0 (l-a.length) (by omega) (by omega);have e:((0:Nat):Int)=0:=rfl;rw[e,fR]at key;rw[key];have main:∀(b:ax α)(q:Int),0<=q->q<=1048576->(∀x∈b,x∈a)->BZ (λx q k=>aa (f x q) λr=>cond (decide (r<0)) (some (-1)) (k r)) (λq=>some q) b q=some (mO q ((b.map s).sum)):=by intro b;induction b with|nil=>intro q hq _ _;simp[BZ,mO,hq]|cons x b ih=>intro q hq hq2 hb;obtain⟨r,hr,hr1,SW⟩:=hf x (hb x (by simp)) q hq hq2;rw[BZ,hr,ab];by_cases hle:(s x)<=q;rw[ie];simp only[ae];rw[ih _ (by omega) (by omega) (λy hy=>hb y (by simp[hy]))];simp only[mO,fb,List.sum_cons];congr 1;split<;>split<;>omega;rw[az (SW hle)];simp only[af,mO,fb,List.sum_cons];rw[lH]
 rw[main a _ (by omega) (by omega) (λx h=>h)];simp only[mO];congr 1;split<;>split<;>omega
def EN (f:Int->aA Int)(n:Nat):Prop:=∀l:Int,0<=l->l<=1048576->f l=some (mO l n)
theorem EN.nil:EN (λl=>some l) 0:=λl h0 _=>by simp[mO,h0]
theorem EN.len {n m:Nat}(hn:n<=9223372036854775807){k:Int->aA Int}(h:EN k m): EN (λl=>cond (decide (ar (l-(n:Int))<0)) (some (-1)) (k (ar (l-(n:Int))))) (n+m):=by intro l h0 h1;simp only;rw[ak (by omega) (by omega)];by_cases hl:l-(n)<0;rw[az hl];simp only[af,mO];rw[lH];rw[aw hl];simp only[ae];rw[h _ (by omega) (by omega)];simp only[mO];congr 1;split<;>split<;>omega
theorem EN.sub {k:Int->aA Int}{n m:Nat}(hf:EN f n)(h:EN k m):EN (λl=>aa (f l) λr=>cond (decide (r<0)) (some (-1)) (k r)) (n+m):=by
 intro l h0 h1;simp only;rw[hf l h0 h1,ab];by_cases hl:(n)<=l;have e:mO l n=l-n:=by simp[mO,hl]
 rw[e,ie];simp only[ae];rw[h _ (by omega) (by omega)];simp only[mO];congr 1;split<;>split<;>omega;have e:mO l n= -1:=by simp[mO,hl]
 rw[e];simp only[mO];rw[lH];rfl
theorem EN.cast {n m:Nat}(h:EN f n)(e:n=m):EN f m:=e▸h
theorem EN.list {f:α->Int->aA Int}{s:α->Nat}{a:ax α}(hm:a.length<=9223372036854775807)(hf:∀x∈a,EN (f x) (s x)):EN (WU f a) (a.length+(a.map s).sum):=λ_ h0 h1=>acw h0 h1 hm (λx hx l h0 h1=>⟨_,hf x hx l h0 h1,λh=>by simp[mO,h],λh=>by simp[mO,h]⟩)
theorem EN.flat {n:Nat}(hn:n<=9223372036854775807):EN (λl=>cond (decide (ar (l-(n:Int))<0)) (some (-1)) (some (ar (l-(n:Int))))) n:=(EN.len hn EN.nil).cast (by omega)
theorem EN.use {n:Nat}(hf:EN f n){l:Int}(h0:0<=l)(h1:l<=1048576){k:Int->aA Bool}(hk:(n:Int)<=l->k (l-n)=some true): (aa (f l) λr=>cond (decide (r<0)) (some true) (k r))=some true:=by
 rw[hf l h0 h1,ab];by_cases hl:(n)<=l;have e:mO l n=l-n:=by simp[mO,hl]
 rw[e,ie];exact hk hl;have e:mO l n= -1:=by simp[mO,hl]
 rw[e];rfl
theorem Hs {T:(Int->aA R)->Int->aA R}{fin hit:aA R}(p:α->Bool)(a:ax α)(h:a.length<=1000000000000)(hs:∀i (hi:i<a.length) nx,T nx (i:Int)=cond (p a[i]) hit (nx ((i+1:Nat):Int)))(hf:∀nx,T nx (a.length:Int)=fin): aZ T fuel 0=cond (a.any p) hit fin:=by
 have zj:=dD;have key:∀n i,i<=a.length->a.length-i<n->aZ T n (i)=cond ((a.drop i).any p) hit fin:=by
  intro n;induction n with
  |zero=>intro i _ h;omega
  |succ n ih=>
   intro i hi hn;rw[aZ];rcases ca i a.length with iA|B0;rw[hs i iA,cr iA,List.any_cons];cases hq:p a[i]with|true=>rfl|false=>exact ih (i+1) (by omega) (by omega)
   have:i=a.length:=by omega
   subst this;rw[hf,ij];rfl
 exact key fuel 0 (by omega) (by omega)
theorem rU {T:(Int->aA R)->Int->aA R}{fin hit:aA R}(p:Nat->Bool)(N:Nat)(h:N<=1000000000000)(hs:∀i nx,i<N->T nx (i:Int)=cond (!(p i)) hit (nx ((i+1:Nat):Int)))(hf:∀nx,T nx (N:Int)=fin): aZ T fuel 0=cond ((range N).all p) fin hit:=by
 have zj:=dD;have key:∀n i,i<=N->N-i<n->aZ T n (i)=cond ((List.range' i (N-i)).all p) fin hit:=by
  intro n;induction n with
  |zero=>intro i _ h;omega
  |succ n ih=>
   intro i hi hn;rw[aZ];rcases ca i N with iA|B0;rw[hs i _ iA,show N-i=(N-(i+1))+1 by omega,List.range'_succ,cx];cases hq:p i with|false=>rfl|true=>exact ih (i+1) (by omega) (by omega)
   have:i=N:=by omega
   subst this;rw[hf,Nat.sub_self];rfl
 have:=key fuel 0 (by omega) (by omega);rw[Nat.sub_zero,<-List.range_eq_range']at this;exact this
theorem rT {T:(Int->aA R)->Int->aA R}{fin hit:aA R}(p:α->Bool)(a:ax α)(h:a.length<=1000000000000)(hs:∀i (hi:i<a.length) nx,T nx (i:Int)=cond (!(p a[i])) hit (nx ((i+1:Nat):Int)))(hf:∀nx,T nx (a.length:Int)=fin): aZ T fuel 0=cond (a.all p) fin hit:=by have:=Hs (λx=> !(p x)) a h hs hf;grind
theorem fold_iter {T:(X->aA R)->X->aA R}(xs:ax α)(e:σ->Nat->X)(g:σ->α->σ)(fin:σ->aA R)(h:xs.length<=1000000000000)(hs:∀i (hi:i<xs.length) s nx,T nx (e s i)=nx (e (g s xs[i]) (i+1)))(hf:∀s nx,T nx (e s xs.length)=fin s)(s:σ): aZ T fuel (e s 0)=fin (xs.foldl g s):=by have zj:=dD;have key:=C6 xs e (λx s k=>k (g s x)) fin hs hf fuel 0 s (by omega) (by omega);rw[key,fR];clear key hs hf h;induction xs generalizing s with|nil=>rfl|cons x xs ih=>simp_all[BZ]
theorem MK {T:(X->aA R)->X->aA R}{fin hit:aA R}(e:Nat->X)(p:Nat->Bool)(N:Nat)(h:N<=1000000000000)(hs:∀i nx,i<N->(∀j,j<i->p j=true)->T nx (e i)=cond (!(p i)) hit (nx (e (i+1))))(hf:(∀j,j<N->p j=true)->∀nx,T nx (e N)=fin): aZ T fuel (e 0)=cond ((range N).all p) fin hit:=by
 have zj:=dD;have key:∀n i,i<=N->N-i<n->(∀j,j<i->p j=true)->aZ T n (e i)=cond ((List.range' i (N-i)).all p) fin hit:=by
  intro n;induction n with
  |zero=>intro i _ h;omega
  |succ n ih=>
   intro i hi hn hp;rw[aZ];rcases ca i N with iA|B0;rw[hs i _ iA hp,show N-i=(N-(i+1))+1 by omega,List.range'_succ,cx];cases hq:p i with|false=>rfl|true=>refine ih (i+1) (by omega) (by omega) λj hj=>?_;by_cases hji:j=i;rw[hji];exact hq;exact hp j (by omega)
   have:i=N:=by omega
   subst this;rw[hf hp,Nat.sub_self];rfl
 have:=key fuel 0 (by omega) (by omega) (λj hj=>absurd hj (by omega));rw[Nat.sub_zero,<-List.range_eq_range']at this;exact this
theorem II {T:(Int->aA R)->Int->aA R}{fin:aA R}{hit:Int->aA R}(p:α->Bool)(a:ax α)(h:a.length<=1000000000000)(hs:∀i (hi:i<a.length) nx,T nx (i:Int)=cond (p a[i]) (hit (i:Int)) (nx ((i+1:Nat):Int)))(hf:∀nx,T nx (a.length:Int)=fin): aZ T fuel 0=(match a.findIdx? p with|some i=>hit (i:Int)|none=>fin):=by
 have zj:=dD;have key:∀n i,i<=a.length->a.length-i<n->aZ T n (i)=(match (a.drop i).findIdx? p with|some j=>hit ((i+j:Nat))|none=>fin):=by
  intro n;induction n with
  |zero=>intro i _ h;omega
  |succ n ih=>
   intro i hi hn;rw[aZ];rcases ca i a.length with iA|B0;rw[hs i iA,cr iA,List.findIdx?_cons];cases hq:p a[i]with|true=>rfl|false=>have:=ih (i+1) (by omega) (by omega);refine this.trans ?_;cases (a.drop (i+1)).findIdx? p with|none=>rfl|some j=>simp only[dQ,bm,cG];congr 2;omega
   have:i=a.length:=by omega
   subst this;rw[hf,ij];rfl
 have:=key fuel 0 (by omega) (by omega);refine this.trans ?_;rw[fR];cases a.findIdx? p with|none=>rfl|some j=>simp only[cJ]
theorem cF (a b:Bool):(bif a then b else false)=(a&&b):=by cases a<;>rfl
theorem cT (a b:Bool):(bif a then true else b)=(a||b):=by cases a<;>rfl
theorem cN (a b:Bool):(bif a then false else b)=(!a&&b):=by cases a<;>rfl
def Zp (g:α->σ->Except (aA R) σ)(fin:σ->aA R):ax α->σ->aA R
 |[],s=>fin s
 |x::xs,s=>match g x s with| .error r=>r| .ok s'=>Zp g fin xs s'
theorem FO {T:(X->aA R)->X->aA R}(xs:ax α)(e:σ->Nat->X)(Inv:Nat->σ->Prop)(g:α->σ->Except (aA R) σ)(fin:σ->aA R)(h:xs.length<=1000000000000)(hs:∀i (hi:i<xs.length) s nx,Inv i s->T nx (e s i)=match g xs[i] s with| .error r=>r| .ok s'=>nx (e s' (i+1)))(hn:∀i (hi:i<xs.length) s s',Inv i s->g xs[i] s=.ok s'->Inv (i+1) s')(hf:∀s nx,Inv xs.length s->T nx (e s xs.length)=fin s)(s:σ)(h0:Inv 0 s): aZ T fuel (e s 0)=Zp g fin xs s:=by
 have key:∀n i s,i<=xs.length->xs.length-i<n->Inv i s->aZ T n (e s i)=Zp g fin (xs.drop i) s:=by
  intro n;induction n with
  |zero=>intro i s _ h;omega
  |succ n ih=>
   intro i s hi D5 hI;rw[aZ];rcases ca i xs.length with iA|B0;rw[hs i iA s _ hI,cr iA,Zp];cases hg:g xs[i] s with|error r=>rfl|ok s'=>exact ih (i+1) s' (by omega) (by omega) (hn i iA s s' hI hg)
   have:i=xs.length:=by omega
   subst this;rw[hf s _ hI,ij,Zp]
 have zj:=dD;have:=key fuel 0 s (by omega) (by omega) h0;rwa[fR]at this
theorem LY (f:σ->α->σ)(fin:σ->aA R):∀(xs:ax α)(s:σ),Zp (λx s=> .ok (f s x)) fin xs s=fin (xs.foldl f s)
 |[],_=>rfl
 |x::xs,s=>by exact LY f fin xs (f s x)
theorem dA {T:(X->aA R)->X->aA R}{fin:aA R}(e:Nat->X)(N:Nat)(h:N<=1000000000000)(hs:∀i nx,i<N->T nx (e i)=nx (e (i+1)))(hf:∀nx,T nx (e N)=fin):aZ T fuel (e 0)=fin:=by rw[MK (hit:=fin) e (λ_=>true) N h (λi nx hi _=>by rw[hs i nx hi];rfl) (λ_ nx=>hf nx)];grind
theorem gL {l:ax α}{k:aA R}(h:l.length<=10^9):room (List.length ([]:ax α)+l.length) k=k:=bf (by grind)
def dV (a lo hi:Int):Bool:=decide (lo<=a)&&decide (a<=hi)
theorem aS {lo hi:Int}:dV a lo hi=true↔lo<=a/\a<=hi:=by simp[dV]
theorem cR (a b c:Int):aQ a b c=some (dV a b c):=by grind[aQ,ab,dV]
theorem dI (a b c:Int):aJ a b c=some (dV a b c):=cR a b c
theorem fD {l:ax α}{i:Nat}(h:i<l.length)(d:α):l.getD i d=l[i]:=by grind
def Sr (l:dm)(i:Nat):Bool:=dV (l.getD i 0) 0 4095&& !(decide (0<i)&&decide (l.getD i 0<=l.getD (i-1) 0))
def mY (f:Filter):Bool:=(range f.2.2.length).all (Sr f.2.2)&&(dV f.1 0 281474976710654&&decide ((f.2.2.length:Int)<=8))
theorem GG (f:Filter)(h:f.2.2.length<=10^9):oB f=some (mY f):=by
 unfold oB;rw[rU (fin:=some (dV f.1 0 281474976710654&&decide ((f.2.2.length:Int)<=8))) (Sr f.2.2) f.2.2.length (by omega) (λi nx hi=>?hs) (λnx=>?hf)]
 case hs=>
  simp only[uL]
  rw[kW,bw hi,ak (n:=(i)+1) (by omega) (by omega)]
  simp only[af,ab,cR,Sr,fD hi]
  by_cases h0:0<i
  ·have e:ar ((i)-1)=((i-1:Nat)):=by rw[ak (by omega) (by omega)];omega
   have hp:i-1<f.2.2.length:=by omega
   rw[e,bw hp,az (show(i:Int)>0 by omega),az h0,fD hp]
   simp only[af,ab,bH]
   cases dV f.2.2[i] 0 4095<;>cases decide (f.2.2[i]<=f.2.2[i-1])<;>rfl
  ·rw[aw (show¬(i:Int)>0 by omega),aw h0]
   cases dV f.2.2[i] 0 4095<;>rfl
 case hf=>
  simp only[uL]
  rw[ie]
  simp only[ae,cR,ab,di]
  cases dV f.1 0 281474976710654<;>rfl
 unfold mY;cases (range f.2.2.length).all (Sr f.2.2)<;>rfl
theorem Q2 (f:Filter)(h:f.2.2.length<=10^9):vI f=some (mY f):=by
 unfold vI;rw[rU (fin:=some (dV f.1 0 281474976710654&&decide ((f.2.2.length:Int)<=8))) (Sr f.2.2) f.2.2.length (by omega) (λi nx hi=>?hs) (λnx=>?hf)]
 case hs=>
  simp only[ui]
  rw[kW,bw hi,ak (n:=(i)+1) (by omega) (by omega)]
  simp only[af,ab,dI,Sr,fD hi]
  by_cases h0:0<i
  ·have e:ar ((i)-1)=((i-1:Nat)):=by rw[ak (by omega) (by omega)];omega
   have hp:i-1<f.2.2.length:=by omega
   rw[e,bw hp,az (show(i:Int)>0 by omega),az h0,fD hp]
   simp only[af,ab,bH,ge_iff_le]
   cases dV f.2.2[i] 0 4095<;>cases decide (f.2.2[i]<=f.2.2[i-1])<;>rfl
  ·rw[aw (show¬(i:Int)>0 by omega),aw h0]
   cases dV f.2.2[i] 0 4095<;>rfl
 case hf=>
  simp only[ui]
  rw[ie]
  simp only[ae,dI,ab,di]
  cases dV f.1 0 281474976710654<;>rfl
 unfold mY;cases (range f.2.2.length).all (Sr f.2.2)<;>rfl
def FM (r:jX):Bool:=(oe r).getD false
theorem R8 (r:jX):oe r=some (FM r):=by simp_all[oe,cR,di,FM]
theorem ahR (r:jX):Ep r=some (FM r):=R8 r
theorem Zn {r:jX}(h:FM r=true):r.2.2.2.2.2.2.2.1=0\/r.2.2.2.2.2.2.2.2=0:=by
 by_cases h0:r.2.2.2.2.2.2.2.1=0;exact .inl h0;by_cases h1:r.2.2.2.2.2.2.2.2=0;exact .inr h1;exfalso;have e0:(r.2.2.2.2.2.2.2.1==0)=false:=by simp[h0]
 have e1:(r.2.2.2.2.2.2.2.2==0)=false:=by simp[h1]
 revert h;unfold FM;simp only[oe,cR,ab,di,e0,e1,ae,gH];have z:∀c:Bool,(bif c then false else false)=false:=by intro c;cases c<;>rfl
 simp only[z];intro h;cases h
def BK (l:ax jX):Bool:=l.all FM&&decide ((l.length:Int)<=12)
theorem Ja (l:ax jX)(h:l.length<=10^9):yL l=some (BK l):=by unfold yL;rw[rT (hit:=some false) (fin:=some (decide ((l.length:Int)<=12))) FM l (by omega) (λi hi nx=>?hs) (λnx=>?hf)];all_goals grind[BO,bw,ak,ab,R8,BK]
theorem Uj (l:ax jX)(h:l.length<=10^9):Cp l=some (BK l):=by rw[<-Ja l h];rfl
theorem asn (x:Int):((BitVec.ofInt 64 x&&&BitVec.ofInt 64 7).toNat:Int)=x%8:=by
 have h7:(BitVec.ofInt 64 7).toNat=2^3-1:=by decide
 rw[BitVec.toNat_and,h7,Nat.and_two_pow_sub_one_eq_mod];grind[BitVec.toNat_ofInt]
theorem amu (x:Int):((gm x&&&gm 7).toNat:Int)=x%8:=asn x
theorem aj6 (x:Int):kb x 8=some (x%8):=by grind[kb,ak]
def Fv (f:iB):Int:=(f.1%8+f.2.1%8+f.2.2.1%8+f.2.2.2.1%8+f.2.2.2.2%8)%8
theorem QS (f:iB):0<=Fv f/\Fv f<8:=by unfold Fv;omega
theorem ak6 {n:Int}(h:0<=n):tmod n 8=n%8:=eM h
theorem ZE (f:iB):vX f=some (Fv f):=by
 unfold vX;generalize hL:[f.1,f.2.1,f.2.2.1,f.2.2.2.1,f.2.2.2.2]=L;have hlen:L.length=5:=by rw[<-hL];rfl
 have zj:=dD;have key:=C6 (T:=pV (λ(y2) (y3)=>if 8=0 then none else(some (tmod y2 8))) L) L (λ(s) i=>(s,(i))) (λx s k=>k (ar (s+ar (x%8)))) (λs=>some (tmod s 8)) (λi hi s nx=>by simp only[pV];rw[kW,bw hi,ak (by omega) (by omega)];grind[ab,amu]) (λs nx=>by grind[pV]) fuel 0 0 (by omega) (by omega);refine key.trans ?_;rw[<-hL];simp(disch:=omega)[BZ,ak,ak6,Fv]
theorem ahJ (f:iB):Ap f=some (Fv f):=by
 unfold Ap;generalize hL:[f.1,f.2.1,f.2.2.1,f.2.2.2.1,f.2.2.2.2]=L;have hlen:L.length=5:=by rw[<-hL];rfl
 have zj:=dD;have key:=C6 (T:=py (λ(y2) (y3)=>if 8=0 then none else(some (tmod y2 8))) L (L.length)) L (λ(s) i=>(s,(i))) (λx s k=>k (ar (s+(x%8)))) (λs=>some (tmod s 8)) (λi hi s nx=>by grind[py,bw,ak,ab,aj6]) (λs nx=>by grind[py]) fuel 0 0 (by omega) (by omega);refine key.trans ?_;rw[<-hL];simp(disch:=omega)[BZ,ak,ak6,Fv]
def iu (t:ax Slot)(i:Nat):Slot:=t.getD i (0,(0,0,0,0,0),0)
theorem zR {t:ax Slot}{i:Nat}(h:i<t.length):iu t i=t[i]:=fD h _
def nk (f:iB)(k:Nat):Nat:=((Fv f).toNat+k)%8
theorem Ji (f:iB)(k:Nat):nk f k<8:=Nat.mod_lt _ (by omega)
theorem Z3 (f:iB)(k:Nat)(h:k<8):tmod (ar (Fv f+(k:Int))) 8=(nk f k:Int):=by have:=QS f;grind[ak,nk]
def rQ (s:Slot)(f:iB):Bool:=(s.1==1)&&decide (s.2.1=f)
theorem Ps (p q:iB):((p.1==q.1)&&((p.2.1==q.2.1)&&((p.2.2.1==q.2.2.1)&&((p.2.2.2.1==q.2.2.2.1)&&((p.2.2.2.2==q.2.2.2.2)&&true)))))=decide (p=q):=by grind
def walk (t:ax Slot)(f:iB):Nat->Nat->Int
 |0,_=> -1
 |n+1,k=>if(iu t (nk f k)).1=0 then-1 else if rQ (iu t (nk f k)) f then(nk f k:Int) else walk t f n (k+1)
theorem R2 (t:ax Slot)(f:iB)(ht:t.length=8):yS t f=some (walk t f 8 0):=by
 have zj:=dD
 have key:=Lw (T:=wT (λ(y6)=>some (-1)) (λ(y7) (y8)=>some y7) 0 t f) 8 (λ(_) i=>(i))
  (λi s k=>if(iu t (nk f i)).1=0 then some (-1) else if rQ (iu t (nk f i)) f then some (nk f i) else k s) (λ_=>some (-1))
  (λi s nx hi=>by
   have hw:nk f i<t.length:=by have:=Ji f i;omega
   simp only[wT,ZE];rw[kW,ak (by omega) (by omega)];simp only[af,ab,Z3 f i hi,bw hw,zR hw,Ps,rQ,di,ab];by_cases h0:t[nk f i].1=0;simp[h0];have e0:(t[nk f i].1==0)=false:=by simp[h0]
   rw[e0,aK h0];cases (t[nk f i].1==1)<;>cases decide (t[nk f i].2.1=f)<;>rfl)
  (λs nx=>by rfl)
  fuel 0 () (by omega) (by omega)
 refine key.trans ?_;have main:∀n i,upK (R:=Int) (λi (s) k=>if(iu t (nk f i)).1=0 then some (-1) else if rQ (iu t (nk f i)) f then some (nk f i) else k s) (λ_=>some (-1)) 8 n i ()=some (walk t f n i):=by intro n;induction n with|zero=>intro i;rfl|succ n ih=>intro i;rw[upK,walk];split;rfl;split;rfl;exact ih (i+1)
 exact main 8 0
def BD (f:iB):ax Slot->Int->Int
 |[],_=> -1
 |s::r,i=>if rQ s f then i else BD f r (i+1)
theorem Yu (t:ax Slot)(f:iB)(h:t.length<=10^9):Es t f=some (BD f t 0):=by
 have zj:=dD;have key:∀n i,i<=t.length->t.length-i<n->aZ (yl (λ(y3)=>some (-1)) (λ(y4) (y5)=>some y4) 0 t ((List.length t)) f) n (i)=some (BD f (t.drop i) i):=by
  intro n;induction n with
  |zero=>intro i _ h;omega
  |succ n ih=>
   intro i hi hn;rw[aZ];simp only[yl];rcases ca i t.length with iA|B0;rw[kW,bw iA,cr iA,BD,ak (by omega) (by omega)];simp only[af,ab,Ps,di];have e:(bif t[i].1==1 then decide (t[i].2.1=f) else false)=rQ t[i] f:=by unfold rQ;cases (t[i].1==1)<;>rfl
   rw[e];cases rQ t[i] f with|true=>rfl|false=>exact ih (i+1) (by omega) (by omega)
   have:i=t.length:=by omega
   subst this;rw[ie,ij];rfl
 exact key fuel 0 (by omega) (by omega)
theorem ajV (f:iB):Km f=some ((range 8).map λk=>(nk f k:Int)):=by have zj:=dD;have key:=Lw (T:=Az (λ(y2) (y3)=>some y2) f) 8 (λ(_) i=>((range i).map (λk=>(nk f k)),(i))) (λ_ s k=>k s) (λ_=>some ((range 8).map λk=>(nk f k))) (λi s nx hi=>by grind[Az,ahJ,ak,ab,Z3,bf,List.range_succ]) (λs nx=>by rfl) fuel 0 () (by omega) (by omega);exact key
def clear (t:ax Slot)(f:iB)(i:Nat):Nat->Nat->Bool
 |0,_=>true
 |n+1,k=>if nk f k=i then true else if(iu t (nk f k)).1=0 then false else clear t f i n (k+1)
theorem aev (k0:Int->aA R)(k1:Bool->Int->aA R)(hit fin:aA R)(h0:∀x,k0 x=fin)(h1:∀x,k1 false x=hit)(v2:Bool)(i:Nat)(Xa:ax Slot)(Z0 v14:Int)(t:ax Slot)(f:iB)(ht:t.length=8): aZ (pB k0 k1 v2 (i:Int) Xa Z0 v14 ((range 8).map λk=>(nk f k:Int)) (((range 8).map λk=>(nk f k:Int)).length:Int) t) fuel 0=cond (clear t f i 8 0) fin hit:=by
 have zj:=dD;have hl:((range 8).map λk=>(nk f k:Int)).length=8:=by simp
 have key:=Lw (T:=pB k0 k1 v2 (i) Xa Z0 v14 ((range 8).map λk=>(nk f k)) (((range 8).map λk=>(nk f k:Int)).length) t) 8 (λ(_) i=>(i))
  (λk s c=>if nk f k=i then fin else if(iu t (nk f k)).1=0 then hit else c s) (λ_=>fin)
  (λk s nx hk=>by
   have hw:nk f k<t.length:=by have:=Ji f k;omega
   simp only[pB];rw[kW,bw (show k<((range 8).map λk=>(nk f k:Int)).length by omega),ak (by omega) (by omega)];simp only[af,ab,List.getElem_map,List.getElem_range,bw hw,zR hw,h0,h1];by_cases e1:nk f k=i;subst e1;simp;have:((nk f k:Int)==(i))=false:=by simp;omega
   rw[this,aK e1];by_cases e2:t[nk f k].1=0;simp[e2];have:(t[nk f k].1==0)=false:=by simp[e2]
   rw[this,aK e2];rfl)
  (λs nx=>by exact h0 _)
  fuel 0 () (by omega) (by omega)
 refine key.trans ?_;have main:∀n k,upK (λk (s) c=>if nk f k=i then fin else if(iu t (nk f k)).1=0 then hit else c s) (λ_=>fin) 8 n k ()=cond (clear t f i n k) fin hit:=by intro n;induction n with|zero=>intro k;rfl|succ n ih=>intro k;rw[upK,clear];split;rfl;split;rfl;exact ih (k+1)
 exact main 8 0
def XJ:iB:=(0,0,0,0,0)
theorem XK (p:iB):((p.1==0)&&((p.2.1==0)&&((p.2.2.1==0)&&((p.2.2.2.1==0)&&((p.2.2.2.2==0)&&true)))))=decide (p=XJ):=Ps p XJ
def U5 (s:Slot):Bool:=dV s.1 0 2&&dV s.2.2 0 3&&((s.1==1)||(s.2.2==0)&&decide (s.2.1=XJ))
def pO (t:ax Slot)(i:Nat):Bool:=U5 (iu t i)&&(!((iu t i).1==1)||(walk t (iu t i).2.1 8 0==(i:Int)))
def xq (t:ax Slot)(i:Nat):Bool:=U5 (iu t i)&&(!((iu t i).1==1)||(BD (iu t i).2.1 t 0==(i:Int))&&clear t (iu t i).2.1 i 8 0)
def sD (t:ax Slot):Bool:=(t.length==8)&&(range 8).all (pO t)
theorem NK (t:ax Slot):uV t=some (sD t):=by
 unfold uV sD;by_cases ht:t.length=8
 ·have e:((t.length:Int) !=8)=false:=by rw[ht];rfl
  have e2:(t.length==8)=true:=by rw[ht];rfl
  rw[e,e2];rw[rU (pO t) 8 (by omega) (λi nx hi=>?hs) (λnx=>?hf)]
  case hs=>
   have hl:i<t.length:=by omega
   simp only[wP]
   rw[kW,bw hl,ak (by omega) (by omega)]
   simp only[af,ab,cR,di,XK,R2 t _ ht,pO,zR hl,U5,bne]
   cases dV t[i].1 0 2<;>cases dV t[i].2.2 0 3<;>cases (t[i].1==1)<;>cases (t[i].2.2==0)<;>cases decide (t[i].2.1=XJ)<;>first|rfl|(cases (walk t t[i].2.1 8 0==(i))<;>rfl)
  case hf=>
   simp only[wP]
   rw[ie];rfl
  cases (range 8).all (pO t)<;>rfl
 have e:((t.length:Int) !=8)=true:=by simp;omega
 have e2:(t.length==8)=false:=by simp[ht]
 rw[e,e2];rfl
theorem abc (t:ax Slot):uA t=some ((t.length==8)&&(range 8).all (xq t)):=by
 unfold uA;by_cases ht:t.length=8
 ·have e:((t.length:Int) !=8)=false:=by rw[ht];rfl
  have e2:(t.length==8)=true:=by rw[ht];rfl
  rw[e,e2];rw[rU (xq t) 8 (by omega) (λi nx hi=>?hs) (λnx=>?hf)]
  case hs=>
   have hl:i<t.length:=by omega
   simp only[wF]
   rw[kW,bw hl,ak (by omega) (by omega)]
   simp only[af,ab,dI,di,XK,Yu t _ (show t.length<=10^9 by omega),ajV,xq,zR hl,U5,bne]
   rw[aev (λ_=>nx ((i)+1)) (λ(y) (_)=>some y) (some false) (nx ((i)+1)) (λ_=>rfl) (λ_=>rfl) _ _ _ _ _ _ _ ht]
   cases dV t[i].1 0 2<;>cases dV t[i].2.2 0 3<;>cases (t[i].1==1)<;>cases (t[i].2.2==0)<;>cases decide (t[i].2.1=XJ)<;>first|rfl|(cases (BD t[i].2.1 t 0==(i))<;>first|rfl|(cases clear t t[i].2.1 i 8 0<;>rfl))
  case hf=>
   simp only[wF]
   rw[ie];rfl
  cases (range 8).all (xq t)<;>rfl
 have e:((t.length:Int) !=8)=true:=by simp;omega
 have e2:(t.length==8)=false:=by simp[ht]
 rw[e,e2];rfl
theorem Vp (t:ax Slot)(f:iB)(i:Nat):∀n k,walk t f n k=(i:Int)->rQ (iu t i) f=true/\clear t f i n k=true/\∃j,j<n/\nk f (k+j)=i
 |0,k,h=>by unfold walk at h;omega
 |n+1,k,h=>by
  unfold walk at h;unfold clear;by_cases h0:(iu t (nk f k)).1=0;omega;rw[aK h0]at h;by_cases h1:rQ (iu t (nk f k)) f=true;rw[aI h1]at h;have:nk f k=i:=by omega
  subst this;exact⟨h1,by simp,0,by omega,rfl⟩;rw[aK h1]at h;obtain⟨a,b,j,hj,e⟩:=Vp t f i n (k+1) h;refine⟨a,?_,j+1,by omega,by rw[<-e];congr 1;omega⟩;rw[aK h0,b];split<;>rfl
theorem adK (t:ax Slot)(f:iB)(i:Nat)(hu:rQ (iu t i) f=true)(ak0:∀j,j<8->rQ (iu t j) f=true->j=i):∀n k,clear t f i n k=true->(∃j,j<n/\nk f (k+j)=i)->walk t f n k=(i:Int)
 |0,k,_,h=>by omega
 |n+1,k,hc,⟨j,hj,e⟩=>by unfold walk;unfold clear at hc;by_cases h1:nk f k=i;rw[h1,aK,aI hu];intro h0;unfold rQ at hu;rw[h0]at hu;simp at hu;rw[aK h1]at hc;by_cases h0:(iu t (nk f k)).1=0;rw[aI h0]at hc;cases hc;rw[aK h0]at hc;rw[aK h0,aK (λhu'=>h1 (ak0 _ (Ji f k) hu'))];refine adK t f i hu ak0 n (k+1) hc ?_;cases j with|zero=>exact absurd e h1|succ j=>exact⟨j,by omega,by rw[<-e];congr 1;omega⟩
theorem akH (f:iB)(i:Nat)(hi:i<8):∃j,j<8/\nk f (0+j)=i:=by have:=QS f;refine⟨(i+8-(Fv f).toNat)%8,by omega,?_⟩;unfold nk;omega
theorem HC (f:iB):∀(t:ax Slot)(m:Nat),(∃j,j<t.length/\rQ (iu t j) f=true)->∃j,j<t.length/\rQ (iu t j) f=true/\BD f t m=((m+j:Nat):Int)
 |[],_,h=>by obtain⟨j,hj,_⟩:=h;simp at hj
 |s::r,m,⟨j,hj,e⟩=>by
  unfold BD;by_cases hs:rQ s f=true;rw[aI hs];exact⟨0,by simp,by simpa[iu]using hs,by simp⟩;rw[aK hs];cases j with
  |zero=>exact absurd (by simpa[iu]using e) hs
  |succ j=>
   obtain⟨j',h1,h2,h3⟩:=HC f r (m+1) ⟨j,by simpa using hj,by simpa[iu]using e⟩;refine⟨j'+1,by simpa using h1,by simpa[iu]using h2,?_⟩;have:((m:Int)+1)=((m+1:Nat)):=by omega
   rw[this,h3];congr 1;omega
theorem ab2 (t:ax Slot)(ht:t.length=8):(range 8).all (xq t)=(range 8).all (pO t):=by
 rw[gx,aO,aO];simp only[cP];constructor;intro h i hi;have hI:=h i hi;unfold xq at hI;unfold pO;simp only[ah,dE,aP,bD]at hI⊢;refine⟨hI.1,?_⟩;rcases hI.2 with h1|⟨h1,h2⟩;exact .inl h1;by_cases hu:((iu t i).1==1)=true;right;have hu':rQ (iu t i) (iu t i).2.1=true:=by unfold rQ;rw[hu];simp
 refine adK t _ i hu' (λj hj huj=>?_) 8 0 h2 (akH _ i hi);have hJ:=h j hj;unfold xq at hJ;unfold rQ at huj;simp only[ah,bE]at huj;simp only[ah,dE,aP,bD]at hJ;rcases hJ.2 with h3|⟨h3,_⟩;rw[huj.1]at h3;cases h3;rw[huj.2]at h3;omega;exact .inl (by simpa using hu);intro h i hi;have hI:=h i hi;unfold pO at hI;unfold xq;simp only[ah,dE,aP,bD]at hI⊢;refine⟨hI.1,?_⟩;rcases hI.2 with h1|h1;exact .inl h1;right;obtain⟨hu,hc,_⟩:=Vp t _ i 8 0 h1;refine⟨?_,hc⟩;obtain⟨j,hj,huj,e⟩:=HC (iu t i).2.1 t 0 ⟨i,by omega,hu⟩;have hJ:=h j (by omega);unfold pO at hJ;unfold rQ at huj;simp only[ah,bE]at huj;simp only[ah,dE,aP,bD]at hJ;rcases hJ.2 with h3|h3;rw[huj.1]at h3;cases h3;rw[huj.2,h1]at h3;have e':BD (iu t i).2.1 t 0=((0+j)):=e;omega
theorem Un (t:ax Slot):uA t=some (sD t):=by
 rw[abc,sD];by_cases ht:t.length=8;rw[ab2 t ht];have e2:(t.length==8)=false:=by simp[ht]
 rw[e2];rfl
def adq (n:Int):Bool:=(n==1)||(n==2)||(n==4)||(n==8)||(n==16)
theorem abp (n:Int):CJ n=some (adq n):=by grind[CJ,ab,adq]
def wZ (s:lz)(q:Int):Bool:=dV q 1 4&&((s.1.length:Int)==16)&&adq s.2.length&&s.2.all λx=>dV x 0 (q-1)
theorem Kw (s:lz)(q:Int)(h:s.2.length<=10^9):wg s q=some (wZ s q):=by
 unfold wg wZ;simp only[cR,abp,ab,di,bne];by_cases hq:dV q 1 4=true
 ·rw[rT (λx=>dV x 0 (q-1)) s.2 (by omega) (λi hi nx=>?hs) (λnx=>?hf)]
  case hs=>
   rw[aS]at hq
   simp only[uS]
   rw[kW,bw hi,ak (by omega) (by omega),ak (by omega) (by omega)]
   simp only[af,ab,cR];rfl
  case hf=>
   simp only[uS]
   rw[ie];rfl
  rw[hq];cases ((s.1.length:Int)==16)<;>cases adq s.2.length<;>cases s.2.all (λx=>dV x 0 (q-1))<;>rfl
 have Pw:dV q 1 4=false:=by simpa using hq
 rw[Pw];rfl
theorem Q9 (s:lz)(q:Int)(h:s.2.length<=10^9):Aw s q=some (wZ s q):=by rw[<-Kw s q h];rfl
def eX (s:cX)(q:Int):Bool:=BK s.1&&sD s.2.1&&wZ s.2.2 q&&s.1.all (λr=> !(decide (r.2.2.2.2.2.2.2.2>=q)))&&s.2.1.all (λx=> !(decide (x.2.2>=q)))
theorem Cx (s:cX)(q:Int)(h1:s.1.length<=10^9)(h2:s.2.1.length<=10^9)(h3:s.2.2.2.length<=10^9):lG s q=some (eX s q):=by
 unfold lG eX;simp only[Ja _ h1,NK,Kw _ _ h3,ab,di];rw[rT (hit:=some false) (fin:=cond (s.2.1.all (λx=> !(decide (x.2.2>=q)))) (some true) (some false)) (λr:jX=> !(decide (r.2.2.2.2.2.2.2.2>=q))) s.1 (by omega) (λi hi nx=>?hs) (λnx=>?hf)]
 case hs=>
  grind[qU,bw,ak,ab]
 case hf=>
  simp only[qU]
  rw[ie]
  simp only[ae]
  rw[rT (λx:Slot=> !(decide (x.2.2>=q))) s.2.1 (by omega) (λi hi nx=>?hs) (λnx=>?hf)]
  all_goals grind[xh,bw,ak,ab]
 grind
theorem Lm (s:cX)(q:Int)(h1:s.1.length<=10^9)(h2:s.2.1.length<=10^9)(h3:s.2.2.2.length<=10^9):rm s q=some (eX s q):=by
 unfold rm eX;simp only[Uj _ h1,Un,Q9 _ _ h3,ab,di];rw[rT (λr:jX=> !((r.2.2.2.2.2.2.2.1==0)&&decide (r.2.2.2.2.2.2.2.2>=q))) s.1 (by omega) (λi hi nx=>?hs) (λnx=>?hf)]
 case hs=>
  simp only[qF]
  rw[kW,bw hi,ak (by omega) (by omega)]
  simp only[af,ab,Bool.not_not,di]
  cases (s.1[i].2.2.2.2.2.2.2.1==0)<;>rfl
 case hf=>
  simp only[qF]
  rw[ie]
  simp only[ae]
  rw[rT (λx:Slot=> !((x.1==1)&&decide (x.2.2>=q))) s.2.1 (by omega) (λi hi nx=>?hs) (λnx=>?hf)]
  case hs=>
   simp only[oQ]
   rw[kW,bw hi,ak (by omega) (by omega)]
   simp only[af,ab,Bool.not_not,di]
   cases (s.2.1[i].1==1)<;>rfl
  case hf=>
   simp only[oQ]
   rw[ie];rfl
 cases hr:BK s.1 with
 |false=>rfl
 |true=>
  cases ht:sD s.2.1 with
  |false=>rfl
  |true=>
   cases hs:wZ s.2.2 q with
   |false=>rfl
   |true=>
    have hq:1<=q:=by unfold wZ at hs;simp only[ah,aS]at hs;exact hs.1.1.1.1
    have e1:s.1.all (λr=> !((r.2.2.2.2.2.2.2.1==0)&&decide (r.2.2.2.2.2.2.2.2>=q)))=s.1.all (λr=> !(decide (r.2.2.2.2.2.2.2.2>=q))):=by unfold BK at hr;simp only[ah,aO]at hr;rw[gx,aO,aO];refine forall_congr' λr=>forall_congr' λhm=>?_;rcases Zn (hr.1 r hm)with h0|h0;rw[h0];simp;rw[h0];simp only[aw (show¬(0)>=q by omega),iv]
    have e2:s.2.1.all (λx=> !((x.1==1)&&decide (x.2.2>=q)))=s.2.1.all (λx=> !(decide (x.2.2>=q))):=by unfold sD at ht;simp only[ah,aO,cP,bD]at ht;rw[gx,aO,aO];refine forall_congr' λx=>forall_congr' λhm=>?_;obtain⟨i,hi,rfl⟩:=List.mem_iff_getElem.1 hm;have W7:=ht.2 i (by omega);unfold pO U5 at W7;rw[zR hi]at W7;simp only[ah,dE,bD]at W7;rcases W7.1.2 with h0|⟨h0,_⟩;rw[h0];simp;rw[h0];simp only[aw (show¬(0)>=q by omega),iv]
    rw[e1,e2];cases s.1.all (λr=> !(decide (r.2.2.2.2.2.2.2.2>=q)))<;>cases s.2.1.all (λx=> !(decide (x.2.2>=q)))<;>rfl
theorem gZ {n:Nat}(h:n<9223372036854775808):ar (n:Int)=(n:Int):=ak (by omega) (by omega)
theorem MA {n:Nat}(h:n<4294967296:=by omega):IntKind.wrap .u32 (n:Int)=(n:Int):=by grind[IntKind.wrap,IntKind.bits,IntKind.signed]
theorem lY (b:UInt8):b.toNat<256:=b.toNat_lt
def aF (v:Int):Bytes:=(cv v).getD []
theorem ja (v:Int):cv v=some (aF v):=by grind[aF,cv,cR,ab]
theorem mJ (v:Int):cI v=some (aF v):=ja v
theorem D0 (v:Int):(aF v).length=bif dV v 0 65535 then 2 else 0:=by have h:=ja v;simp only[cv,cR,ab]at h;cases hb:dV v 0 65535<;>rw[hb]at h<;>(rw[<-bQ h];rfl)
theorem bR (v:Int):(aF v).length<=2:=by grind[D0]
def cn (v:Int):Bytes:=(fX v).getD []
theorem mS (v:Int):fX v=some (cn v):=by grind[cn,fX,cR,ab]
theorem Dy (v:Int):iJ v=some (cn v):=mS v
theorem GZ (v:Int):(cn v).length=bif dV v 0 4294967295 then 4 else 0:=by have h:=mS v;simp only[fX,cR,ab]at h;cases hb:dV v 0 4294967295<;>rw[hb]at h<;>(rw[<-bQ h];rfl)
theorem eR (v:Int):(cn v).length<=4:=by grind[GZ]
def bV (s:Bytes)(i:Nat):Nat:=(s.getD i 0).toNat
theorem gq (s:Bytes)(i:Nat):bV s i<256:=lY _
theorem lM {i:Nat}(h:i<s.length:=by omega):∃x,idx s (i:Int)=some x/\x.toNat=bV s i:=⟨s[i],bw h,by rw[bV,fD h]⟩
def gv (s:Bytes)(a n:Int):Bool:=decide (0<=a/\a+n<=(s.length:Int))
theorem Ii (s:Bytes)(a n:Int)(h:s.length<=10^9)(hn:0<=n):qg s a n=some (gv s a n):=by
 unfold qg gv;by_cases h0:0<=a;by_cases h1:a<=(s.length:Int)
 rw[az (show a>=0 from h0),az h1,ak (by omega) (by omega)];simp only[af,ab];congr 1;rw[decide_eq_decide];omega;rw[az (show a>=0 from h0),aw h1,aw (show¬(0<=a/\a+n<=(s.length:Int)) by omega)];rfl;rw[aw (show¬a>=0 from h0),aw (show¬(0<=a/\a+n<=(s.length:Int)) by omega)];rfl
def cH (s:Bytes)(a:Int):Int:=bif gv s a 2 then((bV s a.toNat*256+bV s (a.toNat+1):Nat):Int) else-1
def fM (s:Bytes)(a:Int):Int:=bif gv s a 4 then(((bV s a.toNat*256+bV s (a.toNat+1))*65536+(bV s (a.toNat+2)*256+bV s (a.toNat+3)):Nat):Int) else-1
theorem uI (s:Bytes)(a:Int)(h:s.length<=10^9):fg s a=some (cH s a):=by unfold fg cH;rw[Ii s a 2 h (by omega),ab];cases hw:gv s a 2 with|false=>rfl|true=>simp only[gv,bE]at hw;obtain⟨n,rfl⟩:=au hw.1;obtain⟨x,hx,ex⟩:=lM (s:=s) (i:=n);obtain⟨y,hy,ey⟩:=lM (s:=s) (i:=n+1);have hxl:=gq s n;have hyl:=gq s (n+1);rw[ak (n:=(n:Int)+1) (by omega) (by omega),hx,show(n:Int)+1=((n+1:Nat):Int) by omega,hy];simp only[aj,ae,ab,aC,af];rw[lH,ex,ey,gZ (by omega),gZ (by omega)];have e8:ql 8=8:=rfl;rw[e8,ak (n:=((bV s n:Nat):Int)*2^8) (by omega) (by omega),ak (by omega) (by omega)];congr 1;all_goals omega
theorem Da (s:Bytes)(a:Int)(h:s.length<=10^9):jv s a=some (fM s a):=by
 unfold jv fM;rw[Ii s a 4 h (by omega),ab];cases hw:gv s a 4 with
 |false=>rfl
 |true=>
  simp only[gv,bE]at hw;obtain⟨n,rfl⟩:=au hw.1;have w1:gv s (n:Int) 2=true:=by grind[gv]
  have w2:gv s ((n:Int)+2) 2=true:=by grind[gv]
  have b0:=gq s n;have b1:=gq s (n+1);have b2:=gq s (n+2);have b3:=gq s (n+3);rw[ak (n:=(n:Int)+2) (by omega) (by omega),uI s _ h,uI s _ h];simp only[aj,ae,ab,af,cH,w1,w2,aC];rw[lH,show((n:Int)+2).toNat=n+2 by omega,show n+2+1=n+3 by omega];have e8:ql 16=16:=rfl;rw[e8,ak (n:=((bV s n*256+bV s (n+1):Nat):Int)*2^16) (by omega) (by omega),ak (by omega) (by omega)];congr 1;all_goals omega
theorem as9 (a b:Nat)(ha:a<9223372036854775808)(hb:b<9223372036854775808):toNat (gm (a:Int)|||gm (b:Int))=a|||b:=by show(BitVec.ofInt 64 (a:Int)|||BitVec.ofInt 64 (b:Int)).toNat=_;grind
theorem agL (a b:Nat)(ha:a<9223372036854775808:=by omega)(hb:b<9223372036854775808:=by omega):toNat (gm (a:Int)&&&gm (b:Int))=a&&&b:=by show(BitVec.ofInt 64 (a:Int)&&&BitVec.ofInt 64 (b:Int)).toNat=_;grind
theorem adL (a b:Nat)(ha:a<9223372036854775808)(hb:b<9223372036854775808):toNat (gm (a:Int)^^^gm (b:Int))=a^^^b:=by show(BitVec.ofInt 64 (a:Int)^^^BitVec.ofInt 64 (b:Int)).toNat=_;grind
theorem amt (a b:Nat)(ha:a<4294967296)(hb:b<4294967296):toNat (BitVec.ofInt (IntKind.bits .u32) (a:Int)&&&BitVec.ofInt (IntKind.bits .u32) (b:Int))=a&&&b:=by show(BitVec.ofInt 32 (a:Int)&&&BitVec.ofInt 32 (b:Int)).toNat=_;grind
theorem ak7 (a b:Nat)(ha:a<4294967296)(hb:b<4294967296):toNat (BitVec.ofInt (IntKind.bits .u32) (a:Int)^^^BitVec.ofInt (IntKind.bits .u32) (b:Int))=a^^^b:=by show(BitVec.ofInt 32 (a:Int)^^^BitVec.ofInt 32 (b:Int)).toNat=_;grind
theorem Kr (x k y:Nat)(hy:y<2^k:=by omega)(h:2^k*x+y<9223372036854775808:=by omega):ar (toNat (gm ((2^k*x:Nat):Int)|||gm (y:Int)):Int)=((2^k*x+y:Nat):Int):=by rw[as9 _ _ (by omega) (by omega),<-Nat.two_pow_add_eq_or_of_lt hy];exact gZ h
theorem OI (s:Bytes)(a n:Int):(cond (decide (a<0)) (some true) (some (decide (a>(s.length:Int)-n))))=some (!gv s a n):=by grind[gv]
theorem zK (s:Bytes)(a:Int)(h:s.length<=10^9):gk s a=some (cH s a):=by unfold gk cH;rw[ak (n:=(s.length:Int)-2) (by omega) (by omega)];rw[OI,ab];cases hw:gv s a 2 with|false=>rfl|true=>simp only[gv,bE]at hw;obtain⟨n,rfl⟩:=au hw.1;obtain⟨x,hx,ex⟩:=lM (s:=s) (i:=n);obtain⟨y,hy,ey⟩:=lM (s:=s) (i:=n+1);have hxl:=gq s n;have hyl:=gq s (n+1);rw[ak (n:=(n:Int)+1) (by omega) (by omega),hx,show(n:Int)+1=((n+1:Nat):Int) by omega,hy];simp only[aj,ae,af,ab,aC];rw[lH,ex,ey,gZ (n:=bV s n) (by omega),gZ (n:=bV s (n+1)) (by omega)];have e8:ql 8=8:=rfl;rw[e8,show((bV s n:Nat):Int)*2^8=((2^8*bV s n:Nat):Int) by omega,gZ (n:=2^8*bV s n) (by omega),Kr (bV s n) 8 (bV s (n+1))];congr 1;all_goals omega
theorem C3 (s:Bytes)(a:Int)(h:s.length<=10^9):jP s a=some (fM s a):=by
 unfold jP fM;rw[ak (n:=(s.length:Int)-4) (by omega) (by omega)];rw[OI,ab];cases hw:gv s a 4 with
 |false=>rfl
 |true=>
  simp only[gv,bE]at hw;obtain⟨n,rfl⟩:=au hw.1;obtain⟨x0,h0,e0⟩:=lM (s:=s) (i:=n);obtain⟨x1,h1,e1⟩:=lM (s:=s) (i:=n+1);obtain⟨x2,h2,e2⟩:=lM (s:=s) (i:=n+2);obtain⟨x3,h3,e3⟩:=lM (s:=s) (i:=n+3);have b0:=gq s n;have b1:=gq s (n+1);have b2:=gq s (n+2);have b3:=gq s (n+3)
  rw[ak (n:=(n:Int)+1) (by omega) (by omega),ak (n:=(n:Int)+2) (by omega) (by omega),ak (n:=(n:Int)+3) (by omega) (by omega),h0,show(n:Int)+1=((n+1:Nat):Int) by omega,h1,
   show(n:Int)+2=((n+2:Nat):Int) by omega,h2,show(n:Int)+3=((n+3:Nat):Int) by omega,h3]
  simp only[aj,ae,af,ab,aC];rw[lH,lH,lH,e0,e1,e2,e3];generalize bV s n=p0 at*;generalize bV s (n+1)=p1 at*;generalize bV s (n+2)=p2 at*;generalize bV s (n+3)=p3 at*;have f24:ql 24=24:=rfl;have f16:ql 16=16:=rfl;have f8:ql 8=8:=rfl
  rw[gZ (n:=p0) (by omega),gZ (n:=p1) (by omega),gZ (n:=p2) (by omega),gZ (n:=p3) (by omega),f24,f16,f8,
   show((p0:Nat):Int)*2^24=((2^24*p0:Nat):Int) by omega,show((p1:Nat):Int)*2^16=((2^16*p1:Nat):Int) by omega,show((p2:Nat):Int)*2^8=((2^8*p2:Nat):Int) by omega,
   gZ (n:=2^24*p0) (by omega),gZ (n:=2^16*p1) (by omega),gZ (n:=2^8*p2) (by omega),Kr p0 24 (2^16*p1),
   show 2^24*p0+2^16*p1=2^16*(2^8*p0+p1) by omega,Kr _ 16 (2^8*p2),
   show 2^16*(2^8*p0+p1)+2^8*p2=2^8*(2^8*(2^8*p0+p1)+p2) by omega,Kr _ 8 p3]
  congr 1;all_goals omega
def J2 (c:Nat):Nat:=if c%2=1 then(c/2)^^^3988292384 else c/2
def xG:Nat->Nat->Nat
 |0,c=>c
 |n+1,c=>J2 (xG n c)
def aso (c:Nat)(s:Bytes):Nat:=s.foldl (λc b=>xG 8 (c^^^b.toNat)) c
def agW (s:Bytes):Int:=4294967295-(aso 4294967295 s:Int)
theorem E9 {a b:Nat}(ha:a<4294967296)(hb:b<4294967296):a^^^b<4294967296:=Nat.xor_lt_two_pow (n:=32) ha hb
theorem adY {c:Nat}(h:c<4294967296):J2 c<4294967296:=by grind[J2,E9]
theorem KV {c:Nat}(h:c<4294967296):∀n,xG n c<4294967296
 |0=>h
 |n+1=>adY (KV h n)
theorem aiR (k0:Int->Int->aA R)(k:Int->aA R)(hk:∀x y,k0 x y=k x)(v0:Bytes)(v4:Int)(c:Nat)(h:c<4294967296):aZ (sr k0 v0 v4) fuel ((c:Int),0)=k (xG 8 c:Int):=by
 have zj:=dD
 have key:=Lw (T:=sr k0 v0 v4) 8 (λ(_:Unit) i=>((xG i c:Int),(i:Int))) (λ_ s nx=>nx s) (λ_=>k (xG 8 c:Int))
  (λi s nx hi=>by
   have hc:=KV h i;simp only[sr];have a1:=agL (xG i c) 1;have x1:=adL (xG i c/2) 3988292384 (by omega) (by omega);simp only[Int.natCast_one]at a1
   rw[kW,af,a1,Nat.and_one_is_mod,
    show ql 1=1 from rfl,show fdiv ((xG i c:Nat):Int) (2^1)=((xG i c/2:Nat):Int) from by rw[Int.fdiv_eq_ediv_of_nonneg _ (by omega)];rfl,
    show(3988292384:Int)=((3988292384:Nat):Int) from rfl,x1,
    gZ (n:=xG i c%2) (by omega),gZ (n:=(xG i c/2)^^^3988292384) (by have:=E9 (a:=xG i c/2) (b:=3988292384) (by omega) (by omega);omega),lH,lH,ak (n:=(i:Int)+1) (by omega) (by omega)]
   show _=nx ((J2 (xG i c):Int),((i+1:Nat):Int));unfold J2;by_cases hp:xG i c%2=1;rw[hp,aI rfl];rfl;have h0:xG i c%2=0:=by omega
   rw[h0,lH];rfl)
  (λs nx=>by simp only[sr];rw[ie,ae,hk])
  fuel 0 () (by omega) (by omega)
 refine key.trans ?_;rfl
theorem ahF (k0:Int->Int->aA R)(k:Int->aA R)(hk:∀x y,k0 x y=k x)(v0:Bytes)(v4:Int)(c:Nat)(h:c<4294967296):aZ (sc k0 v0 v4) fuel ((c:Int),0)=k (xG 8 c:Int):=by
 have zj:=dD
 have key:=Lw (T:=sc k0 v0 v4) 8 (λ(_:Unit) i=>((xG i c:Int),(i:Int))) (λ_ s nx=>nx s) (λ_=>k (xG 8 c:Int))
  (λi s nx hi=>by
   have hc:=KV h i;simp only[sc];have a1:=amt (xG i c) 1 (by omega) (by omega);have x1:=ak7 (xG i c/2) 3988292384 (by omega) (by omega);simp only[Int.natCast_one]at a1
   rw[kW,af,a1,Nat.and_one_is_mod,
    show min (Int.toNat 1) (IntKind.bits .u32)=1 from rfl,show fdiv ((xG i c:Nat):Int) (2^1)=((xG i c/2:Nat):Int) from by rw[Int.fdiv_eq_ediv_of_nonneg _ (by omega)];rfl,
    show(3988292384:Int)=((3988292384:Nat):Int) from rfl,x1,
    MA (n:=xG i c%2),MA (n:=(xG i c/2)^^^3988292384) (E9 (by omega) (by omega)),lH,ak (n:=(i:Int)+1) (by omega) (by omega)]
   show _=nx ((J2 (xG i c):Int),((i+1:Nat):Int));unfold J2;by_cases hp:xG i c%2=1;rw[hp,aI rfl];rfl;have h0:xG i c%2=0:=by omega
   rw[h0,lH];rfl)
  (λs nx=>by simp only[sc];rw[ie,ae,hk])
  fuel 0 () (by omega) (by omega)
 refine key.trans ?_;rfl
theorem akr (s:Bytes)(h:s.length<=10^9):GK s=some (agW s):=by
 unfold GK;have:=FO (T:=vU (λ(y4:Int) (_:Int)=>some (ar (4294967295-y4))) s) s (λ(c:Nat) i=>((c:Int),(i:Int))) (λ_ c=>c<4294967296) (λb c=> .ok (xG 8 (c^^^b.toNat))) (λc=>some (4294967295-(c:Int))) (by omega) (λi hi c nx hI=>?hs) (λi hi c c' hI hg=>?hn) (λc nx hI=>?hf) 4294967295 (by omega)
 case hs=>
  have hb:=lY s[i]
  simp only[vU]
  rw[kW,bw hi,af,ab,gZ (n:=s[i].toNat) (by omega),adL c s[i].toNat (by omega) (by omega)]
  have hx:=E9 hI (show s[i].toNat<4294967296 by omega)
  rw[gZ (by omega),aiR _ (λy=>nx (y,(i:Int)+1)) (λx y=>by grind[ak]) _ _ _ hx];rfl
 case hn=>
  grind[KV,E9,lY]
 case hf=>
  grind[vU,ak]
 rw[LY]at this;exact this
theorem not_xor (c:Nat)(h:c<4294967296):toNat (BitVec.ofInt (IntKind.bits .u32) (IntKind.max .u32)^^^BitVec.ofInt (IntKind.bits .u32) (c:Int))=4294967295-c:=by show(BitVec.ofInt 32 4294967295^^^BitVec.ofInt 32 (c:Int)).toNat=_;rw[show BitVec.ofInt 32 4294967295=BitVec.allOnes 32 by decide,BitVec.ofInt_natCast,BitVec.allOnes_xor,BitVec.toNat_not,BitVec.toNat_ofNat,Nat.mod_eq_of_lt (show c<2^32 by omega)]
theorem ajM (s:Bytes)(h:s.length<=10^9):Gk s=some (agW s):=by
 unfold Gk;have:=FO (T:=vH (λ(y4:Int) (_:Int)=>some (ar (IntKind.wrap .u32 (toNat (BitVec.ofInt (IntKind.bits .u32) (IntKind.max .u32)^^^BitVec.ofInt (IntKind.bits .u32) y4))))) s) s (λ(c:Nat) i=>((c:Int),(i:Int))) (λ_ c=>c<4294967296) (λb c=> .ok (xG 8 (c^^^b.toNat))) (λc=>some (4294967295-(c:Int))) (by omega) (λi hi c nx hI=>?hs) (λi hi c c' hI hg=>?hn) (λc nx hI=>?hf) 4294967295 (by omega)
 case hs=>
  have hb:=lY s[i]
  simp only[vH]
  rw[kW,bw hi,af,ab,MA (n:=s[i].toNat),ak7 c s[i].toNat (by omega) (by omega)]
  have hx:=E9 hI (show s[i].toNat<4294967296 by omega)
  rw[MA hx,ahF _ (λy=>nx (y,(i:Int)+1)) (λx y=>by grind[ak]) _ _ _ hx];rfl
 case hn=>
  grind[KV,E9,lY]
 case hf=>
  simp only[vH]
  rw[ie,ae,not_xor c hI,MA,gZ (by omega)]
  congr 1
  all_goals omega
 rw[LY]at this;exact this
def dk (m:bK):Bool:=m.all (λx=>(x.length:Int)==128)&&decide ((m.length:Int)<=64)
theorem GH (m:bK)(h:m.length<=10^9):su m=some (dk m):=by
 unfold su dk;rw[rT (fin:=some (decide ((m.length:Int)<=64))) (λx:Bytes=>(x.length:Int)==128) m (by omega) (λi hi nx=>?hs) (λnx=>?hf)]
 case hs=>
  simp only[uO]
  rw[kW,bw hi,ak (by omega) (by omega)];rfl
 all_goals grind[uO]
theorem Kj (m:bK)(h:m.length<=10^9):vL m=some (dk m):=GH m h
def Wk:aE:=(0,0,0,false)
def Nh (m:aE):Bool:=dV m.1 0 7&&(dV m.2.1 0 1023&&dV m.2.2.1 0 63)
def xx (d p:Int)(m:aE):Bool:=(m.1==d)&&(m.2.1==p)
def Wi (l:ax aE)(i:Nat):Bool:=Nh (l.getD i Wk)&&(range i).all (λj=> !(xx (l.getD i Wk).1 (l.getD i Wk).2.1 (l.getD j Wk)))
def fW (l:ax aE):Bool:=decide ((l.length:Int)<=96)&&(range l.length).all (Wi l)
theorem Md (l:ax aE)(h:l.length<=10^9):rD l=some (fW l):=by
 unfold rD fW;rw[rU (hit:=some false) (fin:=some true) (Wi l) l.length (by omega) (λi nx hi=>?hs) (λnx=>?hf)]
 case hs=>
  simp only[qO]
  rw[kW,bw hi,ak (by omega) (by omega)]
  simp only[af,ab,cR,di]
  rw[rU (hit:=some false) (fin:=nx ((i)+1)) (λj=> !(xx l[i].1 l[i].2.1 (l.getD j Wk))) i (by omega) (λj nx hj=>?hs2) (λnx=>?F1)]
  case hs2=>
   grind[oX,bw,ak,ab,xx]
  all_goals grind[oX,Wi,Nh]
 all_goals grind[qO]
def YZ (l:ax aE)(d p:Int):Int:=match l.findIdx? (xx d p)with|some i=>(i:Int)|none=> -1
theorem Yq (l:ax aE)(d p:Int)(h:l.length<=10^9):pD l d p=some (YZ l d p):=by unfold pD YZ;rw[II (hit:=λi=>some i) (fin:=some (-1)) (xx d p) l (by omega) (λi hi nx=>?hs) (λnx=>?hf)];all_goals grind[vy,bw,ak,ab,xx]
theorem abP (l:ax aE)(i:Nat)(hi:i<l.length):(YZ l l[i].1 l[i].2.1==(i:Int))=(range i).all (λj=> !(xx l[i].1 l[i].2.1 (l.getD j Wk))):=by
 have Em:xx l[i].1 l[i].2.1 l[i]=true:=by simp[xx]
 unfold YZ;cases hq:l.findIdx? (xx l[i].1 l[i].2.1)with
 |none=>rw[List.findIdx?_eq_none_iff]at hq;rw[hq l[i] (bn hi)]at Em;cases Em
 |some k=>
  rw[List.findIdx?_eq_some_iff_getElem]at hq;obtain⟨hk,hpk,iA⟩:=hq;rw[gx,aO];simp only[cP,bD,aP];constructor;intro e j hj;have hjl:j<l.length:=by omega
  rw[fD hjl];have:=iA j (by omega);simpa using this;intro uh;rcases Nat.lt_trichotomy k i with hki|hki|hki;have:=uh k hki;rw[fD hk,hpk]at this;cases this;omega;have:=iA i hki;rw[Em]at this;simp at this
theorem Lh (l:ax aE)(h:l.length<=10^9):rk l=some (fW l):=by
 unfold rk fW;rw[rU (hit:=some false) (fin:=some (decide ((l.length:Int)<=96))) (Wi l) l.length (by omega) (λi nx hi=>?hs) (λnx=>?hf)]
 case hs=>
  simp only[qA]
  rw[kW,bw hi,ak (by omega) (by omega)]
  grind[ab,dI,Yq,abP,Wi,Nh,dV]
 all_goals grind[qA]
def Dm (n:Int)(l:dm)(i:Nat):Bool:=dV (l.getD i 0) 0 (n-1)&& !((l.take i).contains (l.getD i 0))
def dL (p:dq):Bool:=dV p.1 0 130944&&(dV p.2.1 1 512&&(dV p.2.2.1 0 16&&(range p.2.2.2.length).all (Dm p.2.2.1 p.2.2.2)))
def Hf (n:Int)(l:dm):ax Bool:=(range n.toNat).map λk:Nat=>l.contains (k:Int)
theorem U2 (n:Int)(l:dm):(Hf n l).length=n.toNat:=by simp[Hf]
theorem I4 (n:Int)(l:dm)(k:Nat)(h:k<(Hf n l).length):(Hf n l)[k]=l.contains (k:Int):=by simp[Hf]
theorem afP (n:Int)(l:dm)(k:Nat)(h:k<n.toNat):(Hf n l).set k true=Hf n (l++[(k:Int)]):=by
 apply List.ext_getElem;simp[Hf];intro j h1 h2;rw[List.getElem_set];split;rename_i e;subst e;rw[I4];simp;rename_i e;rw[I4,I4];simp only[List.contains_append];have:([(k:Int)].contains (j))=false:=by simp;omega
 rw[this];simp
theorem Y6 {T:(ax Bool×Int->aA Bool)->ax Bool×Int->aA Bool}(n:Int)(l:dm)(hl:l.length<=10^9)
 (hs:∀i (hi:i<l.length)(s:ax Bool) nx,T nx (s,(i:Int))=aa (cond (!(dV l[i] 0 (n-1))) (some true) (aa (idx s l[i]) λx=>some x)) λq=>
  cond q (some false) (aa (idx s l[i]) λ_=>aa (idx s l[i]) λ_=>nx (s.set l[i].toNat true,((i+1:Nat):Int)))) (hf:∀s nx,T nx (s,(l.length:Int))=some true):
 aZ T fuel (List.replicate n.toNat false,0)=some ((range l.length).all (Dm n l)):=by
 have e0:(List.replicate n.toNat false,(0))=(Hf n (l.take 0),((0:Nat):Int)):=by congr 1;simp only[Hf,List.take_zero,List.contains_nil,List.map_const',List.length_range]
 rw[e0,MK (λi=>(Hf n (l.take i),(i:Int))) (Dm n l) l.length (by omega) (λi nx hi hp=>?hs) (λ_ nx=>hf _ nx)]
 case hs=>
  rw[hs i hi]
  unfold Dm
  rw[fD hi]
  by_cases zw:dV l[i] 0 (n-1)=true
  ·have hb:=zw
   rw[aS]at hb
   obtain⟨k,hk⟩:∃k:Nat,l[i]=(k):=⟨l[i].toNat,by omega⟩
   have hkn:k<(Hf n (l.take i)).length:=by rw[U2];omega
   rw[zw,hk,bw hkn,I4]
   simp only[aj,ae,ab,bH,Bool.not_not,aC]
   rw[afP _ _ _ (by rw[U2]at hkn;exact hkn),<-hk,<-bz hi]
  ·have alx:dV l[i] 0 (n-1)=false:=by simpa using zw
   rw[alx];rfl
 cases (range l.length).all (Dm n l)<;>rfl
theorem vT (p:dq)(h:p.2.2.2.length<=10^9):kc p=some (dL p):=by
 unfold kc dL;simp only[cR,ab,di];by_cases hn:dV p.2.2.1 0 16=true
 ·have hb:=hn;rw[aS]at hb;rw[zip,bf (by omega),Y6 p.2.2.1 p.2.2.2 h (λi hi s nx=>?hs) (λs nx=>?hf)]
  case hs=>
   simp only[yJ]
   rw[kW,bw hi,ak (by omega) (by omega),ak (by omega) (by omega)]
   simp only[af,ab,cR];rfl
  case hf=>
   simp only[yJ]
   rw[ie];rfl
  rw[hn];cases dV p.1 0 130944<;>cases dV p.2.1 1 512<;>rfl
 have D5:dV p.2.2.1 0 16=false:=by simpa using hn
 rw[D5];cases dV p.1 0 130944<;>cases dV p.2.1 1 512<;>rfl
theorem Bf (p:dq)(h:p.2.2.2.length<=10^9):ka p=some (dL p):=by
 unfold ka dL;simp only[dI,ab,di];by_cases hn:dV p.2.2.1 0 16=true
 ·have hb:=hn;rw[aS]at hb;rw[zip,bf (by omega),Y6 p.2.2.1 p.2.2.2 h (λi hi s nx=>?hs) (λs nx=>?hf)]
  case hs=>
   simp only[ya]
   rw[kW,bw hi,ak (by omega) (by omega),ak (by omega) (by omega)]
   simp only[af,ab,dI];rfl
  case hf=>
   simp only[ya]
   rw[ie];rfl
  rw[hn];cases dV p.1 0 130944<;>cases dV p.2.1 1 512<;>rfl
 have D5:dV p.2.2.1 0 16=false:=by simpa using hn
 rw[D5];cases dV p.1 0 130944<;>cases dV p.2.1 1 512<;>rfl
def jW (n:Int):Bool:=(n==2)||((n==4)||((n==8)||(n==16)))
theorem Gr (n:Int):vd n=some (jW n):=by grind[vd,ab,jW]
theorem H9 (n:Int):vQ n=some (jW n):=Gr n
theorem iK {n:Int}:jW n=true↔n=2\/n=4\/n=8\/n=16:=by simp[jW]
theorem FZ (x:Int)(k:Nat)(hk:k<=64:=by omega):ar x%(2^k:Int)=x%(2^k:Int):=by
 obtain⟨c,hc⟩:∃c:Int,(18446744073709551616)=2^k*c:=⟨2^(64-k),by rw[<-Int.pow_add,show k+(64-k)=64 by omega];rfl⟩
 have:ar x=x\/∃q:Int,ar x=x+18446744073709551616*q:=by right;simp only[ar,gR,IntKind.wrap,IntKind.bits,IntKind.signed];simp;split;exact⟨-(x/18446744073709551616)-1,by omega⟩;exact⟨-(x/18446744073709551616),by omega⟩
 rcases this with h|⟨q,h⟩;all_goals simp_all[Int.mul_assoc]
theorem Fe (x:Int)(k:Nat)(hk:k<63:=by omega):((gm x&&&gm (2^k-1)).toNat:Int)=x%2^k:=by
 have h2:(2)^k<=2^62:=by have:(2)^k<=2^62:=Nat.pow_le_pow_right (by omega) (by omega);exact_mod_cast this
 have hm:(gm (2^k-1)).toNat=2^k-1:=by show(BitVec.ofInt 64 (2^k-1)).toNat=2^k-1;grind
 rw[BitVec.toNat_and,hm,Nat.and_two_pow_sub_one_eq_mod];have hx:0<=x%18446744073709551616:=by omega
 have e:(((x%18446744073709551616).toNat%2^k))=(x%18446744073709551616)%2^k:=by push_cast;rw[Int.toNat_of_nonneg hx]
 refine e.trans ?_;exact Int.emod_emod_of_dvd x ⟨2^(64-k),by rw[<-Int.pow_add,show k+(64-k)=64 by omega];rfl⟩
theorem Nk (x n:Int)(h0:0<n:=by omega)(h1:n<=4611686018427387904:=by omega):kb x n=some (x%n):=by unfold kb;have:=Int.emod_nonneg x (show n≠0 by omega);grind[im,ak]
def cw (r:mn):Int:=if jW r.2.1 then(r.2.2.2-r.2.2.1)%(2*r.2.1) else 0
theorem DQ (r:mn):kM r=some (cw r):=by
 unfold kM cw;rw[Gr,ab];cases hs:jW r.2.1 with
 |false=>rfl
 |true=>
  congr 1;rcases iK.1 hs with h|h|h|h<;>rw[h];have e:ar (ar (2*2)-1)=2^2-1:=by decide
  rw[e,Fe _ 2,FZ _ 2,ak (by omega) (by omega)];rfl;have e:ar (ar (2*4)-1)=2^3-1:=by decide
  rw[e,Fe _ 3,FZ _ 3,ak (by omega) (by omega)];rfl;have e:ar (ar (2*8)-1)=2^4-1:=by decide
  rw[e,Fe _ 4,FZ _ 4,ak (by omega) (by omega)];rfl;have e:ar (ar (2*16)-1)=2^5-1:=by decide
  rw[e,Fe _ 5,FZ _ 5,ak (by omega) (by omega)];rfl
theorem Dw (r:mn):kI r=some (cw r):=by unfold kI cw;rw[H9,ab];cases hs:jW r.2.1 with|false=>rfl|true=>have hb:=iK.1 hs;rw[ak (by omega) (by omega)];simp only[Nk _ (2*r.2.1) (show 0<2*r.2.1 by omega),ab];grind[ak]
def dR (r:mn):Bool:=dV r.1 0 130944&&(jW r.2.1&&(dV r.2.2.1 0 (2*r.2.1-1)&&(dV r.2.2.2 0 (2*r.2.1-1)&&decide (cw r<=r.2.1))))
theorem C8 {n:Int}(h:jW n=true):ar (ar (2*n)-1)=2*n-1:=by grind[iK,ak]
theorem Bu (r:mn):kU r=some (dR r):=by unfold kU dR;simp only[cR,Gr,DQ,ab,di,cF];grind[jW,C8]
theorem Bg (r:mn):kR r=some (dR r):=by unfold kR dR;simp only[dI,H9,Dw,ab,di,cF];grind[jW,C8]
theorem zL (p:dq)(h:p.2.2.2.length<=10^9):kN p=some p:=by grind[kN,bf]
theorem qt (l:dm)(h:l.length<=10^9):ic l=some l:=by grind[ic,bf]
theorem xm (p:dq)(h:p.2.2.2.length<=10^9):jL p=some p:=by simp_all[jL,qt]
def jE (p:dq)(l:dm):dq:=(p.1,p.2.1,p.2.2.1,p.2.2.2++l)
def Fo (p:dq)(l:dm):Bool:=dL p&&dL (jE p l)
def Dp (p:dq)(l:dm):dq×Bool:=bif Fo p l then(jE p l,true) else(p,false)
theorem R4 (p:dq)(l:dm)(h:p.2.2.2.length+l.length<=10^9):iS p l=some (Dp p l):=by unfold iS;rw[zL p (by omega),ab,bf (by omega),vT p (by omega)];rw[vT (p.1,p.2.1,p.2.2.1,p.2.2.2++l) (by simp;omega)];show _=some (bif dL p&&dL (p.1,p.2.1,p.2.2.1,p.2.2.2++l) then _ else _);cases dL p<;>cases dL (p.1,p.2.1,p.2.2.1,p.2.2.2++l)<;>rfl
theorem Q5 (p:dq)(l:dm)(h:p.2.2.2.length+l.length<=10^9):hZ p l=some (Dp p l):=by unfold hZ;rw[xm p (by omega),ab,bf (by omega),Bf p (by omega)];rw[Bf (p.1,p.2.1,p.2.2.1,p.2.2.2++l) (by simp;omega)];show _=some (bif dL p&&dL (p.1,p.2.1,p.2.2.1,p.2.2.2++l) then _ else _);cases dL p<;>cases dL (p.1,p.2.1,p.2.2.1,p.2.2.2++l)<;>rfl
theorem ahg (p:dq)(l:dm):(Dp p l).2=Fo p l:=by grind[Dp]
def kh (n:Int)(s:nq):Bool:=dV s.2.1 1 n&&dV s.1 0 65535
def bC (l:ax nq):dm:=l.flatMap (·.2.2)
def dK (l:ax nq):Int:=(l.map (·.2.1)).sum
def Mv (t:cz):Bool:=dR t.1&&(dL t.2.1&&(dV t.2.2.2 0 65535&&(t.2.2.1.all (kh t.1.2.1)&&(Fo t.2.1 (bC t.2.2.1)&&decide (dK t.2.2.1<=t.1.2.1)))))
theorem Cb (n:Int):∀l:ax nq,l.all (kh n)=true->0<=dK l
 |[],_=>by simp[dK]
 |x::l,h=>by simp only[cx,ah]at h;have:=Cb n l h.2;grind[kh,aS,dK]
theorem Vb (p:dq)(n:Int)(hn:0<=n/\n<=16)(fin:Int×dm->aA Bool)(tt:∀s:Int×dm,p.2.2.2.length+s.2.length<=10^9->fin s=some (Fo p s.2&&decide (s.1<=n))):
 ∀(l:ax nq)(sum:Int)(acc:dm),0<=sum->sum+16*l.length<=100000000000->p.2.2.2.length+(acc.length+(bC l).length)<=10^9->
 BZ (λx (s:Int×dm) k=>cond (!(kh n x)) (some false) (room (s.2.length+x.2.2.length) (k (ar (s.1+x.2.1),s.2++x.2.2)))) fin l (sum,acc)
  =some (l.all (kh n)&&(Fo p (acc++bC l)&&decide (sum+dK l<=n)))
 |[],sum,acc,h0,h1,h2=>by simp_all[BZ,bC,dK]
 |x::l,sum,acc,h0,h1,h2=>by
  have hb:bC (x::l)=x.2.2++bC l:=by simp[bC]
  rw[hb,aq]at h2;rw[BZ,cx];cases hx:kh n x with
  |false=>rfl
  |true=>
   have Dv:=hx;unfold kh at Dv;simp only[ah,aS]at Dv;simp only[bp,Int.natCast_add,Int.natCast_one]at h1;simp only[aj,ae,bH];rw[bf (by omega),ak (by omega) (by omega),Vb p n hn fin tt l _ _ (by omega) (by omega) (by rw[aq];omega)];rw[hb,aG];have e:sum+x.2.1+dK l=sum+dK (x::l):=by grind[dK]
   rw[e]
theorem Uk (p:dq)(n:Int)(hn:n<=16)(fin:Int×dm->aA Bool)(tt:∀s:Int×dm,p.2.2.2.length+s.2.length<=10^9->fin s=some (Fo p s.2)):
 ∀(l:ax nq)(left:Int)(acc:dm),0<=left->left<=n->p.2.2.2.length+(acc.length+(bC l).length)<=10^9->
 BZ (λx (s:Int×dm) k=>cond (decide (x.2.1<1)||(decide (x.2.1>s.1)|| !(dV x.1 0 65535))) (some false) (room (s.2.length+x.2.2.length) (k (ar (s.1-x.2.1),s.2++x.2.2)))) fin l (left,acc)
  =some (l.all (kh n)&&(Fo p (acc++bC l)&&decide (dK l<=left)))
 |[],left,acc,h0,h1,h2=>by rw[BZ,tt _ (by exact h2)];simp[bC,dK,h0]
 |x::l,left,acc,h0,h1,h2=>by
  have hb:bC (x::l)=x.2.2++bC l:=by simp[bC]
  have hc:dK (x::l)=x.2.1+dK l:=by simp only[dK,fb,List.sum_cons]
  rw[hb,aq]at h2;rw[BZ,cx,hb,hc];by_cases c1:x.2.1<1;have e:kh n x=false:=by unfold kh dV;rw[aw (show¬1<=x.2.1 by omega)];rfl
  rw[e,az c1];rfl;rw[aw c1];by_cases c2:x.2.1>left;rw[az c2];cases ha:l.all (kh n)with|false=>simp|true=>have:=Cb n l ha;rw[aw (show¬x.2.1+dK l<=left by omega)];simp
  rw[aw c2];have e:kh n x=dV x.1 0 65535:=by have:dV x.2.1 1 n=true:=aS.2 ⟨by omega,by omega⟩;unfold kh;rw[this];rfl
  rw[e];cases dV x.1 0 65535 with
  |false=>rfl
  |true=>
   simp only[cM,aj,ae,bH];rw[bf (by omega),ak (by omega) (by omega),Uk p n hn fin tt l _ _ (by omega) (by omega) (by rw[aq];omega),aG];have e:decide (dK l<=left-x.2.1)=decide (x.2.1+dK l<=left):=by simp;omega
   rw[e]
theorem acj (t:cz)(h1:t.2.2.1.length<=10^9)(h2:t.2.1.2.2.2.length+(bC t.2.2.1).length<=10^9):Db t=some (Mv t):=by
 unfold Db Mv;simp only[Bu,vT _ (show t.2.1.2.2.2.length<=10^9 by omega),cR,ab,di];cases hr:dR t.1 with
 |false=>rfl
 |true=>
  have hn:0<=t.1.2.1/\t.1.2.1<=16:=by grind[dR,iK]
  have zj:=dD;have key:=C6 (T:=yN (λ(y9) (zo) (_)=>aa (iS t.2.1 zo) λre=>some (bif re.2 then decide (y9<=t.1.2.1) else false)) (λ(F0) (_) (_) (_)=>some F0) false t) t.2.2.1 (λ(s) i=>(s.1,s.2,(i))) (λx (s) k=>cond (!(kh t.1.2.1 x)) (some false) (room (s.2.length+x.2.2.length) (k (ar (s.1+x.2.1),s.2++x.2.2)))) (λs=>aa (iS t.2.1 s.2) λre=>some (re.2&&decide (s.1<=t.1.2.1))) (λi hi s nx=>by simp(disch:=omega)[yN,az,bw,ak,cR,kh]) (λs nx=>by grind[yN]) fuel 0 (0,([])) (by omega) (by omega);rw[fR,Vb t.2.1 t.1.2.1 hn _ (λs hs=>by grind[R4,ab,ahg]) _ _ _ (by omega) (by omega) (by simpa using h2)]at key;grind
theorem abd (t:cz)(h1:t.2.2.1.length<=10^9)(h2:t.2.1.2.2.2.length+(bC t.2.2.1).length<=10^9):C5 t=some (Mv t):=by
 unfold C5 Mv;simp only[Bg,Bf _ (show t.2.1.2.2.2.length<=10^9 by omega),dI,ab,di];cases hr:dR t.1 with
 |false=>rfl
 |true=>
  have hn:0<=t.1.2.1/\t.1.2.1<=16:=by grind[dR,iK]
  have zj:=dD;have key:=C6 (T:=ye (λ(_) (y9) (_)=>aa (hZ t.2.1 y9) λue=>some ue.2) (λ(Jn) (_) (_) (_)=>some Jn) false t.2.2.1 ((List.length t.2.2.1)) t) t.2.2.1 (λ(s) i=>(s.1,s.2,(i))) (λx (s) k=>cond (decide (x.2.1<1)||(decide (x.2.1>s.1)|| !(dV x.1 0 65535))) (some false) (room (s.2.length+x.2.2.length) (k (ar (s.1-x.2.1),s.2++x.2.2)))) (λs=>aa (hZ t.2.1 s.2) λre=>some re.2) (λi hi s nx=>by simp(disch:=omega)[ye,az,bw,ak,dI,di]) (λs nx=>by grind[ye]) fuel 0 (t.1.2.1,([])) (by omega) (by omega);rw[fR,Uk t.2.1 t.1.2.1 (by omega) _ (λs hs=>by grind[Q5,ab,ahg]) _ _ _ (by omega) (by omega) (by simpa using h2)]at key;grind
def ru (s:fu):Bool:=dV s.2.1 0 65535&&(dV s.2.2.1 0 65535&&(!decide ((List.length s.2.2.2.2.2.2.2:Int)>320)&&
 (bif s.1==17 then(s.2.2.2.1==0)&&((s.2.2.2.2.1==0)&&((s.2.2.2.2.2.1==0)&&(s.2.2.2.2.2.2.1==0)))
  else(s.1==6)&&(dV s.2.2.2.1 0 4294967295&&(dV s.2.2.2.2.1 0 4294967295&&(dV s.2.2.2.2.2.1 0 31&&dV s.2.2.2.2.2.2.1 0 65535))))))
theorem ady (s:fu):ub s=some (ru s):=by simp_all[ub,cR,di,Bool.and_assoc,ru]
theorem ac6 (s:fu):tG s=some (ru s):=by simp only[tG,dI,ab,di,cF,cT,cN,Bool.not_or,Bool.not_not,Bool.and_assoc,ru];by_cases h:s.1=17;rw[h];rfl;rw[show(s.1==17)=false from by simpa using h];cases s.1==6<;>rfl
def ET (f:Int):Bool:=(f==16)||(f==17)||(f==24)||(f==25)
theorem J8 (f:Int)(h:dV f 0 31=true):(ar (toNat (gm f&&&~~~ gm 9))==16)=ET f:=by
 have key:∀k:Fin 32,(ar (toNat (gm (k.val:Int)&&&~~~ gm 9))==16)=ET (k.val:Int):=by decide
 rw[aS]at h;have:=key ⟨f.toNat,by omega⟩;grind
theorem QA (f:Int)(h:dV f 0 31=true):tK f=some (ET f):=by
 have key:∀k:Fin 32,((ar (toNat (gm (k.val:Int)&&&gm 16)) !=0)&&(ar (toNat (gm (k.val:Int)&&&~~~ gm 25))==0))=ET (k.val:Int):=by decide
 rw[aS]at h;have:=key ⟨f.toNat,by omega⟩;rw[show((f.toNat:Nat):Int)=f by omega]at this;grind[tK,ab]
theorem I5 {s:fu}(h:ru s=true)(h6:(s.1==6)=true):dV s.2.2.2.2.2.1 0 31=true:=by grind[ru]
def sI (p:aH):Bool:=dV p.1 0 281474976710655&&(dV p.2.1 0 281474976710655&&(dV p.2.2.1 (-1) 4095&&(dV p.2.2.2.1 0 255&&(dV p.2.2.2.2.2.1 0 255&&(dV p.2.2.2.2.1 0 65535&&(dV p.2.2.2.2.2.2.1 0 4294967295&&(dV p.2.2.2.2.2.2.2.1 0 4294967295&&ru p.2.2.2.2.2.2.2.2)))))))
def cC (p:aH):Bool:=sI p&&(decide ((List.length p.2.2.2.2.2.2.2.2.2.2.2.2.2.2.2:Int)<=128)||(p.2.2.2.2.2.2.2.2.1==6)&&ET p.2.2.2.2.2.2.2.2.2.2.2.2.2.1)
theorem xP (h:sI p=true):ru p.2.2.2.2.2.2.2.2=true:=by grind[sI]
theorem uJ (p:aH):jo p=some (cC p):=by unfold jo cC;simp only[cR,ady,ab,di,cF,cT,cN,Bool.not_or,Bool.not_not];rw[show(dV p.1 0 281474976710655&&(dV p.2.1 0 281474976710655&&(dV p.2.2.1 (-1) 4095&&(dV p.2.2.2.1 0 255&&(dV p.2.2.2.2.2.1 0 255&&(dV p.2.2.2.2.1 0 65535&&(dV p.2.2.2.2.2.2.1 0 4294967295&&(dV p.2.2.2.2.2.2.2.1 0 4294967295&&ru p.2.2.2.2.2.2.2.2))))))))=sI p from rfl];grind[J8,I5,xP,Bool.or_comm]
theorem rZ (p:aH):iQ p=some (cC p):=by unfold iQ cC;simp only[dI,ac6,ab];grind[sI,QA,I5,ab]
def gG (q:MF):Bool:=dV q.1 0 130944&&(jW q.2.1&&dV q.2.2 0 (ar ((ar (2*q.2.1))-1)))
theorem NI (q:MF):qR q=some (gG q):=by grind[qR,cR,Gr,ab,gG]
theorem M7 (q:MF):qD q=some (gG q):=by grind[qD,dI,H9,ab,gG]
def agn:lJ:=((0,0,0,0,0,0,0,0,0,0,0,0,0,0,0,([]:Bytes)),0,0)
def ZS (p:lJ):Bool:=(p.1.1==0)&&((p.1.2.1==0)&&((p.1.2.2.1==0)&&((p.1.2.2.2.1==0)&&((p.1.2.2.2.2.1==0)&&((p.1.2.2.2.2.2.1==0)&&((p.1.2.2.2.2.2.2.1==0)&&((p.1.2.2.2.2.2.2.2.1==0)&&((p.1.2.2.2.2.2.2.2.2.1==0)&&((p.1.2.2.2.2.2.2.2.2.2.1==0)&&((p.1.2.2.2.2.2.2.2.2.2.2.1==0)&&((p.1.2.2.2.2.2.2.2.2.2.2.2.1==0)&&((p.1.2.2.2.2.2.2.2.2.2.2.2.2.1==0)&&((p.1.2.2.2.2.2.2.2.2.2.2.2.2.2.1==0)&&((p.1.2.2.2.2.2.2.2.2.2.2.2.2.2.2.1==0)&&((p.1.2.2.2.2.2.2.2.2.2.2.2.2.2.2.2==([]:Bytes))&&((p.2.1==0)&&((p.2.2==0)&&true)))))))))))))))))
def FP (r:aW):Bool:=(dR r.1&&(gG r.2.1&&(gG r.2.2.1&&((r.2.1.1==r.2.2.1.1)&&((r.2.1.2.1==r.2.2.1.2.1)&&dV r.2.2.2.2.2 0 1000000000000)))))&&
 (bif r.2.2.2.2.1 then cC r.2.2.2.1.1&&(dV r.2.2.2.1.2.1 0 320&&dV r.2.2.2.1.2.2 1 320) else ZS r.2.2.2.1)
theorem ai5 (p:lJ):ZS p=true↔p=agn:=by grind[ZS,agn]
theorem WM (r:aW):zU r=some (FP r):=by unfold zU FP ZS;simp_all[Bu,NI,cR,uJ,di,bne]
theorem Q8 (r:aW):xt r=some (FP r):=by unfold xt FP ZS;simp_all[Bg,M7,dI,rZ,di,bne]
def fy (v:Vector):Bool:=(ji v).getD false
theorem tV (v:Vector):ji v=some (fy v):=by simp_all[ji,uc,cR,di,fy]
theorem Dx (v:Vector):ox v=some (fy v):=tV v
theorem Ny (l:ax α)(p:α->Bool):(range l.length).all (λi=>l[i]?.all p)=l.all p:=by rw[gx,aO,aO];constructor;intro h x hx;obtain⟨i,hi,rfl⟩:=fO hx;have:=h i (cP.2 hi);rwa[ay hi]at this;intro h i hi;rw[ay (cP.1 hi)];exact h _ (bn _)
theorem acH (l:ax α)(p q:α->Bool):l.all (λx=>p x&&q x)=(l.all p&&l.all q):=by grind
def iI (h:Host):dm:=[h.2.2.2.2.2.2.2.2.2.2.2.2.2.2.1,h.2.2.2.2.2.2.2.2.2.2.2.2.2.2.2.1,h.2.2.2.2.2.2.2.2.2.2.2.2.2.2.2.2.1,h.2.2.2.2.2.2.2.2.2.2.2.2.2.2.2.2.2.1,h.2.2.2.2.2.2.2.2.2.2.2.2.2.2.2.2.2.2]
def qv (h:Host):Bool:=dV (h.2.2.2.1.length:Int) 1 2&&(((h.2.2.2.2.1.length:Int)==(h.2.2.2.1.length:Int))&&(((h.2.2.2.2.2.1.length:Int)==(h.2.2.2.1.length:Int))&&((h.2.2.2.2.2.2.1.length:Int)==(h.2.2.2.1.length:Int))))
def UU (h:Host):Bool:=h.2.2.2.1.all FP&&(h.2.2.2.2.1.all dL&&h.2.2.2.2.2.1.all fy)
def eU (h:Host):Bool:=dk h.1&&(fW h.2.1&&(Mv h.2.2.1&&(mY h.2.2.2.2.2.2.2.1&&(qv h&&(eX h.2.2.2.2.2.2.2.2.1 (h.2.2.2.1.length:Int)&&(UU h&&(iI h).all (λx=>dV x 0 1000000000000)))))))
structure JU (h:Host):Prop where
 a1:h.1.length<=10^9
 a2:h.2.1.length<=10^9
 t1:h.2.2.1.2.2.1.length<=10^9
 t2:h.2.2.1.2.1.2.2.2.length+(bC h.2.2.1.2.2.1).length<=10^9
 f1:h.2.2.2.2.2.2.2.1.2.2.length<=10^9
 s1:h.2.2.2.2.2.2.2.2.1.1.length<=10^9
 s2:h.2.2.2.2.2.2.2.2.1.2.1.length<=10^9
 s3:h.2.2.2.2.2.2.2.2.1.2.2.2.length<=10^9
 p1:∀p∈h.2.2.2.2.1,p.2.2.2.length<=10^9
theorem qI (l:qv h=true):h.2.2.2.1.length<=2/\h.2.2.2.2.1.length=h.2.2.2.1.length/\h.2.2.2.2.2.1.length=h.2.2.2.1.length/\h.2.2.2.2.2.2.1.length=h.2.2.2.1.length:=by grind[qv,aS]
theorem UW {T:(Int->aA R)->Int->aA R}{fin hit:aA R}(l:qv h=true)(hs:∀i (hi:i<h.2.2.2.1.length) nx,T nx (i:Int)=cond (!(FP h.2.2.2.1[i]&&(dL (h.2.2.2.2.1[i]'((qI l).2.1▸hi))&&fy (h.2.2.2.2.2.1[i]'((qI l).2.2.1▸hi))))) hit (nx ((i+1:Nat):Int)))(hf:∀nx,T nx (h.2.2.2.1.length:Int)=fin):aZ T fuel 0=cond (UU h) fin hit:=by
 have hl:=qI l;rw[rU (fin:=fin) (hit:=hit) (λi=>h.2.2.2.1[i]?.all FP&&(h.2.2.2.2.1[i]?.all dL&&h.2.2.2.2.2.1[i]?.all fy)) h.2.2.2.1.length (by omega) ?hs hf]
 case hs=>
  grind
 rw[acH,acH,Ny];have e1:=Ny h.2.2.2.2.1 dL;have e2:=Ny h.2.2.2.2.2.1 fy;rw[hl.2.1]at e1;rw[hl.2.2.1]at e2;rw[e1,e2];rfl
theorem NW {T:(Int->aA R)->Int->aA R}{fin hit:aA R}(h:Host)(hs:∀i (hi:i<(iI h).length) nx,T nx (i:Int)=cond (!(dV (iI h)[i] 0 1000000000000)) hit (nx ((i+1:Nat):Int)))(hf:∀nx,T nx ((iI h).length:Int)=fin):aZ T fuel 0=cond ((iI h).all (λx=>dV x 0 1000000000000)) fin hit:=rT (λx=>dV x 0 1000000000000) (iI h) (by simp[iI]) hs hf
theorem ry (h:Host)(z:JU h):jd h=some (eU h):=by
 unfold jd eU;simp only[GH _ z.a1,Md _ z.a2,acj _ z.t1 z.t2,GG _ z.f1,Cx _ _ z.s1 z.s2 z.s3,cR,ab,di];cases dk h.1;rfl;cases fW h.2.1;rfl;cases Mv h.2.2.1;rfl;cases mY h.2.2.2.2.2.2.2.1;rfl;simp only[aj,ae,cT,bne];rw[show(!dV (h.2.2.2.1.length:Int) 1 2||(!((h.2.2.2.2.1.length:Int)==(h.2.2.2.1.length:Int))||(!((h.2.2.2.2.2.1.length:Int)==(h.2.2.2.1.length:Int))||(!((h.2.2.2.2.2.2.1.length:Int)==(h.2.2.2.1.length:Int))|| !eX h.2.2.2.2.2.2.2.2.1 (h.2.2.2.1.length:Int)))))= !(qv h&&eX h.2.2.2.2.2.2.2.2.1 (h.2.2.2.1.length:Int)) by unfold qv;simp only[Bool.not_and,Bool.or_assoc]];cases hl:qv h;rfl;cases eX h.2.2.2.2.2.2.2.2.1 (h.2.2.2.1.length:Int);rfl;have hL:=qI hl;simp only[jw,aj,ae,bH];rw[UW (h:=h) (hit:=some false) (fin:=some ((iI h).all (λx=>dV x 0 1000000000000))) hl ?hs ?hf]
 case hs=>
  intro i hi nx
  simp only[yE]
  rw[kW,bw hi,bw (hL.2.1▸hi),bw (hL.2.2.1▸hi),ak (n:=(i:Int)+1) (by omega) (by omega)]
  simp only[af,ab,WM,tV,vT _ (z.p1 _ (bn _)),di,cT,Bool.not_and]
  rfl
 case hf=>
  intro nx
  simp only[yE]
  rw[ie]
  simp only[ae]
  refine(NW (fin:=some true) (hit:=some false) h ?_ ?_).trans ?_
  ·intro i hi nx
   simp only[wK]
   have xQ:i<5:=hi
   change (bif decide ((i:Int)<5) then aa (idx (iI h) (i:Int)) _ else _)=_
   rw[kW,bw hi,ak (n:=(i:Int)+1) (by omega) (by omega),ab,cR]
   rfl
  ·intro nx
   simp only[wK]
   rw[aw (by simp[iI])];rfl
  ·cases (iI h).all (λx=>dV x 0 1000000000000)<;>rfl
 cases UU h<;>rfl
theorem vG (h:Host)(z:JU h):jc h=some (eU h):=by
 unfold jc eU;simp only[Kj _ z.a1,Lh _ z.a2,abd _ z.t1 z.t2,Q2 _ z.f1,Lm _ _ z.s1 z.s2 z.s3,dI,ab,di];cases dk h.1;rfl;cases fW h.2.1;rfl;cases Mv h.2.2.1;rfl;cases mY h.2.2.2.2.2.2.2.1;rfl;simp only[aj,ae,cT,bne];rw[show(!dV (h.2.2.2.1.length:Int) 1 2||(!((h.2.2.2.2.1.length:Int)==(h.2.2.2.1.length:Int))||(!((h.2.2.2.2.2.1.length:Int)==(h.2.2.2.1.length:Int))|| !((h.2.2.2.2.2.2.1.length:Int)==(h.2.2.2.1.length:Int)))))= !(qv h) by unfold qv;simp only[Bool.not_and]];cases hl:qv h;rfl;have hL:=qI hl;simp only[aj,ae,bH];rw[UW (h:=h) (hit:=some false) (fin:=some ((iI h).all (λx=>dV x 0 1000000000000)&&eX h.2.2.2.2.2.2.2.2.1 (h.2.2.2.1.length:Int))) hl ?hs ?hf]
 case hs=>
  intro i hi nx
  simp only[xX]
  rw[kW,bw hi,bw (hL.2.1▸hi),bw (hL.2.2.1▸hi),ak (n:=(i:Int)+1) (by omega) (by omega)]
  simp only[af,ab,Q8,Dx,Bf _ (z.p1 _ (bn _)),di,cT,Bool.not_and]
  rfl
 case hf=>
  intro nx
  simp only[xX]
  rw[ie]
  simp only[ae]
  refine(NW (fin:=some (eX h.2.2.2.2.2.2.2.2.1 (h.2.2.2.1.length:Int))) (hit:=some false) h ?_ ?_).trans ?_
  ·intro i hi nx
   simp only[wA]
   have xQ:i<5:=hi
   change (bif decide ((i:Int)<5) then aa (idx (iI h) (i:Int)) _ else _)=_
   rw[kW,bw hi,ak (n:=(i:Int)+1) (by omega) (by omega),ab,dI]
   rfl
  ·intro nx
   simp only[wA]
   rw[aw (by simp[iI])];rfl
  ·cases (iI h).all (λx=>dV x 0 1000000000000)<;>rfl
 cases UU h<;>cases eX h.2.2.2.2.2.2.2.2.1 (h.2.2.2.1.length:Int)<;>cases (iI h).all (λx=>dV x 0 1000000000000)<;>rfl
def adO (a b:Int):Int:=(qM a b).getD 0
theorem PE (a b:Int):qM a b=some (adO a b):=by grind[adO,qM,cR,ab]
theorem Yl (a b:Int):Cj a b=some (adO a b):=PE a b
theorem ajn {b:Int}(h:0<=a/\a<=65535)(k:0<=b/\b<=65535):0<=adO a b/\adO a b<=65535:=by have e:=PE a b;simp only[qM,cR,ab,aS.2 h,aS.2 k,aj,ae]at e;rw[ak (n:=a+b) (by omega) (by omega)]at e;by_cases hc:a+b>65535;rw[az hc,af,ak (by omega) (by omega)]at e;rw[<-bQ e];omega;rw[aw hc,ae]at e;rw[<-bQ e];omega
def sw (s:Bytes):Nat->Int
 |0=>0
 |j+1=>adO (sw s j) ((bV s (2*j)*256+bV s (2*j+1):Nat):Int)
theorem adD (s:Bytes):∀j,0<=sw s j/\sw s j<=65535
 |0=>by simp[sw]
 |j+1=>by have b0:=gq s (2*j);have b1:=gq s (2*j+1);exact ajn (adD s j) (by omega)
theorem JZ {i:Nat}(h:s.length<=i:=by omega):bV s i=0:=by simp_all[bV]
theorem akv (s:Bytes)(h:s.length<=10^9):AU s=some (sw s ((s.length+1)/2)):=by
 unfold AU;refine dA (λj=>(sw s j,((2*j:Nat):Int))) ((s.length+1)/2) (by omega) (λj nx hj=>?_) (λnx=>?_);have b0:=gq s (2*j);have b1:=gq s (2*j+1);obtain⟨x,hx,ex⟩:=lM (s:=s) (i:=2*j);simp only[uU];rw[kW,af,hx,ab,lH,ak (n:=((2*j:Nat):Int)+1) (by omega) (by omega),ak (n:=((2*j:Nat):Int)+2) (by omega) (by omega),ex,gZ (by omega)];have e8:ql 8=8:=rfl;have en:((2*j:Nat):Int)+2=((2*(j+1):Nat):Int):=by omega
 rw[e8,ak (n:=((bV s (2*j):Nat):Int)*2^8) (by omega) (by omega)];by_cases hc:2*j+1<s.length;obtain⟨y,hy,ey⟩:=lM (s:=s) (i:=2*j+1) hc;rw[kW,af,show((2*j:Nat):Int)+1=((2*j+1:Nat):Int) by omega,hy,ab,ey,gZ (n:=bV s (2*j+1)) (by omega),ak (by omega) (by omega),PE,ab,en,show((bV s (2*j):Nat):Int)*2^8+((bV s (2*j+1):Nat):Int)=((bV s (2*j)*256+bV s (2*j+1):Nat):Int) by omega];rfl;have hz:=JZ (s:=s) (i:=2*j+1);rw[ie,ae,PE,ab,en,show((bV s (2*j):Nat):Int)*2^8=((bV s (2*j)*256+bV s (2*j+1):Nat):Int) by rw[hz];omega];rfl;simp only[uU];rw[ie];rfl
theorem ajU (s:Bytes)(h:s.length<=10^9):Ax s=some (sw s ((s.length+1)/2)):=by
 unfold Ax;refine dA (λj=>(sw s j,((2*j:Nat):Int))) ((s.length+1)/2) (by omega) (λj nx hj=>?_) (λnx=>?_);have b0:=gq s (2*j);have b1:=gq s (2*j+1);obtain⟨x,hx,ex⟩:=lM (s:=s) (i:=2*j);simp only[uz];rw[kW,af,hx,ab,lH,ak (n:=((2*j:Nat):Int)+1) (by omega) (by omega),ak (n:=((2*j:Nat):Int)+2) (by omega) (by omega),ex,gZ (by omega)];have e8:ql 8=8:=rfl;have en:((2*j:Nat):Int)+2=((2*(j+1):Nat):Int):=by omega
 rw[e8,show((bV s (2*j):Nat):Int)*2^8=((2^8*bV s (2*j):Nat):Int) by omega,gZ (n:=2^8*bV s (2*j)) (by omega)];by_cases hc:2*j+1<s.length;obtain⟨y,hy,ey⟩:=lM (s:=s) (i:=2*j+1) hc;rw[kW,af,show((2*j:Nat):Int)+1=((2*j+1:Nat):Int) by omega,hy,ab,ey,gZ (n:=bV s (2*j+1)) (by omega),Kr (bV s (2*j)) 8 (bV s (2*j+1)),Yl,ab,en,show 2^8*bV s (2*j)+bV s (2*j+1)=bV s (2*j)*256+bV s (2*j+1) by omega];rfl;have hz:=JZ (s:=s) (i:=2*j+1);rw[ie,ae,Yl,ab,en,show((2^8*bV s (2*j):Nat):Int)=((bV s (2*j)*256+bV s (2*j+1):Nat):Int) by rw[hz];omega];rfl;simp only[uz];rw[ie];rfl
def MO (s:Bytes):Int:=65535-sw s ((s.length+1)/2)
theorem L6 (s:Bytes)(h:s.length<=10^9):mu s=some (MO s):=by have:=adD s ((s.length+1)/2);simp only[mu,akv s h,ab];rw[ak (by omega) (by omega)];rfl
theorem Py (s:Bytes)(h:s.length<=10^9):kH s=some (MO s):=by have:=adD s ((s.length+1)/2);simp only[kH,ajU s h,ab];rw[ak (by omega) (by omega)];rfl
def vz (s:Bytes)(a:Int)(p:Bytes):Bytes:=bif gv s a (p.length:Int) then(s.take a.toNat++p)++s.drop (a.toNat+p.length) else s
theorem vS (s:Bytes)(a:Int)(p:Bytes):(vz s a p).length=s.length:=by grind[vz,gv]
theorem Ze (s:Bytes)(a:Int)(p:Bytes)(h:s.length<=10^9)(hw:gv s a (p.length:Int)=true): (aa (sub s 0 a) λx2=>room (List.length x2+List.length p) (aa (sub s (ar (a+((List.length p:Int)))) ((List.length s:Int))) λx3=>room (List.length (x2++p)+List.length x3) (some ((x2++p)++x3))))=some (vz s a p):=by
 have hw':=hw;simp only[gv,bE]at hw';obtain⟨n,rfl⟩:=au hw'.1;have e1:sub s 0 (n:Int)=some (s.take n):=by grind[sub]
 have e2:sub s (((n+p.length:Nat):Int)) (s.length:Int)=some (s.drop (n+p.length)):=by grind[sub,cQ]
 rw[e1,ak (by omega) (by omega),show(n:Int)+(p.length:Int)=((n+p.length:Nat):Int) by omega,e2,ab,bf (by grind),ab,bf (by grind)];grind[vz]
theorem EG (s:Bytes)(a:Int)(p:Bytes)(h:s.length<=10^9):fH s a p=some (vz s a p):=by grind[fH,Ii,ab,vz,Ze]
theorem Gi (s:Bytes)(a:Int)(p:Bytes)(h:s.length<=10^9:=by omega)(hp:p.length<=10^9:=by omega):gO s a p=some (vz s a p):=by
 unfold gO;rw[ak (n:=(s.length:Int)-(p.length:Int)) (by omega) (by omega)];cases hw:gv s a (p.length:Int)with
 |true=>have hw':=hw;simp only[gv,bE]at hw';rw[aw (show¬a<0 by omega),aw (show¬a>(s.length:Int)-(p.length:Int) by omega)];exact Ze s a p h hw
 |false=>
  have hp:vz s a p=s:=by grind[vz]
  rw[hp];simp only[gv,dh]at hw;by_cases h0:a<0;all_goals simp(disch:=omega)[az]
def bs2 (x y:Int):Bytes:=aR [x,y]
theorem Pj (x y:Int):(bs2 x y).length=2:=rfl
def yu (a b k n:Int):Bool:=dV a 0 4294967295&&(dV b 0 4294967295&&(dV k 0 255&&dV n 0 65535))
def yt (a b k n:Int):Bytes:=((cn a++cn b)++bs2 0 (gR k))++aF n
theorem I0 (a b k n:Int):(yt a b k n).length<=12:=by grind[eR,bR,yt,Pj]
theorem GJ (a b k n:Int):lu a b k n=some (bif yu a b k n then(yt a b k n,true) else([],false)):=by have:=eR a;have:=eR b;have:=bR n;unfold lu yu;simp only[cR,ab,mS,ja];cases dV a 0 4294967295;rfl;cases dV b 0 4294967295;rfl;cases dV k 0 255;rfl;cases dV n 0 65535;rfl;simp only[aj,ae,du,af,ab];have e:(aR [0,gR k]).length=2:=rfl;rw[bf (by omega),bf (by grind),bf (by grind)];rfl
theorem Q7 (a b k n:Int):sP a b k n=some (bif yu a b k n then(yt a b k n,true) else([],false)):=GJ a b k n
def bare (g:fu):Bytes:=bif g.1==6 then
    (((((aF g.2.1++aF g.2.2.1)++cn g.2.2.2.1)++cn g.2.2.2.2.1)++bs2 80 (gR g.2.2.2.2.2.1))++aF g.2.2.2.2.2.2.1)++cn 0++g.2.2.2.2.2.2.2
 else(((aF g.2.1++aF g.2.2.1)++aF (8+(g.2.2.2.2.2.2.2.length:Int)))++aF 0)++g.2.2.2.2.2.2.2
theorem KO (g:fu):(bare g).length<=20+g.2.2.2.2.2.2.2.length:=by have:=bR g.2.1;have:=bR g.2.2.1;have:=eR g.2.2.2.1;have:=eR g.2.2.2.2.1;have:=bR g.2.2.2.2.2.2.1;have:=eR 0;have:=bR 0;have:=bR (8+(g.2.2.2.2.2.2.2.length:Int));unfold bare;cases g.1==6<;>simp only[af,ae,aq,Pj]<;>omega
theorem NO:aF 0++aF 0=cn 0:=by rfl
theorem ahE (g:fu)(h:g.2.2.2.2.2.2.2.length<=1000000):uE g=some (bare g):=by have:=bR g.2.1;have:=bR g.2.2.1;have:=eR g.2.2.2.1;have:=eR g.2.2.2.2.1;have:=bR g.2.2.2.2.2.2.1;have:=bR 0;have:=bR (8+(g.2.2.2.2.2.2.2.length:Int));have e:∀x,(aR [80,gR x]).length=2:=λ_=>rfl;unfold uE bare;rw[ak (n:=8+(g.2.2.2.2.2.2.2.length:Int)) (by omega) (by omega)];simp only[mJ,Dy,ab];rw[bf (by omega)];cases g.1==6 with|true=>simp only[af];rw[bf (by simp only[aq,e];omega),bf (by simp only[aq,e];omega),bf (by simp only[aq,e];omega),bf (by simp only[aq,e];omega),bf (by simp only[aq,e];omega),bf (by simp only[aq,e];omega),bf (by simp only[aq,e];omega)];rw[<-NO];simp only[bs2,aG]|false=>simp only[ae];rw[bf (by simp only[aq];omega),bf (by simp only[aq];omega),bf (by simp only[aq];omega)]
def JQ (a b:Int)(g:fu):Int:=bif (MO (yt a b g.1 ((bare g).length:Int)++bare g)==0)&&(g.1==17) then 65535 else MO (yt a b g.1 ((bare g).length:Int)++bare g)
def zy (a b:Int)(g:fu):Bytes:=vz (bare g) (bif g.1==6 then 16 else 6) (aF (JQ a b g))
def zO (a b:Int)(g:fu):Bool:=ru g&&yu a b g.1 ((bare g).length:Int)
def zP (a b:Int)(g:fu):Bytes×Bool:=bif zO a b g then(zy a b g,true) else([],false)
theorem DM (h:ru g=true):g.2.2.2.2.2.2.2.length<=320:=by grind[ru]
theorem Ih (a b:Int)(g:fu):lq a b g=some (zP a b g):=by
 unfold lq zP zO;rw[ady,ab];cases hg:ru g;rfl;have hb:=DM hg;have hl:=KO g;have hp:=I0 a b g.1 ((bare g).length:Int);have:=bR g.2.1;have:=bR g.2.2.1;have:=eR g.2.2.2.1;have:=eR g.2.2.2.2.1;have:=bR g.2.2.2.2.2.2.1;have:=eR 0;have:=bR 0;have:=bR (8+(g.2.2.2.2.2.2.2.length:Int));have e:∀x,(aR [80,gR x]).length=2:=λ_=>rfl;rw[ak (n:=8+(g.2.2.2.2.2.2.2.length:Int)) (by omega) (by omega)];simp only[ja,mS,ab,aj,ae,bH];rw[bf (by omega)];cases h6:g.1==6 with
 |true=>
  have ahj:bare g=(((((aF g.2.1++aF g.2.2.1)++cn g.2.2.2.1)++cn g.2.2.2.2.1)++aR [80,gR g.2.2.2.2.2.1])++aF g.2.2.2.2.2.2.1)++cn 0++g.2.2.2.2.2.2.2:=by unfold bare;rw[h6];rfl
  simp only[af];rw[bf (by grind),bf (by grind),bf (by grind),bf (by grind),bf (by grind),bf (by grind),<-ahj,GJ,ab];cases yu a b g.1 ((bare g).length:Int);rfl;simp only[af,aj,ae];rw[bf (by omega),L6 _ (by grind)];simp only[ab,di,EG _ _ _ (show(bare g).length<=10^9 by omega),zy,JQ,h6,af,cF];cases (MO (yt a b g.1 ((bare g).length:Int)++bare g)==0)&&(g.1==17)<;>rfl
 |false=>
  have ahj:bare g=(((aF g.2.1++aF g.2.2.1)++aF (8+(g.2.2.2.2.2.2.2.length:Int)))++aF 0)++g.2.2.2.2.2.2.2:=by unfold bare;rw[h6];rfl
  simp only[ae];rw[bf (by simp_all;omega),bf (by simp_all;omega),bf (by simp_all;omega),<-ahj,GJ,ab];cases yu a b g.1 ((bare g).length:Int);rfl;simp only[af,aj,ae];rw[bf (by omega),L6 _ (by simp_all;omega)];simp only[ab,di,EG _ _ _ (show(bare g).length<=10^9 by omega),zy,JQ,h6,ae,cF];cases (MO (yt a b g.1 ((bare g).length:Int)++bare g)==0)&&(g.1==17)<;>rfl
theorem HS (a b:Int)(g:fu):lg a b g=some (zP a b g):=by
 unfold lg zP zO;rw[ac6,ab];cases hg:ru g;rfl;have hb:=DM hg;have hl:=KO g;have hp:=I0 a b g.1 ((bare g).length:Int);have ME:gz g.1=some (bif g.1==6 then 16 else 6):=by unfold gz;rw[di]
 have w1:=bR 65535;have w2:=bR (MO (yt a b g.1 ((bare g).length:Int)++bare g));simp only[ahE g (by omega),Q7,ab,aj,ae,bH];cases yu a b g.1 ((bare g).length:Int);rfl;simp only[af,aj,ae];rw[bf (by omega),Py _ (by grind)];simp only[ab,di,ME,mJ,Gi _ _ _ (show(bare g).length<=10^9 by omega) (show(aF 65535).length<=10^9 by omega),Gi _ _ _ (show(bare g).length<=10^9 by omega) (show(aF (MO (yt a b g.1 ((bare g).length:Int)++bare g))).length<=10^9 by omega),zy,JQ,cF];grind
theorem WC (a b:Int)(g:fu):(zP a b g).1.length<=340:=by unfold zP;cases h:zO a b g with|false=>exact cU _|true=>simp only[zO,ah]at h;have:=DM h.1;have:=KO g;show(vz _ _ _).length<=340;rw[vS];omega
def Up (d:Ip):Bool:=dV d.1 0 255&&(dV d.2.2.1 0 255&&(dV d.2.2.2.1 0 255&&(dV d.2.1 0 65535&&(dV d.2.2.2.2.1 0 4294967295&&(dV d.2.2.2.2.2.1 0 4294967295&&decide ((d.2.2.2.2.2.2.length:Int)<=380))))))
theorem ZF (d:Ip):Jb d=some (Up d):=by simp_all[Jb,cR,di,Up]
theorem ahL (d:Ip):M9 d=some (Up d):=ZF d
def B6 (d:Ip):Bytes:=((((((bs2 69 (gR d.1)++aF (20+(d.2.2.2.2.2.2.length:Int)))++aF d.2.1)++aF 16384)++bs2 (gR d.2.2.1) (gR d.2.2.2.1))++aF 0)++cn d.2.2.2.2.1)++cn d.2.2.2.2.2.1
theorem Rd (d:Ip):(B6 d).length<=20:=by have:=bR (20+(d.2.2.2.2.2.2.length));have:=bR d.2.1;have:=bR 16384;have:=bR 0;have:=eR d.2.2.2.2.1;have:=eR d.2.2.2.2.2.1;simp_all[B6,Pj];omega
def yn (d:Ip):Bytes:=vz (B6 d) 10 (aF (MO (B6 d)))
theorem acb (d:Ip):AN d=some (bif Up d then(yn d,true) else([],false)):=by
 unfold AN;rw[ZF,ab];cases hd:Up d;rfl;have hn:(d.2.2.2.2.2.2.length)<=380:=by grind[Up]
 have:=bR (20+(d.2.2.2.2.2.2.length));have:=bR d.2.1;have:=bR 16384;have:=bR 0;have:=eR d.2.2.2.2.1;have:=eR d.2.2.2.2.2.1;have hl:=Rd d;have e:∀x y,(aR [x,y]).length=2:=λ_ _=>rfl;rw[ak (by omega) (by omega)];simp only[ja,mS,ab,aj,ae,af];rw[bf (by grind),bf (by grind),bf (by simp_all;omega),bf (by simp_all;omega),bf (by simp_all;omega),bf (by simp_all;omega),bf (by simp_all;omega)];have hp:((((((aR [69,gR d.1]++aF (20+(d.2.2.2.2.2.2.length)))++aF d.2.1)++aF 16384)++aR [gR d.2.2.1,gR d.2.2.2.1])++aF 0)++cn d.2.2.2.2.1)++cn d.2.2.2.2.2.1=B6 d:=rfl;rw[hp,L6 _ (by omega),ab,EG _ _ _ (by omega)];rfl
theorem aa8 (d:Ip):Ar d=some (bif Up d then(yn d,true) else([],false)):=by
 unfold Ar;rw[ahL,ab];cases hd:Up d;rfl;have hn:(d.2.2.2.2.2.2.length)<=380:=by grind[Up]
 have:=bR (20+(d.2.2.2.2.2.2.length));have:=bR d.2.1;have:=bR 16384;have:=bR 0;have:=eR d.2.2.2.2.1;have:=eR d.2.2.2.2.2.1;have hl:=Rd d;have hw:=bR (MO (B6 d));have e:∀x y,(aR [x,y]).length=2:=λ_ _=>rfl;rw[ak (by omega) (by omega)];simp only[mJ,Dy,ab,aj,ae,af];rw[bf (by grind),bf (by grind),bf (by simp_all;omega),bf (by simp_all;omega),bf (by simp_all;omega),bf (by simp_all;omega),bf (by simp_all;omega)];have hp:((((((aR [69,gR d.1]++aF (20+(d.2.2.2.2.2.2.length)))++aF d.2.1)++aF 16384)++aR [gR d.2.2.1,gR d.2.2.2.1])++aF 0)++cn d.2.2.2.2.1)++cn d.2.2.2.2.2.1=B6 d:=rfl;rw[hp,Py _ (by omega),ab,Gi _ _ _];rfl
def W8 (d:Ip):Bytes×Bool:=bif Up d then(yn d++d.2.2.2.2.2.2,true) else([],false)
theorem Nb (d:Ip):(yn d).length<=20:=by grind[yn,vS,Rd]
theorem aiU (d:Ip):yz d=some (W8 d):=by grind[yz,W8,acb,ab,Up,Nb,bf]
theorem ahK (d:Ip):xS d=some (W8 d):=by grind[xS,W8,aa8,ab,Up,Nb,bf]
def zA (n:Nat):Bytes:=aR (List.replicate n (0:Int))
theorem xF (n:Nat):(zA n).length=n:=by simp[zA,aR]
theorem R5 (n:Nat)(h:n<=10^9:=by omega):jT (n:Int) 0=some (zA n):=by unfold jT;rw[zip,bf (by omega),aC];refine dA (λi=>(List.replicate n (0),(i:Int))) n (by omega) (λi nx hi=>?_) (λnx=>?_);simp only[rH];rw[kW,bw (by simpa using hi),ak (by omega) (by omega)];simp only[af,ab,aC,List.set_replicate_self];rfl;simp only[rH];rw[ie];rfl
theorem ajT (n:Nat)(h:n<=10^9):xv 0 (n:Int)=some (zA n):=by unfold xv;rw[zip,bf (by omega),aC];refine dA (λi=>(List.replicate n (0),(i:Int))) n (by omega) (λi nx hi=>?_) (λnx=>?_);simp only[yk];rw[az (by simp;omega),bw (by simpa using hi),ak (by omega) (by omega)];simp only[af,ab,aC,List.set_replicate_self];rfl;simp only[yk];rw[aw (by simp)];rfl
def pad (s:Bytes):Bytes:=if s.length<46 then s++zA (46-s.length) else s
theorem LJ (s:Bytes):(pad s).length=max 46 s.length:=by grind[pad,xF]
theorem aku (s:Bytes)(h:s.length<=10^9):CA s=some (pad s):=by unfold CA pad;by_cases hc:s.length<46;rw[kW,aI hc,ak (by omega) (by omega),show(46:Int)-(s.length)=((46-s.length:Nat)) by omega,R5 _];simp only[af,ab];rw[bf (by rw[xF];omega)];rw[ie,aK hc];rfl
theorem ajR (s:Bytes)(h:s.length<=10^9):Cn s=some (pad s):=by unfold Cn pad;by_cases hc:s.length<46;rw[ie,aI hc,ak (by omega) (by omega),show(46:Int)-(s.length)=((46-s.length:Nat)) by omega,ajT _ (by omega)];simp only[ae,ab];rw[bf (by rw[xF];omega)];rw[kW,aK hc];rfl
def xb (e:PN):Bool:=dV e.1 0 281474976710655&&(dV e.2.1 0 281474976710655&&(dV e.2.2.1 (-1) 4095&&(dV e.2.2.2.1 1536 65535&&((e.2.2.2.1 !=33024)&&dV (e.2.2.2.2.length:Int) 46 400))))
theorem NG (e:PN):zS e=some (xb e):=by simp_all[zS,cR,di,xb]
theorem Ug (e:PN):Dz e=some (xb e):=NG e
def xJ (a:Int):Bytes:=(jq a).getD []
theorem EF (a:Int):jq a=some (xJ a)/\(xJ a).length<=6:=by
 have h:∃x,jq a=some x/\x.length<=6:=by unfold jq;simp only[ja,mS,ab];have h1:=bR (fdiv a (2^(ql 32)));grind[eR,bf]
 grind[xJ]
theorem ajQ (a:Int):Ay a=some (xJ a):=(EF a).1
def Eg (e:PN):Bytes:=(bif decide (e.2.2.1>=0) then(((xJ e.1++xJ e.2.1)++aF 33024)++aF e.2.2.1) else xJ e.1++xJ e.2.1)++aF e.2.2.2.1++e.2.2.2.2
theorem ag7 (e:PN):(Eg e).length<=18+e.2.2.2.2.length:=by have:=(EF e.1).2;have:=(EF e.2.1).2;grind[bR,Eg]
def SL (e:PN):Bytes×Bool:=bif xb e then(Eg e,true) else([],false)
theorem aks (e:PN):AG e=some (SL e):=by
 unfold AG SL;rw[NG,ab];cases he:xb e;rfl;have hn:(e.2.2.2.2.length)<=400:=by grind[xb,aS]
 have:=(EF e.1).2;have:=(EF e.2.1).2;have:=bR 33024;have:=bR e.2.2.1;have:=bR e.2.2.2.1;simp only[(EF _).1,ja,ab,aj,ae,af,Eg];grind[bf]
theorem ajO (e:PN):Ah e=some (SL e):=by
 unfold Ah SL;rw[Ug,ab];cases he:xb e;rfl;have hn:(e.2.2.2.2.length)<=400:=by grind[xb,aS]
 have:=(EF e.1).2;have:=(EF e.2.1).2;have:=bR 33024;have:=bR e.2.2.1;have:=bR e.2.2.2.1;simp only[ajQ,mJ,ab,aj,ae,af,Eg];grind[bf]
def Hl (p:aH):Bytes×Bool:=zP p.2.2.2.2.2.2.1 p.2.2.2.2.2.2.2.1 p.2.2.2.2.2.2.2.2
def Uq (p:aH):Bytes×Bool:=W8 (p.2.2.2.1,p.2.2.2.2.1,p.2.2.2.2.2.1,p.2.2.2.2.2.2.2.2.1,p.2.2.2.2.2.2.1,p.2.2.2.2.2.2.2.1,(Hl p).1)
def ad3 (p:aH):Bytes×Bool:=SL (p.1,p.2.1,p.2.2.1,2048,pad (Uq p).1)
def dv (p:aH):Bytes×Bool:=bif cC p then ad3 p else([],false)
theorem Nc (p:aH):(Uq p).1.length<=360:=by grind[WC,Uq,W8,Hl,Nb]
theorem I8 (p:aH):jn p=some (dv p):=by have hl:=Nc p;unfold jn dv;simp only[uJ,Ih,aiU,ab];rw[show(W8 (p.2.2.2.1,p.2.2.2.2.1,p.2.2.2.2.2.1,p.2.2.2.2.2.2.2.2.1,p.2.2.2.2.2.2.1,p.2.2.2.2.2.2.2.1,(zP p.2.2.2.2.2.2.1 p.2.2.2.2.2.2.2.1 p.2.2.2.2.2.2.2.2).1))=Uq p from rfl,aku _ (by omega),ab,aks];cases cC p<;>rfl
theorem IU (p:aH):jl p=some (dv p):=by have hl:=Nc p;unfold jl dv;simp only[rZ,HS,ahK,ab];rw[show(W8 (p.2.2.2.1,p.2.2.2.2.1,p.2.2.2.2.2.1,p.2.2.2.2.2.2.2.2.1,p.2.2.2.2.2.2.1,p.2.2.2.2.2.2.2.1,(zP p.2.2.2.2.2.2.1 p.2.2.2.2.2.2.2.1 p.2.2.2.2.2.2.2.2).1))=Uq p from rfl,ajR _ (by omega),ab,ajO];cases cC p<;>rfl
theorem zJ (h:cC p=true):(dv p).2=true:=by grind[Nc,sI,cC,LJ,dv,ad3,SL,xb,aS]
theorem nv (p:aH):(dv p).1.length<=378:=by grind[Nc,LJ,dv,ad3,SL,ag7]
def fcs (c:Int):Bytes:=aR [gR c,gR (fdiv c (2^(ql 8))),gR (fdiv c (2^(ql 16))),gR (fdiv c (2^(ql 24)))]
def GW (s:Bytes):Bytes:=s++fcs (agW s)
theorem ajB (c:Int):(fcs c).length=4:=rfl
theorem adx (s:Bytes)(h:s.length<=10^9):yO s=some (GW s):=by unfold yO;rw[akr s h,ab,lH,lH,lH];exact bf (by show s.length+4<=_;omega)
theorem ac5 (s:Bytes)(h:s.length<=10^9):yf s=some (GW s):=by unfold yf;rw[ajM s h,ab,lH,lH,lH];exact bf (by show s.length+4<=_;omega)
def gI (p:aH):Bool:=cC p&&decide ((p.2.2.2.2.2.2.2.2.2.2.2.2.2.2.2.length:Int)<=128)
theorem GI (p:aH):oC p=some (gI p):=by grind[oC,uJ,ab,gI]
theorem Gg (p:aH):ou p=some (gI p):=by grind[ou,rZ,ab,gI]
def HF (p:aH):Bytes×Bool:=bif gI p then(GW (dv p).1,true) else([],false)
theorem U8 (p:aH):rA p=some (HF p):=by grind[nv,rA,GI,I8,adx,ab,HF]
theorem aeB (p:aH):wy p=some (HF p):=by grind[nv,wy,Gg,IU,ac5,ab,HF,gI,zJ]
theorem T4 (p:aH):(HF p).1.length<=382:=by grind[nv,HF,GW,ajB]
def RE (p:aH)(z:Int)(k:Nat):aH:=
 (p.1,p.2.1,p.2.2.1,p.2.2.2.1,tmod (ar (p.2.2.2.2.1+(k:Int))) 65536,p.2.2.2.2.2.1,p.2.2.2.2.2.2.1,p.2.2.2.2.2.2.2.1,p.2.2.2.2.2.2.2.2.1,p.2.2.2.2.2.2.2.2.2.1,p.2.2.2.2.2.2.2.2.2.2.1,
   tmod (ar (p.2.2.2.2.2.2.2.2.2.2.2.1+((k:Int)*z))) 4294967296,p.2.2.2.2.2.2.2.2.2.2.2.2.1,
   (bif decide (((k:Int)+1)*z<(p.2.2.2.2.2.2.2.2.2.2.2.2.2.2.2.length:Int)) then ar (toNat (gm p.2.2.2.2.2.2.2.2.2.2.2.2.2.1&&&~~~ gm 9)) else p.2.2.2.2.2.2.2.2.2.2.2.2.2.1),
   p.2.2.2.2.2.2.2.2.2.2.2.2.2.2.1,(p.2.2.2.2.2.2.2.2.2.2.2.2.2.2.2.take (min ((k+1)*z.toNat) p.2.2.2.2.2.2.2.2.2.2.2.2.2.2.2.length)).drop (k*z.toNat))
def ll (n z:Nat):Nat:=(n+z-1)/z
def E2 (p:aH)(z:Int):ax aH:=bif cC p&&dV z 1 128 then
    (bif (p.2.2.2.2.2.2.2.2.1 !=6)||decide ((p.2.2.2.2.2.2.2.2.2.2.2.2.2.2.2.length:Int)<=z) then [p] else(range (ll p.2.2.2.2.2.2.2.2.2.2.2.2.2.2.2.length z.toNat)).map (RE p z)) else []
theorem Nv {n z:Nat}(hz:0<z:=by omega):k<ll n z↔k*z<n:=by grind[ll,Nat.lt_div_iff_mul_lt]
theorem Aa (h:cC p=true):p.2.2.2.2.2.2.2.2.2.2.2.2.2.2.2.length<=320:=by grind[cC,DM,xP]
theorem Vf {b:Bytes}{z:Nat}(hk:k*z<b.length)(hb:b.length<=320):sub b ((k*z:Nat):Int) ((min ((k+1)*z) b.length:Nat):Int)=some ((b.take (min ((k+1)*z) b.length)).drop (k*z)):=by grind[sub]
theorem af8 (p:aH)(z:Int):GM p z=some (E2 p z):=by
 unfold GM E2;simp only[uJ,cR,ab];cases hs:cC p;rfl;cases hz:dV z 1 128;rfl;have hz':=aS.1 hz;have hb:=Aa hs;simp only[aj,ae,du,af,ab,di,cT];cases hq:(p.2.2.2.2.2.2.2.2.1 !=6)||decide ((p.2.2.2.2.2.2.2.2.2.2.2.2.2.2.2.length)<=z)with
 |true=>rfl
 |false=>
  obtain⟨m,rfl⟩:=au (show 0<=z by omega);have hN:∀k,k<ll p.2.2.2.2.2.2.2.2.2.2.2.2.2.2.2.length m↔k*m<p.2.2.2.2.2.2.2.2.2.2.2.2.2.2.2.length:=λk=>Nv;have Jk:ll p.2.2.2.2.2.2.2.2.2.2.2.2.2.2.2.length m<=320:=by rcases ca 320 (ll p.2.2.2.2.2.2.2.2.2.2.2.2.2.2.2.length m)with h|h;have:=(hN 320).1 h;omega;exact h
  refine dA (λk=>((range k).map (RE p (m)),(k:Int))) (ll p.2.2.2.2.2.2.2.2.2.2.2.2.2.2.2.length m) (by omega) (λk nx hk=>?_) (λnx=>?_);have hkm:=(hN k).1 hk;have hk1:(k+1)*m=k*m+m:=by rw[dg,fT]
  have e1:(k:Int)*(m)=((k*m:Nat)):=by push_cast;rfl
  have e2:((k:Int)+1)*(m)=(((k+1)*m:Nat)):=by push_cast;rfl
  simp only[AR];rw[ak (n:=(k)+1) (by omega) (by omega),e1,e2,gZ (by omega),gZ (by omega),kW,af];have e3:(if(((k+1)*m:Nat):Int)<(p.2.2.2.2.2.2.2.2.2.2.2.2.2.2.2.length) then(((k+1)*m:Nat):Int) else(p.2.2.2.2.2.2.2.2.2.2.2.2.2.2.2.length))=((min ((k+1)*m) p.2.2.2.2.2.2.2.2.2.2.2.2.2.2.2.length)):=by split<;>omega
  rw[e3,Vf hkm hb,ab,lH,lH];rw[List.range_succ,cS,List.map_singleton];simp only[RE,e1,e2,aC];cases decide ((((k+1)*m:Nat):Int)<(p.2.2.2.2.2.2.2.2.2.2.2.2.2.2.2.length))with|true=>rw[bf (by simp;omega)];rfl|false=>simp only[ae];rw[bf (by simp;omega)];rfl
  have hkm:¬ll p.2.2.2.2.2.2.2.2.2.2.2.2.2.2.2.length m*m<p.2.2.2.2.2.2.2.2.2.2.2.2.2.2.2.length:=λh=>absurd ((hN _).2 h) (pn _);have hub:ll p.2.2.2.2.2.2.2.2.2.2.2.2.2.2.2.length m*m<=320*128:=Nat.mul_le_mul Jk (by omega);have e1:((ll p.2.2.2.2.2.2.2.2.2.2.2.2.2.2.2.length m):Int)*(m)=((ll p.2.2.2.2.2.2.2.2.2.2.2.2.2.2.2.length m*m:Nat)):=by push_cast;rfl
  simp only[AR];rw[e1,gZ (by omega),ie];rfl
theorem aeJ (p:aH)(z:Int):Gn p z=some (E2 p z):=by
 unfold Gn E2;simp only[rZ,dI,ab];cases hs:cC p;rfl;cases hz:dV z 1 128;rfl;have hz':=aS.1 hz;have hb:=Aa hs;simp only[aj,ae,du,af,ab,di,cT];cases hq:(p.2.2.2.2.2.2.2.2.1 !=6)||decide ((p.2.2.2.2.2.2.2.2.2.2.2.2.2.2.2.length)<=z)with
 |true=>rfl
 |false=>
  obtain⟨m,rfl⟩:=au (show 0<=z by omega);have hN:∀k,k<ll p.2.2.2.2.2.2.2.2.2.2.2.2.2.2.2.length m↔k*m<p.2.2.2.2.2.2.2.2.2.2.2.2.2.2.2.length:=λk=>Nv;have Jk:ll p.2.2.2.2.2.2.2.2.2.2.2.2.2.2.2.length m<=320:=by rcases ca 320 (ll p.2.2.2.2.2.2.2.2.2.2.2.2.2.2.2.length m)with h|h;have:=(hN 320).1 h;omega;exact h
  refine dA (λk=>((range k).map (RE p (m)),(k:Int))) (ll p.2.2.2.2.2.2.2.2.2.2.2.2.2.2.2.length m) (by omega) (λk nx hk=>?_) (λnx=>?_);have hkm:=(hN k).1 hk;have hk1:(k+1)*m=k*m+m:=by rw[dg,fT]
  have e1:(k:Int)*(m)=((k*m:Nat)):=by push_cast;rfl
  have e2:((k:Int)+1)*(m)=(((k+1)*m:Nat)):=by push_cast;rfl
  have sB:=Vf hkm hb;simp only[Av];rw[ak (n:=(k)+1) (by omega) (by omega),e1,e2,gZ (by omega),gZ (by omega),kW,af];rw[List.range_succ,cS,List.map_singleton];simp only[RE,e1,e2,aC];by_cases hc:(((k+1)*m:Nat):Int)<(p.2.2.2.2.2.2.2.2.2.2.2.2.2.2.2.length);rw[az hc];rw[show min ((k+1)*m) p.2.2.2.2.2.2.2.2.2.2.2.2.2.2.2.length=(k+1)*m by omega]at sB⊢;rw[sB,ab,lH,lH,bf (by simp;omega)];rfl;rw[aw hc];rw[show min ((k+1)*m) p.2.2.2.2.2.2.2.2.2.2.2.2.2.2.2.length=p.2.2.2.2.2.2.2.2.2.2.2.2.2.2.2.length by omega]at sB⊢;rw[sB,ab,lH,lH,bf (by simp;omega)];rfl;have hkm:¬ll p.2.2.2.2.2.2.2.2.2.2.2.2.2.2.2.length m*m<p.2.2.2.2.2.2.2.2.2.2.2.2.2.2.2.length:=λh=>absurd ((hN _).2 h) (pn _);have hub:ll p.2.2.2.2.2.2.2.2.2.2.2.2.2.2.2.length m*m<=320*128:=Nat.mul_le_mul Jk (by omega);have e1:((ll p.2.2.2.2.2.2.2.2.2.2.2.2.2.2.2.length m):Int)*(m)=((ll p.2.2.2.2.2.2.2.2.2.2.2.2.2.2.2.length m*m:Nat)):=by push_cast;rfl
  simp only[Av];rw[e1,gZ (by omega),ie];rfl
theorem Ky (p:aH)(z:Int):(E2 p z).length<=320:=by unfold E2;cases hs:cC p&&dV z 1 128;exact cU _;simp only[ah,aS]at hs;have hb:=Aa hs.1;cases (p.2.2.2.2.2.2.2.2.1 !=6)||decide ((p.2.2.2.2.2.2.2.2.2.2.2.2.2.2.2.length)<=z)with|true=>simp only[af,bu];omega|false=>simp only[af,ae,bX,List.length_range];rcases ca 320 (ll p.2.2.2.2.2.2.2.2.2.2.2.2.2.2.2.length z.toNat)with h|h;have:=(Nv).1 h;omega;exact h
def PU (acc:bK)(p:aH):bK:=bif (HF p).2 then acc++[(HF p).1] else acc
theorem PV (acc:bK)(p:aH):(PU acc p).length<=acc.length+1:=by grind[PU]
def IP (l:ax aH):bK:=l.foldl PU []
theorem N0:∀(l:ax aH)(acc:bK),(l.foldl PU acc).length<=acc.length+l.length
 |[],acc=>by simp
 |p::l,acc=>by have:=N0 l (PU acc p);grind[PV]
theorem Ju:∀(l:ax aH)(acc:bK),(∀x∈acc,x.length<=382)->∀x∈l.foldl PU acc,x.length<=382
 |[],acc,h=>h
 |p::l,acc,h=>by refine Ju l _ (λx hx=>?_);grind[PU,T4]
theorem ab8 (l:ax aH)(h:l.length<=10^9):AL l=some (IP l):=by
 unfold AL IP;have:=FO (T:=pU (λ(y3) (_)=>some y3) l) l (λ(s) i=>(s,(i))) (λi s=>s.length<=i) (λp s=> .ok (PU s p)) (λs=>some s) (by omega) (λi hi s nx hI=>?hs) (λi hi s s' hI hg=>?hn) (λs nx hI=>?hf) [] (by simp)
 case hs=>
  grind[pU,bw,ak,ab,U8,PU,bf]
 all_goals grind[PV,pU,LY]
theorem aa4 (l:ax aH)(h:l.length<=10^9):Ao l=some (IP l):=by
 unfold Ao IP;have:=FO (T:=px (λ(y3) (_)=>some y3) l (l.length)) l (λ(s) i=>(s,(i))) (λi s=>s.length<=i) (λp s=> .ok (PU s p)) (λs=>some s) (by omega) (λi hi s nx hI=>?hs) (λi hi s s' hI hg=>?hn) (λs nx hI=>?hf) [] (by simp)
 case hs=>
  grind[px,bw,ak,ab,aeB,PU,bf]
 all_goals grind[PV,px,LY]
def EC (p:aH)(z:Int):bK:=IP (E2 p z)
theorem ZJ (p:aH)(z:Int):rG p z=some (EC p z):=by have:=Ky p z;simp only[rG,af8,ab8 _ (show(E2 p z).length<=10^9 by omega),ab];rfl
theorem ahU (p:aH)(z:Int):wD p z=some (EC p z):=by have:=Ky p z;simp only[wD,aeJ,aa4 _ (show(E2 p z).length<=10^9 by omega),ab];rfl
theorem ND (p:aH)(z:Int):(EC p z).length<=320/\∀x∈EC p z,x.length<=382:=by have:=Ky p z;have:=N0 (E2 p z) [];exact⟨by grind[EC,IP],Ju _ [] (by simp)⟩
def hasB (l:dm)(v:Int):Bool:=l.any (·==v)
theorem akt (l:dm)(v:Int)(h:l.length<=10^9):xD l v=some (hasB l v):=by
 unfold xD hasB;rw[Hs (hit:=some true) (fin:=some false) (λx:Int=>x==v) l (by omega) (λi hi nx=>?hs) (λnx=>?hf)]
 case hs=>
  simp(disch:=omega)[yV,az,bw,ak]
 all_goals grind[yV]
theorem ajP (l:dm)(v:Int)(h:l.length<=10^9):xu l v=some (hasB l v):=by
 unfold xu hasB;rw[Hs (hit:=some true) (fin:=some false) (λx:Int=>x==v) l (by omega) (λi hi nx=>?hs) (λnx=>?hf)]
 case hs=>
  simp(disch:=omega)[yi,az,bw,ak]
 all_goals grind[yi]
theorem ZQ (l:ax α)(j:Nat)(h:j<=l.length):sub l (j:Int) (l.length:Int)=some (l.drop j):=by simp_all[sub]
theorem Fk (h0:0<=a:=by omega)(h:a+2<=(s.length:Int):=by omega):0<=cH s a/\cH s a<=65535:=by grind[gq,cH,gv]
theorem Fm (h0:0<=a:=by omega)(h:a+4<=(s.length:Int):=by omega):0<=fM s a/\fM s a<=4294967295:=by grind[gq,fM,gv]
theorem ah6 {x y:Int}(hx:0<=x/\x<=65535)(hy:0<=y/\y<=4294967295):ar (toNat (gm (ar (x*2^(ql 32)))|||gm y))=x*4294967296+y:=by have e:(2:Int)^(ql 32)=4294967296:=rfl;obtain⟨x,rfl⟩:=au hx.1;obtain⟨y,rfl⟩:=au hy.1;rw[e,ak (n:=(x:Int)*4294967296) (by omega) (by omega),show(x:Int)*4294967296=((2^32*x:Nat):Int) by omega,Kr x 32 y];omega
theorem adb {x y:Int}(hx:0<=x/\x<=65535)(hy:0<=y/\y<=4294967295):ar (ar (x*2^(ql 32))+y)=x*4294967296+y:=by grind[IntKind.bits,ak]
theorem EL {l:ax α}{n:Int}(h0:0<=n)(h1:n<=(l.length:Int)):sub l 0 n=some (l.take n.toNat):=by grind[sub]
theorem vh {l:ax α}(k:Nat)(h:k<=l.length:=by omega)(ha:a=(k:Int):=by omega):sub l a (l.length:Int)=some (l.drop k):=by simp_all[sub]
theorem Mn {l:ax α}(k:Nat){n:Int}(ha:a=(k:Int))(h0:a<=n)(h1:n<=(l.length:Int)):sub l a n=some ((l.take n.toNat).drop k):=by grind[sub]
def F6 (s:Bytes):Bytes×Bool:=bif decide ((s.length:Int)<4) then([],false) else bif GW (s.take ((s.length:Int)-4).toNat)==s then(s.take ((s.length:Int)-4).toNat,true) else([],false)
theorem ab5 (s:Bytes)(h:s.length<=10^9):AH s=some (F6 s):=by unfold AH F6;rw[ak (n:=(s.length:Int)-4) (by omega) (by omega)];by_cases h4:(s.length:Int)<4;rw[az h4];rfl;rw[aw h4,EL (by omega) (by omega)];simp only[ae,ab,adx _ (show(s.take ((s.length:Int)-4).toNat).length<=10^9 by rw[bt];omega)];cases GW (s.take ((s.length:Int)-4).toNat)==s<;>rfl
theorem aa1 (s:Bytes)(h:s.length<=10^9):Ai s=some (F6 s):=by unfold Ai F6;rw[ak (n:=(s.length:Int)-4) (by omega) (by omega)];by_cases h4:(s.length:Int)<4;rw[az (show(s.length:Int)-4<0 by omega),az h4];rfl;rw[aw (show¬(s.length:Int)-4<0 by omega),aw h4,EL (by omega) (by omega)];simp only[ae,ab,ac5 _ (show(s.take ((s.length:Int)-4).toNat).length<=10^9 by rw[bt];omega)];cases GW (s.take ((s.length:Int)-4).toNat)==s<;>rfl
def ajz:PN:=(0,0,0,0,([]:Bytes))
def B8 (s:Bytes)(a:Int):Int:=cH s a*4294967296+fM s (a+2)
def MR (s:Bytes):PN:=(B8 s 0,B8 s 6,cH s 14,cH s 16,s.drop 18)
def Dg (s:Bytes):PN:=(B8 s 0,B8 s 6, -1,cH s 12,s.drop 14)
def gE (s:Bytes):PN×Bool:=bif decide ((s.length:Int)<18) then(ajz,false) else
 bif cH s 12==33024 then(bif xb (MR s) then(MR s,true) else(ajz,false)) else bif xb (Dg s) then(Dg s,true) else(ajz,false)
theorem WI (s:Bytes)(h:s.length<=10^9):AO s=some (gE s):=by unfold AO gE;by_cases h8:(s.length:Int)<18;rw[az h8];rfl;rw[aw h8];simp only[ae,uI s _ h,Da s _ h,ab];rw[lH,lH,vh (l:=s) 14 (by omega) (show(14:Int)=((14:Nat):Int) from rfl),ab,vh (l:=s) 18 (by omega) (show(18:Int)=((18:Nat):Int) from rfl)];rw[adb (Fk (s:=s) (a:=0)) (Fm (s:=s) (a:=2)),adb (Fk (s:=s) (a:=6)) (Fm (s:=s) (a:=8))];simp only[ab,NG];rw[show((cH s 0*4294967296+fM s 2,cH s 6*4294967296+fM s 8,cH s 14,cH s 16,s.drop 18):PN)=MR s from rfl,show((cH s 0*4294967296+fM s 2,cH s 6*4294967296+fM s 8, -1,cH s 12,s.drop 14):PN)=Dg s from rfl];cases cH s 12==33024<;>cases xb (MR s)<;>cases xb (Dg s)<;>rfl
theorem Li (s:Bytes)(h:s.length<=10^9):vM s=some (gE s):=by
 unfold vM gE;by_cases h4:(s.length:Int)<14;rw[az h4,az (show(s.length:Int)<18 by omega)];rfl;rw[aw h4];simp only[ae,zK s _ h,C3 s _ h,ab];rw[lH,lH,vh (l:=s) 14 (by omega) (show(14:Int)=((14:Nat):Int) from rfl),ab];rw[ah6 (Fk (s:=s) (a:=0)) (Fm (s:=s) (a:=2)),ah6 (Fk (s:=s) (a:=6)) (Fm (s:=s) (a:=8))];simp only[ab,Ug];rw[show((cH s 0*4294967296+fM s 2,cH s 6*4294967296+fM s 8, -1,cH s 12,s.drop 14):PN)=Dg s from rfl];by_cases h8:(s.length:Int)<18;have hB:xb (Dg s)=false:=by
  unfold xb Dg;have:dV ((s.drop 14).length:Int) 46 400=false:=by rw[Bool.eq_false_iff,ne_eq,aS,bA];omega
  simp only[this,iv]
 rw[az h8,aw (show¬(s.length:Int)>=18 by omega),hB];cases cH s 12==33024<;>rfl;rw[aw h8,az (show(s.length:Int)>=18 by omega),vh (l:=s) 18 (by omega) (show(18:Int)=((18:Nat):Int) from rfl)];simp only[ab];rw[show((cH s 0*4294967296+fM s 2,cH s 6*4294967296+fM s 8,cH s 14,cH s 16,s.drop 18):PN)=MR s from rfl];cases cH s 12==33024<;>cases xb (MR s)<;>cases xb (Dg s)<;>rfl
def ip0:Ip:=(0,0,0,0,0,0,([]:Bytes))
def HY (s:Bytes):Ip:=((bV s 1:Int),cH s 4,(bV s 8:Int),(bV s 9:Int),fM s 12,fM s 16,(s.take (cH s 2).toNat).drop 20)
def me (s:Bytes):Ip×Bool:=bif decide ((s.length:Int)<20)||(decide (cH s 2<20)||decide (cH s 2>(s.length:Int))) then(ip0,false) else
 bif (W8 (HY s)).2&&((W8 (HY s)).1==s.take (cH s 2).toNat) then(HY s,true) else(ip0,false)
theorem ZG (s:Bytes)(h:s.length<=10^9):CB s=some (me s):=by
 unfold CB me;simp only[uI s _ h,Da s _ h,ab];by_cases h1:(s.length:Int)<20;rw[az h1];rfl;by_cases h2:cH s 2<20;rw[aw h1,az h2];rfl;by_cases h3:cH s 2>(s.length:Int);rw[aw h1,aw h2,az h3];rfl;rw[aw h1,aw h2,aw h3];have b1:=lY (s[1]'(by omega));have b8:=lY (s[8]'(by omega));have b9:=lY (s[9]'(by omega));have i1:idx s 1=some (s[1]'(by omega)):=bw (i:=1) (by omega);have i8:idx s 8=some (s[8]'(by omega)):=bw (i:=8) (by omega);have i9:idx s 9=some (s[9]'(by omega)):=bw (i:=9) (by omega);simp only[ae,ab,bN,i1,i8,i9];rw[Mn (l:=s) 20 (show(20:Int)=((20:Nat):Int) from rfl) (by omega) (by omega),EL (by omega) (by omega),gZ (n:=(s[1]'(by omega)).toNat) (by omega),gZ (n:=(s[8]'(by omega)).toNat) (by omega),gZ (n:=(s[9]'(by omega)).toNat) (by omega)];have e:(((s[1]'(by omega)).toNat:Int),cH s 4,((s[8]'(by omega)).toNat:Int),((s[9]'(by omega)).toNat:Int),fM s 12,fM s 16,(s.take (cH s 2).toNat).drop 20)=HY s:=by grind[HY,bV]
 simp only[ab,e,aiU];cases (W8 (HY s)).2<;>cases (W8 (HY s)).1==s.take (cH s 2).toNat<;>rfl
theorem Yr (s:Bytes)(h:s.length<=10^9):Co s=some (me s):=by
 unfold Co me;simp only[zK s _ h,C3 s _ h,ab];by_cases h1:(s.length:Int)<20;rw[az h1];rfl;by_cases h2:cH s 2<20;rw[aw h1,az h2];rfl;by_cases h3:cH s 2>(s.length:Int);rw[aw h1,aw h2,az h3];rfl;rw[aw h1,aw h2,aw h3];have b1:=lY (s[1]'(by omega));have b8:=lY (s[8]'(by omega));have b9:=lY (s[9]'(by omega));have i1:idx s 1=some (s[1]'(by omega)):=bw (i:=1) (by omega);have i8:idx s 8=some (s[8]'(by omega)):=bw (i:=8) (by omega);have i9:idx s 9=some (s[9]'(by omega)):=bw (i:=9) (by omega);simp only[ae,ab,bN,i1,i8,i9];rw[Mn (l:=s) 20 (show(20:Int)=((20:Nat):Int) from rfl) (by omega) (by omega),EL (by omega) (by omega),gZ (n:=(s[1]'(by omega)).toNat) (by omega),gZ (n:=(s[8]'(by omega)).toNat) (by omega),gZ (n:=(s[9]'(by omega)).toNat) (by omega)];have e:(((s[1]'(by omega)).toNat:Int),cH s 4,((s[8]'(by omega)).toNat:Int),((s[9]'(by omega)).toNat:Int),fM s 12,fM s 16,(s.take (cH s 2).toNat).drop 20)=HY s:=by grind[HY,bV]
 simp only[ab,e,ahK];cases (W8 (HY s)).2<;>cases (W8 (HY s)).1==s.take (cH s 2).toNat<;>rfl
def ama:fu:=(0,0,0,0,0,0,0,([]:Bytes))
def NC (k:Int)(s:Bytes):fu:=(k,cH s 0,cH s 2,fM s 4,fM s 8,(bV s 13:Int),cH s 14,s.drop 20)
def RX (k:Int)(s:Bytes):fu:=(k,cH s 0,cH s 2,0,0,0,0,s.drop 8)
def pL (a b k:Int)(s:Bytes):fu×Bool:=
 bif (k==6)&&decide ((s.length:Int)>=20) then(bif (zP a b (NC k s)).2&&((zP a b (NC k s)).1==s) then(NC k s,true) else(ama,false)) else
 bif (k==17)&&decide ((s.length:Int)>=8) then(bif (zP a b (RX k s)).2&&((zP a b (RX k s)).1==s) then(RX k s,true) else(ama,false)) else(ama,false)
theorem WJ (a b k:Int)(s:Bytes)(h:s.length<=10^9):tj a b k s=some (pL a b k s):=by
 unfold tj pL;simp only[uI s _ h,Da s _ h,ab];rw[show(aa (cond (k==6) (some (decide ((s.length:Int)>=20))) (some false)):(Bool->aA (fu×Bool))->aA (fu×Bool))=λK=>K ((k==6)&&decide ((s.length:Int)>=20)) from by funext K;cases k==6<;>rfl];rw[show(aa (cond (k==17) (some (decide ((s.length:Int)>=8))) (some false)):(Bool->aA (fu×Bool))->aA (fu×Bool))=λK=>K ((k==17)&&decide ((s.length:Int)>=8)) from by funext K;simp_all];simp only;cases h1:(k==6)&&decide ((s.length:Int)>=20)with
 |true=>
  simp only[ah,bE]at h1;have bb:=lY (s[13]'(by omega));have i:idx s 13=some (s[13]'(by omega)):=bw (i:=13) (by omega);have e:(k,cH s 0,cH s 2,fM s 4,fM s 8,((s[13]'(by omega)).toNat:Int),cH s 14,s.drop 20)=NC k s:=by grind[NC,bV]
  simp only[af,i,ab];rw[vh (l:=s) 20 (by omega) (show(20:Int)=((20:Nat):Int) from rfl),gZ (n:=(s[13]'(by omega)).toNat) (by omega)];simp only[ab,e,Ih];cases (zP a b (NC k s)).2<;>cases (zP a b (NC k s)).1==s<;>rfl
 |false=>simp only[ae];cases h2:(k==17)&&decide ((s.length:Int)>=8)with|false=>rfl|true=>simp only[ah,bE]at h2;rw[vh (l:=s) 8 (by omega) (show(8:Int)=((8:Nat):Int) from rfl)];simp only[af,ab,show((k,cH s 0,cH s 2,0,0,0,0,s.drop 8):fu)=RX k s from rfl,Ih];cases (zP a b (RX k s)).2<;>cases (zP a b (RX k s)).1==s<;>rfl
theorem Wb (a b k:Int)(s:Bytes)(h:s.length<=10^9):sO a b k s=some (pL a b k s):=by
 unfold sO pL;simp only[zK s _ h,C3 s _ h,ab];rw[show(aa (cond (k==6) (some (decide ((s.length:Int)>=20))) (some false)):(Bool->aA (fu×Bool))->aA (fu×Bool))=λK=>K ((k==6)&&decide ((s.length:Int)>=20)) from by funext K;cases k==6<;>rfl];rw[show(aa (cond (k==17) (some (decide ((s.length:Int)>=8))) (some false)):(Bool->aA (fu×Bool))->aA (fu×Bool))=λK=>K ((k==17)&&decide ((s.length:Int)>=8)) from by funext K;simp_all];simp only;cases h1:(k==6)&&decide ((s.length:Int)>=20)with
 |true=>
  simp only[ah,bE]at h1;have bb:=lY (s[13]'(by omega));have i:idx s 13=some (s[13]'(by omega)):=bw (i:=13) (by omega);have e:(k,cH s 0,cH s 2,fM s 4,fM s 8,((s[13]'(by omega)).toNat:Int),cH s 14,s.drop 20)=NC k s:=by grind[NC,bV]
  simp only[af,i,ab];rw[vh (l:=s) 20 (by omega) (show(20:Int)=((20:Nat):Int) from rfl),gZ (n:=(s[13]'(by omega)).toNat) (by omega)];simp only[ab,e,HS];cases (zP a b (NC k s)).2<;>cases (zP a b (NC k s)).1==s<;>rfl
 |false=>simp only[ae];cases h2:(k==17)&&decide ((s.length:Int)>=8)with|false=>rfl|true=>simp only[ah,bE]at h2;rw[vh (l:=s) 8 (by omega) (show(8:Int)=((8:Nat):Int) from rfl)];simp only[af,ab,show((k,cH s 0,cH s 2,0,0,0,0,s.drop 8):fu)=RX k s from rfl,HS];cases (zP a b (RX k s)).2<;>cases (zP a b (RX k s)).1==s<;>rfl
def pk0:aH:=(0,0,0,0,0,0,0,0,0,0,0,0,0,0,0,([]:Bytes))
def vq (s:Bytes):aH×Int:=
 let e:=gE s
 bif !e.2||(e.1.2.2.2.1 !=2048) then(pk0,2) else
 let i:=me e.1.2.2.2.2
 bif !i.2 then(pk0,3) else
 let g:=pL i.1.2.2.2.2.1 i.1.2.2.2.2.2.1 i.1.2.2.2.1 i.1.2.2.2.2.2.2
 bif !g.2 then(pk0,4) else
 bif !cC (e.1.1,e.1.2.1,e.1.2.2.1,i.1.1,i.1.2.1,i.1.2.2.1,i.1.2.2.2.2.1,i.1.2.2.2.2.2.1,g.1) then(pk0,5) else
 ((e.1.1,e.1.2.1,e.1.2.2.1,i.1.1,i.1.2.1,i.1.2.2.1,i.1.2.2.2.2.1,i.1.2.2.2.2.2.1,g.1),0)
theorem Gw (s:Bytes):(gE s).1.2.2.2.2.length<=s.length:=by grind[gE,ajz,MR,Dg]
theorem Oo (s:Bytes):(me s).1.2.2.2.2.2.2.length<=s.length:=by grind[me,ip0,HY]
theorem I9 (s:Bytes)(h:s.length<=10^9):jS s=some (vq s):=by
 have h1:=Gw s;unfold jS vq;rw[WI s h,ab];generalize gE s=e at h1⊢;have h2:=Oo e.1.2.2.2.2;simp only;cases e.2;rfl;cases e.1.2.2.2.1 !=2048;case true=>rfl
 simp only[aj,ae,ab,bN,ZG _ (show e.1.2.2.2.2.length<=10^9 by omega)];generalize me e.1.2.2.2.2=i at h2⊢;cases i.2;rfl;simp only[aj,ae,ab,WJ _ _ _ _ (show i.1.2.2.2.2.2.2.length<=10^9 by omega)];generalize pL i.1.2.2.2.2.1 i.1.2.2.2.2.2.1 i.1.2.2.2.1 i.1.2.2.2.2.2.2=g;cases g.2;rfl;simp only[aj,ae,ab,uJ];cases cC (e.1.1,e.1.2.1,e.1.2.2.1,i.1.1,i.1.2.1,i.1.2.2.1,i.1.2.2.2.2.1,i.1.2.2.2.2.2.1,g.1)<;>rfl
theorem IV (s:Bytes)(h:s.length<=10^9):jQ s=some (vq s):=by
 have h1:=Gw s;unfold jQ vq;rw[Li s h,ab];generalize gE s=e at h1⊢;have h2:=Oo e.1.2.2.2.2;simp only;cases e.2;rfl;cases e.1.2.2.2.1 !=2048;case true=>rfl
 simp only[aj,ae,ab,bN,Yr _ (show e.1.2.2.2.2.length<=10^9 by omega)];generalize me e.1.2.2.2.2=i at h2⊢;cases i.2;rfl;simp only[aj,ae,ab,Wb _ _ _ _ (show i.1.2.2.2.2.2.2.length<=10^9 by omega)];generalize pL i.1.2.2.2.2.1 i.1.2.2.2.2.2.1 i.1.2.2.2.1 i.1.2.2.2.2.2.2=g;cases g.2;rfl;simp only[aj,ae,ab,rZ];cases cC (e.1.1,e.1.2.1,e.1.2.2.1,i.1.1,i.1.2.1,i.1.2.2.1,i.1.2.2.2.2.1,i.1.2.2.2.2.2.1,g.1)<;>rfl
def fF (s:Bytes):aH×Int:=
 let c:=F6 s
 bif !c.2 then(pk0,1) else
 let r:=vq c.1
 bif r.2 !=0 then(pk0,r.2) else
 bif !gI r.1 then(pk0,5) else(r.1,0)
theorem Qh (s:Bytes):(F6 s).1.length<=s.length:=by grind[F6]
theorem NJ (s:Bytes)(h:s.length<=10^9):pZ s=some (fF s):=by
 have h1:=Qh s;unfold pZ fF;rw[ab5 s h,ab];generalize F6 s=c at h1⊢;simp only;cases c.2;rfl;simp only[aj,ae,ab,I9 _ (show c.1.length<=10^9 by omega)];generalize vq c.1=r;cases r.2 !=0;case true=>rfl
 simp only[ae,ab,GI];cases gI r.1<;>rfl
theorem aeF (s:Bytes)(h:s.length<=10^9):yb s=some (fF s):=by
 have h1:=Qh s;unfold yb fF;rw[aa1 s h,ab];generalize F6 s=c at h1⊢;simp only;cases c.2;rfl;simp only[aj,ae,ab,IV _ (show c.1.length<=10^9 by omega)];generalize vq c.1=r;cases r.2 !=0;case true=>rfl
 simp only[ae,ab,Gg];cases gI r.1<;>rfl
theorem D4 (x:Int):gR x=x%256:=by rfl
theorem OL {n:Nat}(h:k=n%256:=by omega):(UInt8.ofNat n).toNat=k:=by rw[h];simp
theorem xE {v:Nat}(h:v<=65535):∃a b:UInt8,aF (v:Int)=[a,b]/\a.toNat=v/256/\b.toNat=v%256:=by
 have e:aF (v:Int)=aR [gR (fdiv (v:Int) (2^(ql 8))),gR (v:Int)]:=by unfold aF cv;rw[cR,aS.2 ⟨by omega,by omega⟩];rfl
 have e8:((2:Int)^(ql 8))=256:=by decide
 rw[e8,Int.fdiv_eq_ediv_of_nonneg _ (by omega),D4,D4]at e;exact⟨_,_,e,OL,OL⟩
theorem FY {v:Nat}(h:v<=4294967295:=by omega):∃a b c d:UInt8,cn (v:Int)=[a,b,c,d]/\a.toNat=v/16777216/\b.toNat=v/65536%256/\c.toNat=v/256%256/\d.toNat=v%256:=by
 have e:cn (v:Int)=aR [gR (fdiv (v:Int) (2^(ql 24))),gR (fdiv (v:Int) (2^(ql 16))),gR (fdiv (v:Int) (2^(ql 8))),gR (v:Int)]:=by unfold cn fX;rw[cR,aS.2 ⟨by omega,by omega⟩];rfl
 have e8:((2:Int)^(ql 8))=256:=by decide
 have e16:((2:Int)^(ql 16))=65536:=by decide
 have e24:((2:Int)^(ql 24))=16777216:=by decide
 rw[e8,e16,e24,Int.fdiv_eq_ediv_of_nonneg _ (by omega),Int.fdiv_eq_ediv_of_nonneg _ (by omega),Int.fdiv_eq_ediv_of_nonneg _ (by omega),D4,D4,D4,D4]at e;exact⟨_,_,_,_,e,OL,OL,OL,OL⟩
theorem eD {A B:Bytes}{n:Nat}(h:s.drop k=A++B)(hA:A.length=n):s.drop (k+n)=B:=by grind[fa,List.drop_left]
theorem zE {x:UInt8}(h:s.drop k=x::t):bV s k=x.toNat:=by
 have e:s[k]?=some x:=by have:=congrArg (λl=>l[0]?) h;grind
 grind[bV]
theorem rX {x:UInt8}(h:s.drop k=x::t):s.drop (k+1)=t:=eD (A:=[x]) h rfl
theorem jt {v:Nat}(hv:v<=65535)(h:s.drop k=aF (v:Int)++t):cH s (k:Int)=(v:Int):=by grind[xE,bp,cH,gv,zE,rX]
theorem xc {v:Nat}(hv:v<=4294967295)(h:s.drop k=cn (v:Int)++t):fM s (k:Int)=(v:Int):=by
 obtain⟨a,b,c,d,e,ea,eb,ec,ed⟩:=FY hv;rw[e]at h;have h1:s.drop k=a::b::c::d::t:=h;have hl:k+4<=s.length:=by grind[bp]
 grind[zE,rX,fM,gv]
theorem iz {v:Nat}(h:v<=65535:=by omega):(aF (v:Int)).length=2:=by grind[D0,aS]
theorem My {v:Nat}(h:v<=4294967295:=by omega):(cn (v:Int)).length=4:=by grind[GZ,aS]
theorem adf {v:Nat}(h:v<=281474976710655):xJ (v:Int)=aF ((v/4294967296:Nat):Int)++cn ((v%4294967296:Nat):Int):=by have e32:(2:Int)^(ql 32)=4294967296:=rfl;have ea:toNat (gm (v:Int)&&&gm 4294967295)=v%4294967296:=(agL v 4294967295).trans (Nat.and_two_pow_sub_one_eq_mod v 32);have h1:=bR ((v/4294967296:Nat):Int);have h2:=eR ((v%4294967296:Nat):Int);unfold xJ jq;rw[lH];simp only[ja,mS,ab];rw[e32,Int.fdiv_eq_ediv_of_nonneg _ (by omega),ea,gZ (n:=v%4294967296) (by omega),show(v:Int)/4294967296=((v/4294967296:Nat):Int) by omega,bf (by omega)];rfl
theorem Pz {v:Nat}(h:v<=281474976710655:=by omega):(xJ (v:Int)).length=6:=by rw[adf h,aq,iz,My]
theorem LB {v:Nat}(hv:v<=281474976710655)(h:s.drop k=xJ (v:Int)++t):B8 s (k:Int)=(v:Int):=by rw[adf hv,aG]at h;have h1:=jt (v:=v/4294967296) (by omega) h;have h3:=xc (v:=v%4294967296) (by omega) (eD h (iz));grind[B8]
theorem ag8 {e:PN}(h:xb e=true):gE (Eg e)=(e,true):=by
 have hb:=h;unfold xb at hb;simp only[ah,aS,bne_iff_ne,ne_eq]at hb;obtain⟨d,s,v,t,b⟩:=e;simp only at hb;obtain⟨h1,h2,h3,h4,h5,h6⟩:=hb;obtain⟨d,rfl⟩:=au h1.1;obtain⟨s,rfl⟩:=au h2.1;obtain⟨t,rfl⟩:=au (show 0<=t by omega);have b1:d<=281474976710655:=by omega
 have b2:s<=281474976710655:=by omega
 have b4:t<=65535:=by omega
 have l1:=Pz b1;have l2:=Pz b2;have l3:=iz b4;by_cases hv:v<0;obtain rfl:v= -1:=by omega
 have e:Eg ((d:Int),(s:Int), -1,(t:Int),b)=xJ (d:Int)++(xJ (s:Int)++(aF (t:Int)++b)):=by show(bif decide ((-1:Int)>=0) then _ else xJ (d:Int)++xJ (s:Int))++aF (t:Int)++b=_;rw[show decide ((-1:Int)>=0)=false from rfl,ae];simp only[aG]
 generalize Eg ((d:Int),(s:Int), -1,(t:Int),b)=x at e;have hl:x.length=14+b.length:=by rw[e];simp only[aq];omega
 have k0:x.drop 0=xJ (d:Int)++(xJ (s:Int)++(aF (t:Int)++b)):=e;have k1:x.drop 6=xJ (s:Int)++(aF (t:Int)++b):=eD k0 l1;have k2:x.drop 12=aF (t:Int)++b:=eD k1 l2;have k3:x.drop 14=b:=eD k2 l3;have f0:B8 x 0=(d:Int):=LB b1 k0;have f1:B8 x 6=(s:Int):=LB b2 k1;have f2:cH x 12=(t:Int):=jt b4 k2;have eb:Dg x=((d:Int),(s:Int), -1,(t:Int),b):=by unfold Dg;rw[f0,f1,f2,k3]
 unfold gE;rw[ie,ae,f2,show((t:Int)==33024)=false from by simpa using h5,ae,eb,h];rfl;obtain⟨v,rfl⟩:=au (show 0<=v by omega);have b3:v<=65535:=by omega
 have l5:=iz (v:=33024);have l6:=iz b3;have e:Eg ((d:Int),(s:Int),(v:Int),(t:Int),b)=xJ (d:Int)++(xJ (s:Int)++(aF ((33024:Nat):Int)++(aF (v:Int)++(aF (t:Int)++b)))):=by show(bif decide ((v:Int)>=0) then(((xJ (d:Int)++xJ (s:Int))++aF 33024)++aF (v:Int)) else _)++aF (t:Int)++b=_;rw[kW,af];simp only[aG];rfl
 generalize Eg ((d:Int),(s:Int),(v:Int),(t:Int),b)=x at e;have hl:x.length=18+b.length:=by rw[e];simp only[aq];omega
 have k0:x.drop 0=xJ (d:Int)++(xJ (s:Int)++(aF ((33024:Nat):Int)++(aF (v:Int)++(aF (t:Int)++b)))):=e;have k1:x.drop 6=xJ (s:Int)++(aF ((33024:Nat):Int)++(aF (v:Int)++(aF (t:Int)++b))):=eD k0 l1;have k2:x.drop 12=aF ((33024:Nat):Int)++(aF (v:Int)++(aF (t:Int)++b)):=eD k1 l2;have k3:x.drop 14=aF (v:Int)++(aF (t:Int)++b):=eD k2 l5;have k4:x.drop 16=aF (t:Int)++b:=eD k3 l6;have k5:x.drop 18=b:=eD k4 l3;have f0:B8 x 0=(d:Int):=LB b1 k0;have f1:B8 x 6=(s:Int):=LB b2 k1;have f2:cH x 12=33024:=jt (v:=33024) (by omega) k2;have f3:cH x 14=(v:Int):=jt b3 k3;have f4:cH x 16=(t:Int):=jt b4 k4;have eb:MR x=((d:Int),(s:Int),(v:Int),(t:Int),b):=by unfold MR;rw[f0,f1,f3,f4,k5]
 unfold gE;rw[ie,ae,f2,show((33024:Int)==33024)=true from rfl,af,eb,h];rfl
theorem Ez {A X Y B:Bytes}(hA:A.length=k)(hX:X.length=Y.length):vz (A++(X++B)) (k:Int) Y=A++(Y++B):=by subst hA;simp(disch:=omega)[vz,gv,az]
theorem Vz {x:Int}{y:Nat}(h:y<=255:=by omega):∃a b:UInt8,bs2 x (gR (y:Int))=[a,b]/\b.toNat=y:=by refine⟨_,_,rfl,?_⟩;simp_all[D4];omega
theorem acN {x y:Nat}(h:x<=255:=by omega)(k:y<=255:=by omega):∃a b:UInt8,bs2 (gR (x:Int)) (gR (y:Int))=[a,b]/\a.toNat=x/\b.toNat=y:=by refine⟨_,_,rfl,?_,?_⟩;rw[D4];exact OL;rw[D4];exact OL
theorem Pn (s:Bytes):∃c:Nat,c<=65535/\MO s=(c:Int):=by have:=adD s ((s.length+1)/2);exact⟨(MO s).toNat,by unfold MO;omega,by unfold MO;omega⟩
theorem ajY {d:Ip}(h:Up d=true)(z:Bytes):me (yn d++d.2.2.2.2.2.2++z)=(d,true):=by
 have hb:=h;have hr:W8 d=(yn d++d.2.2.2.2.2.2,true):=by grind[W8]
 unfold Up at hb;simp only[ah,aS,bE]at hb;obtain⟨o,i,t,p,a,b,q⟩:=d;simp only at hb hr⊢;obtain⟨h1,h2,h3,h4,h5,h6,h7⟩:=hb;obtain⟨o,rfl⟩:=au h1.1;obtain⟨i,rfl⟩:=au h4.1;obtain⟨t,rfl⟩:=au h2.1;obtain⟨p,rfl⟩:=au h3.1;obtain⟨a,rfl⟩:=au h5.1;obtain⟨b,rfl⟩:=au h6.1;obtain⟨x0,x1,e0,e1⟩:=Vz (x:=69) (y:=o);obtain⟨x8,x9,e8,e8',e9⟩:=acN (x:=t) (y:=p);obtain⟨c,hc,ec⟩:=Pn (B6 ((o:Int),(i:Int),(t:Int),(p:Int),(a:Int),(b:Int),q));have l2:=iz (v:=20+q.length);have l4:=iz (v:=i);have l6:=iz (v:=16384);have l0:=iz (v:=0);have lc:=iz hc;have la:=My (v:=a);have lb:=My (v:=b);have ajy:B6 ((o:Int),(i:Int),(t:Int),(p:Int),(a:Int),(b:Int),q)=([x0,x1]++(aF ((20+q.length:Nat):Int)++(aF (i:Int)++(aF ((16384:Nat):Int)++[x8,x9]))))++(aF ((0:Nat):Int)++(cn (a:Int)++cn (b:Int))):=by show((((((bs2 69 (gR (o:Int))++aF (20+(q.length:Int)))++aF (i:Int))++aF 16384)++bs2 (gR (t:Int)) (gR (p:Int)))++aF 0)++cn (a:Int))++cn (b:Int)=_;grind
 have eh:yn ((o:Int),(i:Int),(t:Int),(p:Int),(a:Int),(b:Int),q)=([x0,x1]++(aF ((20+q.length:Nat):Int)++(aF (i:Int)++(aF ((16384:Nat):Int)++[x8,x9]))))++(aF (c:Int)++(cn (a:Int)++cn (b:Int))):=by unfold yn;rw[ec,ajy];exact Ez (k:=10) (by simp_all) (by omega)
 generalize hH:yn ((o:Int),(i:Int),(t:Int),(p:Int),(a:Int),(b:Int),q)=H at eh hr;have hHl:H.length=20:=by simp_all
 have e:H++q++z=[x0,x1]++(aF ((20+q.length:Nat):Int)++(aF (i:Int)++(aF ((16384:Nat):Int)++([x8,x9]++(aF (c:Int)++(cn (a:Int)++(cn (b:Int)++(q++z)))))))):=by grind
 have et:(H++q++z).take (20+q.length)=H++q:=List.take_left' (by rw[aq,hHl]);have hl:(H++q++z).length=20+q.length+z.length:=by simp only[aq,hHl]
 generalize H++q++z=s at e et hl;have k0:s.drop 0=[x0,x1]++(aF ((20+q.length:Nat):Int)++(aF (i:Int)++(aF ((16384:Nat):Int)++([x8,x9]++(aF (c:Int)++(cn (a:Int)++(cn (b:Int)++(q++z)))))))):=e;have k1:s.drop 1=x1::(aF ((20+q.length:Nat):Int)++(aF (i:Int)++(aF ((16384:Nat):Int)++([x8,x9]++(aF (c:Int)++(cn (a:Int)++(cn (b:Int)++(q++z)))))))):=rX k0;have k2:=eD k0 (n:=2) rfl;have k4:=eD k2 l2;have k6:=eD k4 l4;have k8:s.drop 8=x8::x9::(aF (c:Int)++(cn (a:Int)++(cn (b:Int)++(q++z)))):=eD k6 l6;have k10:s.drop 10=aF (c:Int)++(cn (a:Int)++(cn (b:Int)++(q++z))):=rX (rX k8);have k12:s.drop 12=cn (a:Int)++(cn (b:Int)++(q++z)):=eD k10 lc;have k16:s.drop 16=cn (b:Int)++(q++z):=eD k12 la;have k20:s.drop 20=q++z:=eD k16 lb;have f1:bV s 1=o:=(zE k1).trans e1;have f2:cH s 2=((20+q.length:Nat):Int):=jt (k:=2) (by omega) k2;have f4:cH s 4=(i:Int):=jt (k:=4) (by omega) k4;have f8:bV s 8=t:=(zE k8).trans e8';have f9:bV s 9=p:=(zE (rX k8)).trans e9;have f12:fM s 12=(a:Int):=xc (k:=12) (by omega) k12;have f16:fM s 16=(b:Int):=xc (k:=16) (by omega) k16;have fq:(s.take (20+q.length)).drop 20=q:=by simp(disch:=omega)[congrArg]
 have ea:HY s=((o:Int),(i:Int),(t:Int),(p:Int),(a:Int),(b:Int),q):=by unfold HY;rw[f1,f2,f4,f8,f9,f12,f16,aC,fq]
 unfold me;rw[ea,hr,f2,aC,et,ie,ie,ie];grind
theorem sum_nat (a b:Int)(g:fu):∃c:Nat,c<=65535/\JQ a b g=(c:Int):=by unfold JQ;cases (MO (yt a b g.1 ((bare g).length:Int)++bare g)==0)&&(g.1==17)with|true=>exact⟨65535,by omega,rfl⟩|false=>exact Pn _
theorem aiN {b:Int}(h:zO a b g=true):pL a b g.1 (zy a b g)=(g,true):=by
 have hr:zP a b g=(zy a b g,true):=by grind[zP]
 have hs:ru g=true:=by grind[zO]
 obtain⟨c,hc,ec⟩:=sum_nat a b g;have lc:=iz hc;have l0:=iz (v:=0);unfold ru at hs;simp only[ah,aS,aP,dh]at hs;obtain⟨k,s,d,n,m,f,w,q⟩:=g;simp only at hs hr ec⊢;obtain⟨h1,h2,h3,h4⟩:=hs;obtain⟨s,rfl⟩:=au h1.1;obtain⟨d,rfl⟩:=au h2.1;have ls:=iz (v:=s);have ld:=iz (v:=d);cases h17:k==17 with
 |true=>
  have hk:k=17:=by simpa using h17
  rw[h17]at h4;simp only[af,ah,bD]at h4;obtain⟨rfl,rfl,rfl,rfl⟩:=h4;subst hk;have ln:=iz (v:=8+q.length);have e:zy a b (17,(s:Int),(d:Int),0,0,0,0,q)=(aF (s:Int)++(aF (d:Int)++aF ((8+q.length:Nat):Int)))++(aF (c:Int)++q):=by
   have eb:bare (17,(s:Int),(d:Int),0,0,0,0,q)=(aF (s:Int)++(aF (d:Int)++aF ((8+q.length:Nat):Int)))++(aF ((0:Nat):Int)++q):=by show(((aF (s:Int)++aF (d:Int))++aF (8+(q.length:Int)))++aF 0)++q=_;grind
   unfold zy;rw[ec,eb];exact Ez (k:=6) (by simp_all) (by omega)
  generalize zy a b (17,(s:Int),(d:Int),0,0,0,0,q)=x at e hr;have hl:x.length=8+q.length:=by simp_all;omega
  have k0:x.drop 0=aF (s:Int)++(aF (d:Int)++(aF ((8+q.length:Nat):Int)++(aF (c:Int)++q))):=by simp_all
  have k2:x.drop 2=aF (d:Int)++(aF ((8+q.length:Nat):Int)++(aF (c:Int)++q)):=eD k0 ls;have k4:x.drop 4=aF ((8+q.length:Nat):Int)++(aF (c:Int)++q):=eD k2 ld;have k6:x.drop 6=aF (c:Int)++q:=eD k4 ln;have k8:x.drop 8=q:=eD k6 lc;have f0:cH x 0=(s:Int):=jt (k:=0) (by omega) k0;have f2:cH x 2=(d:Int):=jt (k:=2) (by omega) k2;have eu:RX 17 x=(17,(s:Int),(d:Int),0,0,0,0,q):=by simp_all[RX]
  unfold pL;rw[eu,hr,show((17:Int)==6)=false from rfl,show((17:Int)==17)=true from rfl,az (show(x.length:Int)>=8 by omega)];grind
 |false=>
  rw[h17]at h4;simp only[ae,ah,bD,aS]at h4;obtain⟨rfl,h5,h6,h7,h8⟩:=h4;obtain⟨n,rfl⟩:=au h5.1;obtain⟨m,rfl⟩:=au h6.1;obtain⟨f,rfl⟩:=au h7.1;obtain⟨w,rfl⟩:=au h8.1;obtain⟨y,y',ey,ey'⟩:=Vz (x:=80) (y:=f);have ln:=My (v:=n);have lm:=My (v:=m);have lw:=iz (v:=w);have e:zy a b (6,(s:Int),(d:Int),(n:Int),(m:Int),(f:Int),(w:Int),q)=(aF (s:Int)++(aF (d:Int)++(cn (n:Int)++(cn (m:Int)++([y,y']++aF (w:Int))))))++(aF (c:Int)++(aF ((0:Nat):Int)++q)):=by
   have eb:bare (6,(s:Int),(d:Int),(n:Int),(m:Int),(f:Int),(w:Int),q)=(aF (s:Int)++(aF (d:Int)++(cn (n:Int)++(cn (m:Int)++([y,y']++aF (w:Int))))))++(aF ((0:Nat):Int)++(aF ((0:Nat):Int)++q)):=by show(((((aF (s:Int)++aF (d:Int))++cn (n:Int))++cn (m:Int))++bs2 80 (gR (f:Int)))++aF (w:Int))++cn 0++q=_;grind[NO]
   unfold zy;rw[ec,eb];exact Ez (k:=16) (by grind) (by omega)
  generalize zy a b (6,(s:Int),(d:Int),(n:Int),(m:Int),(f:Int),(w:Int),q)=x at e hr;have hl:x.length=20+q.length:=by grind
  have k0:x.drop 0=aF (s:Int)++(aF (d:Int)++(cn (n:Int)++(cn (m:Int)++([y,y']++(aF (w:Int)++(aF (c:Int)++(aF ((0:Nat):Int)++q))))))):=by grind
  have k2:=eD k0 ls;have k4:=eD k2 ld;have k8:=eD k4 ln;have k12:x.drop 12=y::y'::(aF (w:Int)++(aF (c:Int)++(aF ((0:Nat):Int)++q))):=eD k8 lm;have k14:x.drop 14=aF (w:Int)++(aF (c:Int)++(aF ((0:Nat):Int)++q)):=rX (rX k12);have k16:x.drop 16=aF (c:Int)++(aF ((0:Nat):Int)++q):=eD k14 lw;have k18:x.drop 18=aF ((0:Nat):Int)++q:=eD k16 lc;have k20:x.drop 20=q:=eD k18 l0;have f0:cH x 0=(s:Int):=jt (k:=0) (by omega) k0;have f2:cH x 2=(d:Int):=jt (k:=2) (by omega) k2;have f4:fM x 4=(n:Int):=xc (k:=4) (by omega) k4;have f8:fM x 8=(m:Int):=xc (k:=8) (by omega) k8;have f13:bV x 13=f:=(zE (rX k12)).trans ey';have f14:cH x 14=(w:Int):=jt (k:=14) (by omega) k14;have eu:NC 6 x=(6,(s:Int),(d:Int),(n:Int),(m:Int),(f:Int),(w:Int),q):=by grind[NC]
  unfold pL;rw[eu,hr,show((6:Int)==6)=true from rfl,az (show(x.length:Int)>=20 by omega)];grind
theorem YY (s:Bytes):∃z,pad s=s++z:=by unfold pad;split;all_goals simp_all
theorem Kh (h:cC p=true):vq (dv p).1=(p,0):=by
 have hh:sI p=true:=by grind[cC]
 have hg:=xP hh;have hb:=hh;unfold sI at hb;simp only[ah]at hb;obtain⟨h1,h2,h3,h4,h5,h6,h7,h8,_⟩:=hb;have hlen:=DM hg;have hbl:=KO p.2.2.2.2.2.2.2.2;have hk:dV p.2.2.2.2.2.2.2.2.1 0 255=true:=by unfold ru at hg;simp only[ah]at hg;have g4:=hg.2.2.2;cases h17:p.2.2.2.2.2.2.2.2.1==17 with|true=>rw[show p.2.2.2.2.2.2.2.2.1=17 from by simpa using h17];rfl|false=>rw[h17]at g4;simp only[ae,ah,bD]at g4;rw[g4.1];rfl
 have hs:zO p.2.2.2.2.2.2.1 p.2.2.2.2.2.2.2.1 p.2.2.2.2.2.2.2.2=true:=by grind[zO,yu,aS]
 have es:Hl p=(zy p.2.2.2.2.2.2.1 p.2.2.2.2.2.2.2.1 p.2.2.2.2.2.2.2.2,true):=by grind[Hl,zP]
 have W7:=WC p.2.2.2.2.2.2.1 p.2.2.2.2.2.2.2.1 p.2.2.2.2.2.2.2.2;rw[show zP p.2.2.2.2.2.2.1 p.2.2.2.2.2.2.2.1 p.2.2.2.2.2.2.2.2=Hl p from rfl,es]at W7;have hi:Up (p.2.2.2.1,p.2.2.2.2.1,p.2.2.2.2.2.1,p.2.2.2.2.2.2.2.2.1,p.2.2.2.2.2.2.1,p.2.2.2.2.2.2.2.1,(Hl p).1)=true:=by grind[Up]
 have ei:Uq p=(yn (p.2.2.2.1,p.2.2.2.2.1,p.2.2.2.2.2.1,p.2.2.2.2.2.2.2.2.1,p.2.2.2.2.2.2.1,p.2.2.2.2.2.2.2.1,(Hl p).1)++(Hl p).1,true):=by grind[Uq,W8]
 have hl:=Nc p;have hp:=LJ (Uq p).1;have he:xb (p.1,p.2.1,p.2.2.1,2048,pad (Uq p).1)=true:=by grind[xb,aS]
 have em:(dv p).1=Eg (p.1,p.2.1,p.2.2.1,2048,pad (Uq p).1):=by grind[dv,ad3,SL]
 have eb:=ag8 he;obtain⟨z,ez⟩:=YY (Uq p).1;have ib:=ajY hi z;grind[aiN,vq]
def P6 (s:Bytes)(i:Nat):Nat:=bV s (i/8)/2^(7-i%8)%2
theorem KQ (s:Bytes)(i:Nat):P6 s i<2:=Nat.mod_lt _ (by omega)
theorem Xr (b k:Nat)(hb:b<256)(hk:k<=7):ar (toNat (gm (ar (fdiv (b:Int) ((2^k:Nat):Int)))&&&gm 1))=((b/2^k%2:Nat):Int):=by have e:fdiv (b:Int) ((2^k:Nat):Int)=((b/2^k:Nat):Int):=(Int.ofNat_fdiv b (2^k)).symm;have h1:b/2^k<=b:=Nat.div_le_self _ _;rw[e,gZ (n:=b/2^k) (by omega)];have:=agL (b/2^k) 1;grind[gZ]
theorem ac3 (s:Bytes)(i:Nat)(hi:i/8<s.length:=by omega)(h:s.length<=10^9:=by omega):Bj s (i:Int)=some ((P6 s i:Nat):Int):=by
 have e1:Int.tdiv (i:Int) 8=((i/8:Nat):Int):=(Int.ofNat_tdiv i 8).symm;have e2:tmod (i:Int) 8=((i%8:Nat):Int):=(Int.ofNat_tmod i 8).symm;unfold Bj;rw[lH,e1,ak (n:=((i/8:Nat):Int)) (by omega) (by omega),bw hi,ab,lH,e2,ak (n:=7-((i%8:Nat):Int)) (by omega) (by omega),lH];have e3:(2:Int)^(min (Int.toNat (7-((i%8:Nat):Int))) (IntKind.bits .u8))=((2^(7-i%8):Nat):Int):=by grind[Int.toNat,IntKind.bits]
 grind[Xr,lY,P6,bV]
theorem adt (s:Bytes)(i:Nat)(hi:i/8<s.length:=by omega)(h:s.length<=10^9:=by omega):Bw s (i:Int)=some ((P6 s i:Nat):Int):=by
 have e1:Int.tdiv (i:Int) 8=((i/8:Nat):Int):=(Int.ofNat_tdiv i 8).symm;have e2:tmod (i:Int) 8=((i%8:Nat):Int):=(Int.ofNat_tmod i 8).symm;have hb:=lY s[i/8];unfold Bw;rw[lH,e1,ak (n:=((i/8:Nat):Int)) (by omega) (by omega),bw hi,ab,lH,e2,ak (n:=7-((i%8:Nat):Int)) (by omega) (by omega),lH,gZ (n:=s[i/8].toNat) (by omega)];have e3:(2:Int)^(min (Int.toNat (7-((i%8:Nat):Int))) (IntKind.bits .i64))=((2^(7-i%8):Nat):Int):=by grind[Int.toNat,IntKind.bits]
 have e4:fdiv ((s[i/8].toNat:Nat):Int) ((2^(7-i%8):Nat):Int)=((s[i/8].toNat/2^(7-i%8):Nat):Int):=(Int.ofNat_fdiv _ _).symm;have h1:s[i/8].toNat/2^(7-i%8)<=s[i/8].toNat:=Nat.div_le_self _ _;have key:=Xr s[i/8].toNat (7-i%8) hb (by omega);rw[e4,gZ (n:=s[i/8].toNat/2^(7-i%8)) (by omega)]at key;simp_all[P6,bV]
def win (s:Bytes)(a:Nat):Nat->Nat
 |0=>0
 |j+1=>2*win s a j+P6 s (a+j)
theorem ajf (s:Bytes)(a:Nat):∀j,win s a j<2^j
 |0=>by simp[win]
 |j+1=>by have:=ajf s a j;grind[KQ,win]
theorem Su (s:Bytes)(a j:Nat)(hj:j<=32):win s a j<4294967296:=Nat.lt_of_lt_of_le (ajf s a j) (Nat.pow_le_pow_right (n:=2) (by omega) hj)
def Z4 (s:Bytes)(a:Int):Int:=bif ((s.length:Int) !=16)|| !dV a 0 96 then-1 else((win s a.toNat 32:Nat):Int)
theorem ajW (s:Bytes)(a:Int):xY s a=some (Z4 s a):=by
 unfold xY Z4;rw[dI];cases hs:(s.length:Int) !=16;case true=>rfl
 cases ha:dV a 0 96;rfl;have h1:=aS.1 ha;have h2:s.length=16:=by simp at hs;omega
 obtain⟨a,rfl⟩:=au h1.1;simp only[ae,ab,aj,bN,aC];refine dA (λi=>(((win s a i:Nat):Int),((a+i:Nat):Int))) 32 (by omega) (λi nx hi=>?_) (λnx=>?_);have hw:=Su s a i (by omega);have hb:=KQ s (a+i);simp only[sN];rw[ak (n:=(a:Int)+32) (by omega) (by omega),kW,af,lH,ac3 s (a+i),ab,ak (n:=((a+i:Nat):Int)+1) (by omega) (by omega)];have e1:ar (((win s a i:Nat):Int)*2^(ql 1))=((2^1*win s a i:Nat):Int):=by have:(2:Int)^(ql 1)=2:=rfl;rw[this,ak (by omega) (by omega)];omega
 rw[e1,Kr _ _ _];rw[show(((a+i:Nat):Int)+1)=((a+(i+1):Nat):Int) by omega];rfl;simp only[sN];rw[ak (n:=(a:Int)+32) (by omega) (by omega),ie];rfl
theorem akw (s:Bytes)(a:Int):yF s a=some (Z4 s a):=by
 unfold yF Z4;rw[cR];cases hs:(s.length:Int) !=16;case true=>rfl
 cases ha:dV a 0 96;rfl;have h1:=aS.1 ha;have h2:s.length=16:=by simp at hs;omega
 obtain⟨a,rfl⟩:=au h1.1;simp only[ae,ab,aj,bN,aC];refine dA (λi=>(((win s a i:Nat):Int),(i:Int))) 32 (by omega) (λi nx hi=>?_) (λnx=>?_);have hw:=Su s a i (by omega);have hb:=KQ s (a+i);simp only[th];rw[kW,af,ak (n:=(a:Int)+(i:Int)) (by omega) (by omega),show(a:Int)+(i:Int)=((a+i:Nat):Int) by omega,adt s (a+i),ab,ak (n:=(i:Int)+1) (by omega) (by omega)];rw[ak (n:=2*((win s a i:Nat):Int)) (by omega) (by omega),ak (by omega) (by omega),win];congr 1;simp only[th];rw[ie];rfl
def Jv (s v:Bytes):Nat->Nat
 |0=>0
 |i+1=>if P6 v i=1 then Jv s v i^^^win s i 32 else Jv s v i
theorem K4 (s v:Bytes):∀i,Jv s v i<4294967296
 |0=>by simp[Jv]
 |i+1=>by have:=K4 s v i;grind[Jv,E9,Su]
def xn (s v:Bytes):Int:=bif ((s.length:Int) !=16)||decide ((v.length:Int)>12) then-1 else((Jv s v (8*v.length):Nat):Int)
theorem ahI (s v:Bytes):xV s v=some (xn s v):=by
 unfold xV xn;cases hs:(s.length:Int) !=16;case true=>rfl
 cases hv:decide ((v.length:Int)>12);case true=>rfl
 have h2:s.length=16:=by simp at hs;omega
 have h3:v.length<=12:=by simp at hv;omega
 simp only[ae,ab,bN];refine dA (λi=>(((Jv s v i:Nat):Int),(i:Int))) (8*v.length) (by omega) (λi nx hi=>?_) (λnx=>?_);have hw:=Su s i 32 (by omega);have hh:=K4 s v i;have hb:=KQ v i;have eW:Z4 s (i:Int)=((win s i 32:Nat):Int):=by unfold Z4;rw[hs,aS.2 (show(0:Int)<=(i:Int)/\(i:Int)<=96 by omega)];rfl
 simp only[sL];rw[ak (n:=8*(v.length:Int)) (by omega) (by omega),kW,af,ac3 v i,ab,ajW,ab,eW,adL _ _ (by omega) (by omega),ak (n:=(i:Int)+1) (by omega) (by omega),gZ (Nat.lt_trans (E9 hh hw) (by omega)),Jv];by_cases h1:P6 v i=1;rw[h1,aI rfl];rfl;rw[aK h1,show(((P6 v i:Nat):Int)==1)=false from by simp;omega];rfl;simp only[sL];rw[ak (n:=8*(v.length:Int)) (by omega) (by omega),ie];rfl
theorem aiT (s v:Bytes):yC s v=some (xn s v):=by
 unfold yC xn;cases hs:(s.length:Int) !=16;case true=>rfl
 cases hv:decide ((v.length:Int)>12);case true=>rfl
 have h2:s.length=16:=by simp at hs;omega
 have h3:v.length<=12:=by simp at hv;omega
 simp only[ae,ab,bN];refine dA (λi=>(((Jv s v i:Nat):Int),(i:Int))) (8*v.length) (by omega) (λi nx hi=>?_) (λnx=>?_);have hw:=Su s i 32 (by omega);have hh:=K4 s v i;have hb:=KQ v i;have eW:Z4 s (i:Int)=((win s i 32:Nat):Int):=by unfold Z4;rw[hs,aS.2 (show(0:Int)<=(i:Int)/\(i:Int)<=96 by omega)];rfl
 simp only[td];rw[ak (n:=8*(v.length:Int)) (by omega) (by omega),kW,af,adt v i,ab,akw,ab,eW,adL _ _ (by omega) (by omega),ak (n:=(i:Int)+1) (by omega) (by omega),gZ (Nat.lt_trans (E9 hh hw) (by omega)),Jv];by_cases h1:P6 v i=1;rw[h1,aI rfl];rfl;rw[aK h1,show(((P6 v i:Nat):Int)==1)=false from by simp;omega];rfl;simp only[td];rw[ak (n:=8*(v.length:Int)) (by omega) (by omega),ie];rfl
def tD (f:Ad):Bytes:=((cn f.2.1++cn f.2.2.1)++aF f.2.2.2.1)++aF f.2.2.2.2
theorem T7 (f:Ad):(tD f).length<=12:=by grind[eR,bR,tD]
theorem aa7 (f:Ad):xW f=some (tD f):=by have:=eR f.2.1;have:=eR f.2.2.1;have:=bR f.2.2.2.1;have:=bR f.2.2.2.2;simp only[xW,Dy,mJ,ab];rw[bf (by omega),bf (by grind),bf (by grind)];rfl
theorem aca (f:Ad):yD f=some (tD f):=by have:=eR f.2.1;have:=eR f.2.2.1;have:=bR f.2.2.2.1;have:=bR f.2.2.2.2;simp only[yD,mS,ja,ab];rw[bf (by omega),bf (by grind),bf (by grind)];rfl
theorem Lg (s:Bytes)(f:Ad):vJ s f=some (xn s (tD f)):=by grind[vJ,aa7,ahI,ab]
theorem Mc (s:Bytes)(f:Ad):vW s f=some (xn s (tD f)):=by grind[vW,aca,aiT,ab]
def ES (s:lz)(f:Ad):Int:=bif ((s.2.length:Int)==0)||decide (xn s.1 (tD f)<0) then-1 else tmod (xn s.1 (tD f)) (s.2.length:Int)
theorem aex (s:lz)(f:Ad):Cl s f=some (ES s f):=by grind[Cl,ES,Lg,ab]
theorem af0 (s:lz)(f:Ad):Cy s f=some (ES s f):=by grind[Cy,ES,Mc,ab]
theorem MS (s:lz)(f:Ad)(h:¬ES s f<0):∃n:Nat,ES s f=(n:Int)/\n<s.2.length:=by
 unfold ES at h⊢;cases hc:((s.2.length:Int)==0)||decide (xn s.1 (tD f)<0)with
 |true=>grind
 |false=>
  rw[hc]at h;simp only[de,cq,dh]at hc;simp only[ae]at h⊢;have h1:0<=xn s.1 (tD f):=by omega
  rw[eM h1]at h⊢;have:=im (xn s.1 (tD f)) (show(0:Int)<s.2.length by omega);grind[au]
def Jd (s:lz)(q:Int)(f:Ad):Int:=bif !wZ s q||decide (ES s f<0) then-1 else s.2.getD (ES s f).toNat 0
theorem Yv (s:lz)(q:Int)(f:Ad)(h:s.2.length<=10^9):ux s q f=some (Jd s q f):=by unfold ux Jd;grind[aex,ab,Q9,MS,fG,bw]
theorem ZK (s:lz)(q:Int)(f:Ad)(h:s.2.length<=10^9):uT s q f=some (Jd s q f):=by unfold uT Jd;grind[af0,ab,Kw,MS,fG,bw]
theorem Vo (t:ax Slot)(f:Ad)(h:∀j,j<8->rQ (iu t j) f=false):∀n k,walk t f n k= -1
 |0,_=>rfl
 |n+1,k=>by unfold walk;rw[h _ (Ji f k),Vo t f h n (k+1)];split<;>rfl
theorem NX (f:Ad):∀(t:ax Slot)(m:Int),(∀s∈t,rQ s f=false)->BD f t m= -1
 |[],_,_=>rfl
 |s::r,m,h=>by unfold BD;rw[h s (by simp)];exact NX f r (m+1) (λx hx=>h x (by simp[hx]))
theorem aaK (t:ax Slot)(f:Ad)(h:sD t=true):BD f t 0=walk t f 8 0:=by simp only[sD,ah,bD,aO,cP]at h;obtain⟨h8,hs⟩:=h;by_cases hex:∃j,j<t.length/\rQ (iu t j) f=true;obtain⟨j,hj,hu,e⟩:=HC f t 0 hex;have:=hs j (by omega);simp only[pO,ah,dE,aP,bD]at this;simp only[rQ,ah,bD,bE]at hu;rcases this.2 with g|g;rw[hu.1]at g;simp at g;rw[hu.2]at g;rw[show((0:Int))=((0:Nat):Int) from rfl,e,g];omega;have hn:∀j,j<t.length->rQ (iu t j) f=false:=λj hj=>Bool.eq_false_iff.2 λhu=>hex ⟨j,hj,hu⟩;rw[Vo t f (λj hj=>hn j (by omega)),NX];intro s wu;obtain⟨j,hj,rfl⟩:=fO wu;have:=hn j hj;rwa[zR hj]at this
def findF (t:ax Slot)(f:Ad):Int:=bif sD t then walk t f 8 0 else-1
theorem Wa (t:ax Slot)(f:Ad)(h:t.length<=10^9):Ak t f=some (findF t f):=by grind[Ak,findF,Un,ab,Yu,aaK]
theorem WH (t:ax Slot)(f:Ad):AJ t f=some (findF t f):=by grind[AJ,findF,NK,ab,sD,R2]
theorem adJ (t:ax Slot)(f:Ad):∀n k,walk t f n k= -1\/∃m:Nat,walk t f n k=(m:Int)/\m<8
 |0,_=> .inl rfl
 |n+1,k=>by unfold walk;split;exact .inl rfl;split;exact .inr ⟨_,rfl,Ji f k⟩;exact adJ t f n (k+1)
theorem Qx (t:ax Slot)(f:Ad)(h:findF t f>=0):∃m:Nat,findF t f=(m:Int)/\m<t.length:=by
 unfold findF at h⊢;cases ht:sD t with
 |false=>grind
 |true=>
  rw[ht]at h;simp only[af]at h⊢;have h8:t.length=8:=by grind[sD]
  rcases adJ t f 8 0 with g|⟨m,g,hm⟩;all_goals grind
def kj (f:Filter)(p:aH):Bool:=mY f&&(((p.1==f.1)||((p.1==281474976710655)||f.2.1))&&((p.2.2.1== -1)||hasB f.2.2 p.2.2.1))
theorem Yk (f:Filter)(p:aH)(h:f.2.2.length<=10^9):Ci f p=some (kj f p):=by grind[Ci,Q2,ajP,ab,kj]
theorem OA (f:Filter)(p:aH)(h:f.2.2.length<=10^9):yy f p=some (kj f p):=by grind[yy,GG,akt,ab,kj]
def preB (a b n:Int):Bool:=fdiv a (2^(min (Int.toNat (ar (32-n))) (IntKind.bits .i64)))==fdiv b (2^(min (Int.toNat (ar (32-n))) (IntKind.bits .i64)))
theorem UX {r:jX}(h:FM r=true):0<=r.2.2.2.1/\r.2.2.2.1<=32:=by grind[FM,oe,cR,ab,dV]
def acT (r:jX)(p:aH):Bool:=preB r.2.2.1 p.2.2.2.2.2.2.1 r.2.2.2.1&&(dV p.2.2.2.2.2.2.2.2.2.2.1 r.2.2.2.2.1 r.2.2.2.2.2.1&&((r.2.2.2.2.2.2.1== -2)||(r.2.2.2.2.2.2.1==p.2.2.1)))
def DF (r:jX)(p:aH):Bool:=FM r&&(cC p&&(((r.2.1==0)||(r.2.1==p.2.2.2.2.2.2.2.2.1))&&acT r p))
theorem ajS (a b n:Int)(h0:0<=n)(h1:n<=32):rn a b n=some (preB a b n):=by grind[rn,preB,ak]
theorem aeC (r:jX)(p:aH):uu r p=some (DF r p):=by unfold uu DF;rw[ahR,ab];grind[UX,rZ,ajS,dI,ab,acT]
theorem af3 (r:jX)(p:aH):uQ r p=some (DF r p):=by
 unfold uQ DF;rw[R8,ab];cases hr:FM r;rfl;have hp:=UX hr;have hw:¬ar (32-r.2.2.2.1)<0:=by grind[ak]
 simp only[uJ,BR,aK hw,cR,ab,acT];rw[show(fdiv r.2.2.1 (2^(min (Int.toNat (ar (32-r.2.2.2.1))) (IntKind.bits .i64)))==fdiv p.2.2.2.2.2.2.1 (2^(min (Int.toNat (ar (32-r.2.2.2.1))) (IntKind.bits .i64))))=preB r.2.2.1 p.2.2.2.2.2.2.1 r.2.2.2.1 from rfl];cases cC p<;>cases r.2.1==0<;>cases r.2.1==p.2.2.2.2.2.2.2.2.1<;>cases preB r.2.2.1 p.2.2.2.2.2.2.1 r.2.2.2.1<;>cases dV p.2.2.2.2.2.2.2.2.2.2.1 r.2.2.2.2.1 r.2.2.2.2.2.1<;>cases r.2.2.2.2.2.2.1== -2<;>rfl
def Ox:jX:=(0,0,0,0,0,0,0,0,0)
def xk (l:ax jX)(p:aH):Nat->Int
 |0=> -1
 |i+1=>bif DF (l.getD i Ox) p&&(decide (xk l p i<0)||decide ((l.getD i Ox).1<(l.getD (xk l p i).toNat Ox).1)) then(i:Int) else xk l p i
theorem P1 (l:ax jX)(p:aH):∀i,xk l p i= -1\/∃n:Nat,xk l p i=(n:Int)/\n<i
 |0=> .inl rfl
 |i+1=>by rw[xk];cases DF (l.getD i Ox) p&&(decide (xk l p i<0)||decide ((l.getD i Ox).1<(l.getD (xk l p i).toNat Ox).1))with|true=>grind|false=>rcases P1 l p i with h|⟨n,h,hn⟩;all_goals grind
theorem TA (l:ax jX)(p:aH)(i:Nat)(hi:i<l.length)(nx:Int×Int->aA R): (aa (cond (DF l[i] p) (cond (decide (xk l p i<0)) (some true) (aa (idx l (xk l p i)) λx4=>some (decide (l[i].1<x4.1)))) (some false)) λq5=>cond q5 (nx ((i:Int),((i+1:Nat):Int))) (nx (xk l p i,((i+1:Nat):Int))))=nx (xk l p (i+1),((i+1:Nat):Int)):=by
 rw[xk,fD hi];cases DF l[i] p;rfl;rcases P1 l p i with h|⟨n,h,hn⟩;rw[h];rfl;have hl:n<l.length:=by omega
 rw[h,aw (show¬(n:Int)<0 by omega),bw hl];simp only[af,ae,ab,aC,fD hl,bH,cM];cases decide (l[i].1<l[n].1)<;>rfl
def Eh (l:ax jX)(p:aH):Int:=bif BK l then xk l p l.length else-1
theorem Qy (l:ax jX)(p:aH)(h:Eh l p>=0):∃n:Nat,Eh l p=(n:Int)/\n<l.length:=by unfold Eh at h⊢;cases hr:BK l with|false=>grind|true=>rw[hr]at h;simp only[af]at h⊢;rcases P1 l p l.length with g|g;omega;exact g
theorem aeA (l:ax jX)(p:aH)(h:l.length<=10^9):Am l p=some (Eh l p):=by unfold Am Eh;rw[Uj l h,ab];cases BK l;rfl;simp only[aj,ae,af];refine dA (λi=>(xk l p i,(i:Int))) l.length (by omega) (λi nx hi=>?_) (λnx=>?_);simp only[uj];rw[kW,bw hi,ak (n:=(i:Int)+1) (by omega) (by omega)];simp only[af,ab,aeC];exact TA l p i hi nx;simp only[uj];rw[ie];rfl
theorem af2 (l:ax jX)(p:aH)(h:l.length<=10^9):AK l p=some (Eh l p):=by
 have zj:=dD;unfold AK Eh;cases hr:BK l with
 |false=>
  obtain⟨f,hf⟩:∃f,fuel=f+1:=⟨fuel-1,by omega⟩
  rw[hf,aZ];simp only[pR,Ja l h,hr,ab];cases decide ((0:Int)<(l.length:Int))<;>rfl
 |true=>simp only[af];refine dA (λi=>(xk l p i,(i:Int))) l.length (by omega) (λi nx hi=>?_) (λnx=>?_);simp only[pR,Ja l h,hr];rw[kW,bw hi,ak (n:=(i:Int)+1) (by omega) (by omega)];simp only[af,ab,af3];exact TA l p i hi nx;simp only[pR];rw[ie];rfl
def dJ (p:aH):Ad:=(p.2.2.2.2.2.2.2.2.1,p.2.2.2.2.2.2.1,p.2.2.2.2.2.2.2.1,p.2.2.2.2.2.2.2.2.2.1,p.2.2.2.2.2.2.2.2.2.2.1)
theorem Q3 (p:aH):xr p=some (dJ p):=rfl
theorem Mb (p:aH):tX p=some (dJ p):=rfl
def ani:Slot:=(0,(0,0,0,0,0),0)
def gA (s:cX)(q:Int)(p:aH):Int:=
 bif !eX s q|| !cC p then-1 else
 bif decide (Eh s.1 p>=0) then(bif (s.1.getD (Eh s.1 p).toNat Ox).2.2.2.2.2.2.2.1==1 then-1 else(s.1.getD (Eh s.1 p).toNat Ox).2.2.2.2.2.2.2.2) else
 bif decide (findF s.2.1 (dJ p)>=0) then(s.2.1.getD (findF s.2.1 (dJ p)).toNat ani).2.2 else Jd s.2.2 q (dJ p)
theorem aeK (s:cX)(q:Int)(p:aH)(h1:s.1.length<=10^9)(h2:s.2.1.length<=10^9)(h3:s.2.2.2.length<=10^9):uy s q p=some (gA s q p):=by unfold uy gA;rw[Lm s q h1 h2 h3,ab,rZ,ab];cases eX s q;rfl;cases cC p;rfl;simp only[aj,ae,ab,bN,aeA s.1 p h1,Q3,Wa s.2.1 _ h2,Yv s.2.2 q _ h3];grind[Qy,bw,ab,Qx]
theorem Vd (s:cX)(q:Int)(p:aH)(h1:s.1.length<=10^9)(h2:s.2.1.length<=10^9)(h3:s.2.2.2.length<=10^9):qb s q p=some (gA s q p):=by unfold qb gA;rw[Cx s q h1 h2 h3,ab,uJ,ab];cases eX s q;rfl;cases cC p;rfl;simp only[aj,ae,ab,bN,af2 s.1 p h1,Mb,WH s.2.1 _,ZK s.2.2 q _ h3];grind[Qy,bw,ab,Qx]
theorem hU (a:bK)(h:a.length<=1073741824:=by omega):dN a=some a:=by simp_all[dN,mz,bf]
theorem ju (a:bK)(h:a.length<=1073741824:=by omega):ee a=some a:=by grind[ee,bf]
theorem OY (l:bK)(h:l.length<=10^9):mz l=some l:=by grind[mz,gL]
theorem Q0 (f:Filter)(h:f.2.2.length<=10^9):wH f=some f:=by grind[wH,qt,ab]
theorem yx (f:Filter)(h:f.2.2.length<=10^9):qX f=some f:=by simp only[qX,gL h,bU]
theorem BH (l:ax Stream)(h:l.length<=10^9:=by omega):my l=some l:=by grind[my,gL]
theorem S0 (t:ax Slot)(h:t.length<=10^9):yh t=some t:=by grind[yh,gL]
theorem Q1 (s:lz)(h:s.2.length<=10^9):wI s=some s:=by grind[wI,qt,ab]
theorem SZ (s:cX)(h1:s.1.length<=10^9)(h2:s.2.1.length<=10^9)(h3:s.2.2.2.length<=10^9):sS s=some s:=by simp only[sS,gL h1,S0 _ h2,Q1 _ h3,ab,bU]
theorem JK (t:ax Slot)(h:t.length<=10^9):yR t=some t:=by grind[yR,gL]
theorem AE (s:cX)(h1:s.1.length<=10^9)(h2:s.2.1.length<=10^9)(h3:s.2.2.2.length<=10^9):qW s=some s:=by simp only[qW,gL h1,JK _ h2,gL h3,ab,bU]
theorem U4 (l:ax nq)(i:Nat)(hi:i<l.length):l.take i++[(l[i].1,l[i].2.1,l[i].2.2)]=l.take (i+1):=(bz hi).symm
theorem Ld (l:ax nq)(h:l.length<=10^9)(hx:∀x∈l,x.2.2.length<=10^9):vP l=some l:=by unfold vP;refine(dA (λi=>(l.take i,(i:Int))) l.length (by omega) (λi nx hi=>?_) (λnx=>?_));simp only[uG];rw[kW,bw hi,ak (by omega) (by omega)];simp only[af,ab,qt _ (hx _ (bn hi))];rw[bf (by simp;omega),U4 l i hi];rfl;simp only[uG];rw[ie,cQ];rfl
structure aae (t:cz):Prop where
 p:t.2.1.2.2.2.length<=10^9
 w:t.2.2.1.length<=10^9
 x:∀x∈t.2.2.1,x.2.2.length<=10^9
theorem Ki (t:cz)(z:aae t):tH t=some t:=by simp only[tH,xm _ z.p,Ld _ z.w z.x,ab]
theorem DP (t:cz)(z:aae t):kO t=some t:=by have h:=z.w;unfold kO;simp only[zL _ z.p,ab];refine(dA (λi=>((i:Int),t.1,t.2.1,t.2.2.1.take i,t.2.2.2)) t.2.2.1.length (by omega) (λi nx hi=>?_) (λnx=>?_));simp only[wW];rw[kW,bw hi,ak (by omega) (by omega)];simp only[af,ab,gL (z.x _ (bn hi)),bU];rw[bf (by simp;omega),U4 _ i hi];rfl;simp only[wW];rw[ie,cQ];rfl
theorem ak1 (z:dF 1000000000 gY h):aae h.2.2.1:=⟨z.2.2.1.2.1.2.2.2.1,z.2.2.1.2.2.1.1,λx hx=>(z.2.2.1.2.2.1.2 x hx).2.2.1⟩
theorem kG (h:Host)(z:dF 1000000000 gY h):ia h=some h:=by have hp:h.2.2.2.2.1.length<=10^9:=z.2.2.2.2.1.1;have hm:h.1.length<=10^9:=z.1.1;unfold ia;simp only[hU _ (show h.1.length<=1073741824 by omega),yg,gL z.2.1.1,Ki _ (ak1 z),gL z.2.2.2.1.1,ab,bU];refine(dA (λi=>((i:Int),h.1,h.2.1,h.2.2.1,h.2.2.2.1,h.2.2.2.2.1.take i,h.2.2.2.2.2)) h.2.2.2.2.1.length (by omega) (λi nx hi=>?_) (λnx=>?_));simp only[uF];rw[kW,bw hi,ak (by omega) (by omega)];simp only[af,ab,xm _ (z.2.2.2.2.1.2 _ (bn hi)).2.2.2.1];rw[bf (by simp;omega),<-bz hi];rfl;simp only[uF];rw[ie,cQ];simp only[ae,gL z.2.2.2.2.2.1.1,gL z.2.2.2.2.2.2.1.1,Q0 _ z.2.2.2.2.2.2.2.1.2.2.1,SZ _ z.2.2.2.2.2.2.2.2.1.1.1 z.2.2.2.2.2.2.2.2.1.2.1.1 z.2.2.2.2.2.2.2.2.1.2.2.2.1,BH _ z.2.2.2.2.2.2.2.2.2.1.1,OY _ z.2.2.2.2.2.2.2.2.2.2.2.1.1,qt _ z.2.2.2.2.2.2.2.2.2.2.2.2.1.1,qt _ z.2.2.2.2.2.2.2.2.2.2.2.2.2.1.1,ab,bU]
theorem kL (h:Host)(z:dF 1000000000 gY h):iU h=some h:=by have hp:h.2.2.2.2.1.length<=10^9:=z.2.2.2.2.1.1;have hm:h.1.length<=10^9:=z.1.1;unfold iU;simp only[ju _ (show h.1.length<=1073741824 by omega),gL z.2.1.1,DP _ (ak1 z),gL z.2.2.2.1.1,ab,bU];refine(dA (λi=>((i:Int),h.1,h.2.1,h.2.2.1,h.2.2.2.1,h.2.2.2.2.1.take i,h.2.2.2.2.2)) h.2.2.2.2.1.length (by omega) (λi nx hi=>?_) (λnx=>?_));simp only[wX];rw[kW,bw hi,ak (by omega) (by omega)];simp only[af,ab,zL _ (z.2.2.2.2.1.2 _ (bn hi)).2.2.2.1];rw[bf (by simp;omega),<-bz hi];rfl;simp only[wX];rw[ie,cQ];simp only[ae,gL z.2.2.2.2.2.1.1,gL z.2.2.2.2.2.2.1.1,yx _ z.2.2.2.2.2.2.2.1.2.2.1,AE _ z.2.2.2.2.2.2.2.2.1.1.1 z.2.2.2.2.2.2.2.2.1.2.1.1 z.2.2.2.2.2.2.2.2.1.2.2.2.1,gL z.2.2.2.2.2.2.2.2.2.1.1,gL z.2.2.2.2.2.2.2.2.2.2.2.1.1,gL z.2.2.2.2.2.2.2.2.2.2.2.2.1.1,gL z.2.2.2.2.2.2.2.2.2.2.2.2.2.1.1,ab,bU]
theorem acS:∀l:ax nq,(bC l).length<=szC (.sl PR) l
 |[]=>by simp[bC]
 |x::l=>by have:=acS l;grind[bC,szC]
def anj:oq:=((0,false,([]:dm)),(([]:ax jX),([]:ax Slot),([]:Bytes),([]:dm)),0,([]:ax Stream),([]:bK))
def FV (h:Host):oq:=bif eU h then(h.2.2.2.2.2.2.2.1,h.2.2.2.2.2.2.2.2.1,(h.2.2.2.1.length:Int),h.2.2.2.2.2.2.2.2.2.1,([]:bK)) else anj
theorem aci (h:Host)(z:dF 1000000000 gY h)(k:JU h):EI h=some (FV h):=by simp only[EI,ry h k,ab,FV];cases eU h with|false=>rfl|true=>simp only[aj,ae,af,yx _ z.2.2.2.2.2.2.2.1.2.2.1,AE _ z.2.2.2.2.2.2.2.2.1.1.1 z.2.2.2.2.2.2.2.2.1.2.1.1 z.2.2.2.2.2.2.2.2.1.2.2.2.1,gL z.2.2.2.2.2.2.2.2.2.1.1,ab,bU]
theorem U6 (h:Host){n:Nat}(z:dF n gY h):dF n vj (FV h):=by unfold FV;cases eU h with|false=>exact⟨⟨dx,dx,cU _,λ_ h=>nomatch h⟩,⟨⟨cU _,λ_ h=>nomatch h⟩,⟨cU _,λ_ h=>nomatch h⟩,cU _,cU _,λ_ h=>nomatch h⟩,dx,⟨cU _,λ_ h=>nomatch h⟩,cU _,λ_ h=>nomatch h⟩|true=>exact⟨z.2.2.2.2.2.2.2.1,z.2.2.2.2.2.2.2.2.1,dx,z.2.2.2.2.2.2.2.2.2.1,cU _,λ_ h=>nomatch h⟩
noncomputable def FU (s:oq):Bool:=mY s.1&&eX s.2.1 s.2.2.1
theorem R9 (s:oq)(h0:s.1.2.2.length<=10^9)(h1:s.2.1.1.length<=10^9)(h2:s.2.1.2.1.length<=10^9)(h3:s.2.1.2.2.2.length<=10^9):xC s=some (FU s):=by grind[xC,FU,GG,Cx,ab]
def atF (f:Ad)(s:Stream):Bool:=decide (s.1=f)
def Ml (l:ax Stream)(f:Ad):Int:=match l.findIdx? (atF f)with|some i=>(i:Int)|none=> -1
theorem ZL (l:ax Stream)(f:Ad)(h:l.length<=10^9):qc l f=some (Ml l f):=by unfold qc Ml;rw[II (p:=atF f) (hit:=λi=>some i) (fin:=some (-1)) l (by omega) (λi hi nx=>?hs) (λnx=>?hf)];all_goals grind[vA,bw,ak,ab,atF]
theorem Yw (l:ax Stream)(f:Ad)(h:l.length<=10^9):jy l f=some (Ml l f):=by unfold jy Ml;rw[II (p:=atF f) (hit:=λi=>some i) (fin:=some (-1)) l (by omega) (λi hi nx=>?hs) (λnx=>?hf)];all_goals grind[lO,bw,ak,ab,atF]
def WR:Stream:=((0,0,0,0,0),0,([]:Bytes),false)
def body (p:aH):Bytes:=p.2.2.2.2.2.2.2.2.2.2.2.2.2.2.2
def udp (p:aH):Bytes:=aF ((body p).length:Int)++body p
def lW (p:aH)(b:Int):Bool:=ar (toNat (gm p.2.2.2.2.2.2.2.2.2.2.2.2.2.1&&&gm b)) !=0
def fI (s:Stream)(p:aH):Int:=(s.2.1-p.2.2.2.2.2.2.2.2.2.2.2.1)%4294967296
def Tp (s:Stream)(p:aH):Stream:=(s.1,(s.2.1+((body p).length:Int)-fI s p)%4294967296,s.2.2.1++(body p).drop (fI s p).toNat,lW p 1)
def jx (l:ax Stream)(p:aH):ax Stream:=
 bif !cC p then l else
 match l.findIdx? (atF (dJ p))with
 |none=>
  bif p.2.2.2.2.2.2.2.2.1==17 then l++[(dJ p,0,udp p,false)] else
  bif lW p 2 then l++[(dJ p,tmod (ar (p.2.2.2.2.2.2.2.2.2.2.2.1+1)) 4294967296,([]:Bytes),false)] else l
 |some i=>
  bif p.2.2.2.2.2.2.2.2.1==17 then l.set i ((l.getD i WR).1,(l.getD i WR).2.1,(l.getD i WR).2.2.1++udp p,(l.getD i WR).2.2.2) else
  bif lW p 2 then l else
  bif (l.getD i WR).2.2.2||lW p 4 then l else
  bif decide (fI (l.getD i WR) p<=((body p).length:Int)) then l.set i (Tp (l.getD i WR) p) else l
theorem PX (s:Stream)(p:aH):0<=fI s p/\fI s p<4294967296:=by unfold fI;omega
theorem ah9 (x:Int):ar (toNat (gm x&&&gm 4294967295))=x%4294967296:=by have:=Fe x 32;grind[ak]
theorem ajg (x:Int):ar x%4294967296=x%4294967296:=by have:=FZ x 32;omega
theorem L4 (l:ax α)(x y:α):(l++[x]).set l.length y=l++[y]:=by grind
theorem ac2 {l:ax α}{i:Nat}(h:i<l.length)(x:α):idx (l.set i x) (i:Int)=some x:=by rw[Px,bL h]
theorem Ch (l:ax α)(x:α):idx (l++[x]) (l.length:Int)=some x:=by grind[Px]
theorem P8 (h:cC p=true):(body p).length<=320:=Aa h
theorem V8 (l:ax Stream)(p:aH)(h:dF 900000000 (.sl kY) l):Ck l p=some (jx l p):=by
 have hl:l.length<=900000000:=h.1;unfold Ck jx;simp only[BH l,rZ,ab,Q3,Yw l _ (show l.length<=10^9 by omega),mJ];cases hs:cC p;rfl;have hb:=P8 hs;have hw:=bR ((body p).length:Int);simp only[aj,ae];rw[show p.2.2.2.2.2.2.2.2.2.2.2.2.2.2.2=body p from rfl];cases hf:l.findIdx? (atF (dJ p))with
 |none=>
  have e1:Ml l (dJ p)= -1:=by rw[Ml,hf]
  simp only[e1,show decide ((-1:Int)<0)=true from rfl,af];cases p.2.2.2.2.2.2.2.2.1==17 with|true=>simp only[af];rw[bf (by simp;omega),Ch,ab];simp only;rw[bf (by omega),bf (by simp only[aq,eO];omega),ab,aC];simp only[ab,Ch,L4,bU];rfl|false=>simp only[ae];rw[show(ar (toNat (gm p.2.2.2.2.2.2.2.2.2.2.2.2.2.1&&&gm 2)) !=0)=lW p 2 from rfl];cases lW p 2 with|true=>simp only[af];rw[lH,bf (by simp;omega)]|false=>rfl
 |some i=>
  obtain⟨hi,_⟩:=List.findIdx?_eq_some_iff_getElem.1 hf;have hd:(l[i].2.2.1).length<=900000000:=(h.2 _ (bn hi)).2.2.1;have e1:Ml l (dJ p)=(i:Int):=by rw[Ml,hf]
  simp only[e1,aw (show¬(i:Int)<0 by omega),ae,bw hi,ab,fD hi,aC];cases p.2.2.2.2.2.2.2.2.1==17 with
  |true=>simp only[af];rw[bf (by omega),bf (by simp only[aq];omega)];rfl
  |false=>
   simp only[ae];rw[show(ar (toNat (gm p.2.2.2.2.2.2.2.2.2.2.2.2.2.1&&&gm 2)) !=0)=lW p 2 from rfl,show(ar (toNat (gm p.2.2.2.2.2.2.2.2.2.2.2.2.2.1&&&gm 4)) !=0)=lW p 4 from rfl,show(ar (toNat (gm p.2.2.2.2.2.2.2.2.2.2.2.2.2.1&&&gm 1)) !=0)=lW p 1 from rfl];cases lW p 2;case true=>rfl
   simp only[ae];rw[show(aa (cond l[i].2.2.2 (some true) (some (lW p 4))):(Bool->aA (ax Stream))->aA (ax Stream))=λK=>K (l[i].2.2.2||lW p 4) from by funext K;cases l[i].2.2.2<;>rfl];simp only;cases l[i].2.2.2||lW p 4;case true=>rfl
   simp only[ae,Nk _ 4294967296,ab,ajg];rw[show(l[i].2.1-p.2.2.2.2.2.2.2.2.2.2.2.1)%4294967296=fI l[i] p from rfl];have ha:=PX l[i] p;by_cases hq:fI l[i] p<=((body p).length:Int)
   rw[az hq,vh (l:=body p) (fI l[i] p).toNat];simp only[af,ab];rw[bf (by rw[bA];omega)];simp only[ac2 hi,ab,List.set_set];refine congrArg some (congrArg (l.set i) ?_);simp only[Tp];rw[show(ar (l[i].2.1+((body p).length:Int))-fI l[i] p)%4294967296=(l[i].2.1+((body p).length:Int)-fI l[i] p)%4294967296 from by rw[Int.sub_emod,ajg,<-Int.sub_emod]];rw[aw hq];rfl
theorem L7 (l:ax Stream)(p:aH)(h:dF 900000000 (.sl kY) l):uK l p=some (jx l p):=by
 have hl:l.length<=900000000:=h.1;unfold uK jx;rw[gL (by omega)];simp only[bU,uJ,ab,Mb,ZL l _ (show l.length<=10^9 by omega),ja];cases hs:cC p;rfl;have hb:=P8 hs;have hw:=bR ((body p).length:Int);simp only[aj,ae];rw[show p.2.2.2.2.2.2.2.2.2.2.2.2.2.2.2=body p from rfl];cases hf:l.findIdx? (atF (dJ p))with
 |none=>
  have e1:Ml l (dJ p)= -1:=by rw[Ml,hf]
  simp only[e1,show decide ((-1:Int)<0)=true from rfl,af];cases p.2.2.2.2.2.2.2.2.1==17 with|true=>simp only[af];rw[bf (by simp;omega),Ch,ab];simp only;rw[bf (by simp only[eO];omega),bf (by simp only[aq,eO];omega),ab,aC];simp only[ab,Ch,L4,bU];rfl|false=>simp only[ae];rw[show(ar (toNat (gm p.2.2.2.2.2.2.2.2.2.2.2.2.2.1&&&gm 2)) !=0)=lW p 2 from rfl];cases lW p 2 with|true=>simp only[af];rw[lH,bf (by simp;omega)]|false=>rfl
 |some i=>
  obtain⟨hi,_⟩:=List.findIdx?_eq_some_iff_getElem.1 hf;have hd:(l[i].2.2.1).length<=900000000:=(h.2 _ (bn hi)).2.2.1;have e1:Ml l (dJ p)=(i:Int):=by rw[Ml,hf]
  simp only[e1,aw (show¬(i:Int)<0 by omega),ae,bw hi,ab,fD hi,aC];cases p.2.2.2.2.2.2.2.2.1==17 with
  |true=>simp only[af];rw[bf (by omega),bf (by simp only[aq];omega),aG];rfl
  |false=>
   simp only[ae];rw[show(ar (toNat (gm p.2.2.2.2.2.2.2.2.2.2.2.2.2.1&&&gm 2)) !=0)=lW p 2 from rfl,show(ar (toNat (gm p.2.2.2.2.2.2.2.2.2.2.2.2.2.1&&&gm 4)) !=0)=lW p 4 from rfl,show(ar (toNat (gm p.2.2.2.2.2.2.2.2.2.2.2.2.2.1&&&gm 1)) !=0)=lW p 1 from rfl];cases lW p 2;case true=>rfl
   simp only[ae];rw[show(aa (cond l[i].2.2.2 (some true) (some (lW p 4))):(Bool->aA (ax Stream))->aA (ax Stream))=λK=>K (l[i].2.2.2||lW p 4) from by funext K;cases l[i].2.2.2<;>rfl];simp only;cases l[i].2.2.2||lW p 4;case true=>rfl
   simp only[ae,ah9,ab,ajg];rw[show(l[i].2.1-p.2.2.2.2.2.2.2.2.2.2.2.1)%4294967296=fI l[i] p from rfl];have ha:=PX l[i] p;by_cases hq:fI l[i] p<=((body p).length:Int)
   rw[az hq,vh (l:=body p) (fI l[i] p).toNat];simp only[af,ab];rw[bf (by rw[bA];omega)];simp only[ac2 hi,ab,List.set_set,aK (show¬(4294967296:Nat)=0 by omega)];refine congrArg some (congrArg (l.set i) ?_);simp only[Tp];have e:tmod (ar (ar (l[i].2.1%4294967296+((body p).length:Int))-fI l[i] p)) 4294967296=(l[i].2.1+((body p).length:Int)-fI l[i] p)%4294967296:=by rw[ak (n:=l[i].2.1%4294967296+((body p).length:Int)) (by omega) (by omega),ak (by omega) (by omega),eM (by omega)];omega
   rw[e];rw[aw hq];rfl
theorem ZB (l:ax Stream)(p:aH)(h:dF 100000000 (.sl kY) l):uK l p=some (jx l p):=L7 l p (h.mono)
theorem KW {l:ax Stream}{n:Nat}(h:dF n (.sl kY) l):dF (n+322) (.sl kY) (jx l p):=by
 have h':dF (n+322) (.sl kY) l:=h.mono;unfold jx;cases hs:cC p;exact h';have hb:=P8 hs;have hw:=bR ((body p).length:Int);have hu:(udp p).length<=322:=by simp only[udp,aq];omega
 simp only[aj,ae];have app:∀x:Stream,x.2.2.1.length<=n+322->dF (n+322) (.sl kY) (l++[x]):=by intro x hx;refine⟨?_,λy hy=>?_⟩;have:l.length<=n:=h.1;simp only[aq,bu];omega;rcases aB.1 hy with g|g;exact h'.2 y g;rw[bq.1 g];exact⟨⟨dx,dx,dx,dx,dx⟩,dx,hx,dx⟩
 have put:∀(i:Nat)(x:Stream),x.2.2.1.length<=n+322->dF (n+322) (.sl kY) (l.set i x):=by intro i x hx;refine⟨?_,λy hy=>?_⟩;show(l.set i x).length<=_;rw[aL];exact h'.1;rcases List.mem_or_eq_of_mem_set hy with g|rfl;exact h'.2 y g;exact⟨⟨dx,dx,dx,dx,dx⟩,dx,hx,dx⟩
 split;cases p.2.2.2.2.2.2.2.2.1==17 with|true=>exact app _ (show(udp p).length<=_ by omega)|false=>cases lW p 2 with|true=>exact app _ (cU _)|false=>exact h'
 ·rename_i i hf;obtain⟨hi,_⟩:=List.findIdx?_eq_some_iff_getElem.1 hf;have hd:(l[i].2.2.1).length<=n:=(h.2 _ (bn hi)).2.2.1;simp only[fD hi];cases p.2.2.2.2.2.2.2.2.1==17 with
  |true=>exact put _ _ (by simp only[aq];omega)
  |false=>
   cases lW p 2;case true=>exact h'
   cases l[i].2.2.2||lW p 4;case true=>exact h'
   cases decide (fI l[i] p<=((body p).length:Int))with|false=>exact h'|true=>exact put _ _ (by simp only[Tp,aq,bA];omega)
theorem GF (s:oq)(z:dF 1000000000 vj s):vg s=some s:=by simp only[vg,yx _ z.1.2.2.1,AE _ z.2.1.1.1 z.2.1.2.1.1 z.2.1.2.2.2.1,gL z.2.2.2.1.1,gL z.2.2.2.2.1,ab,bU]
def Sl (s:oq)(x:Bytes):Bool:=FU s&&(((fF x).2==0)&&(kj s.1 (fF x).1&&(gA s.2.1 s.2.2.1 (fF x).1 != -1)))
def FJ (s:oq)(x:Bytes):oq:=bif Sl s x then(s.1,s.2.1,s.2.2.1,jx s.2.2.2.1 (fF x).1,s.2.2.2.2) else s
theorem ZH (s:oq)(x:Bytes)(z:dF 100000000 vj s)(h:x.length<=10^9):uR s x=some (FJ s x):=by have z9:dF 1000000000 vj s:=z.mono;unfold uR FJ Sl;simp only[GF s z9,NJ x h,R9 s z9.1.2.2.1 z9.2.1.1.1 z9.2.1.2.1.1 z9.2.1.2.2.2.1,OA s.1 _ z9.1.2.2.1,Vd s.2.1 _ _ z9.2.1.1.1 z9.2.1.2.1.1 z9.2.1.2.2.2.1,ZB s.2.2.2.1 _ z.2.2.2.1,ab];cases FU s<;>cases (fF x).2==0<;>cases kj s.1 (fF x).1<;>cases gA s.2.1 s.2.2.1 (fF x).1 != -1<;>rfl
theorem Wv {s:oq}{n:Nat}(z:dF n vj s):dF (n+322) vj (FJ s x):=by have z':dF (n+322) vj s:=z.mono;unfold FJ;cases Sl s x with|false=>exact z'|true=>exact⟨z'.1,z'.2.1,dx,KW z.2.2.2.1,z'.2.2.2.2⟩
theorem jZ {y:Bytes}{i:Nat}(h:i<x.length):bV (x++y) i=bV x i:=by grind[bV]
theorem tz {y:Bytes}{i:Nat}(h:x.length<=i):bV (x++y) i=bV y (i-x.length):=by grind[bV]
theorem Xu {i n:Nat}(h:i<n):bV (x.take n) i=bV x i:=by grind[bV]
theorem qq {i n:Nat}:bV (x.drop n) i=bV x (n+i):=by grind[bV]
theorem adk {p:Bytes}{a i:Nat}(h:i<a\/a+p.length<=i):bV (vz s (a:Int) p) i=bV s i:=by
 unfold vz gv;by_cases hw:(0:Int)<=a/\(a:Int)+(p.length:Int)<=(s.length:Int)
 rw[az hw,af,aC];have ht:(s.take a).length=a:=by rw[bt];omega
 rcases h with h|h;rw[jZ (by rw[aq];omega),jZ (by omega),Xu h];rw[tz (by rw[aq];omega),qq,aq,ht];congr 1;omega;rw[aw hw];rfl
theorem adj {p:Bytes}{a j:Nat}(hw:a+p.length<=s.length)(hj:j<p.length):bV (vz s (a:Int) p) (a+j)=bV p j:=by unfold vz gv;rw[az ⟨by omega,by omega⟩,af,aC];grind[jZ,tz]
theorem zI {a:Nat}:cH s (a:Int)=bif decide (a+2<=s.length) then((bV s a*256+bV s (a+1):Nat):Int) else-1:=by grind[cH,gv]
theorem HG {a:Nat}(hl:s.length=t.length)(h0:bV s a=bV t a)(h1:bV s (a+1)=bV t (a+1)):cH s (a:Int)=cH t (a:Int):=by grind[zI]
theorem Kd {a:Nat}:cH (s.drop k) (a:Int)=cH s ((k+a:Nat):Int):=by rw[zI,zI,qq,qq,bA,show k+(a+1)=k+a+1 by omega,show decide (a+2<=s.length-k)=decide (k+a+2<=s.length) from decide_eq_decide.2 (by omega)]
theorem IQ {a:Nat}:fM s (a:Int)=bif decide (a+4<=s.length) then(((bV s a*256+bV s (a+1))*65536+(bV s (a+2)*256+bV s (a+3)):Nat):Int) else-1:=by grind[fM,gv]
theorem QJ {a:Nat}:fM (s.drop k) (a:Int)=fM s ((k+a:Nat):Int):=by rw[IQ,IQ,qq,qq,qq,qq,bA,show k+(a+1)=k+a+1 by omega,show k+(a+2)=k+a+2 by omega,show k+(a+3)=k+a+3 by omega,show decide (a+4<=s.length-k)=decide (k+a+4<=s.length) from decide_eq_decide.2 (by omega)]
theorem XS {a:Nat}(hl:s.length=t.length)(h:∀j,j<4->bV s (a+j)=bV t (a+j)):fM s (a:Int)=fM t (a:Int):=by rw[IQ,IQ,hl,show bV s a=bV t a from h 0 (by omega),h 1 (by omega),h 2 (by omega),h 3 (by omega)]
def cD (s:Bytes):Nat:=bif cH s 12==33024 then 18 else 14
def jH (s:Bytes):Nat:=bV s (cD s+9)
def Pc (k:Nat):Nat:=bif (k:Int)==6 then 16 else 6
def wk (s:Bytes):Nat:=cD s+10
def rP (s:Bytes):Nat:=cD s+20+Pc (jH s)
theorem GN (k:Nat):Pc k=16/\k=6\/Pc k=6/\k≠6:=by grind[Pc]
theorem KR (s:Bytes):cD s=18/\(cH s 12==33024)=true\/cD s=14/\(cH s 12==33024)=false:=by grind[cD]
theorem M8 (k:Nat)(h:k<256):gz (k:Int)=some (Pc k:Int):=by grind[gz,Pc]
theorem Ln (s:Bytes)(h:s.length<=10^9):tL s=some ((wk s:Int),(rP s:Int)):=by
 unfold tL;rw[zK s 12 h,ab];have hk:=gq s (cD s+9)
 have core:∀o:Nat,cD s=o->(o=18\/o=14)->(bif decide (ar ((o:Int)+9)<(s.length:Int)) then
  aa (idx s (ar ((o:Int)+9))) λx2=>aa (gz (ar ((UInt8.toNat x2:Int)))) λr3=>some (ar ((o:Int)+10),ar ((ar ((o:Int)+20))+r3))
  else aa (gz 0) λr4=>some (ar ((o:Int)+10),ar ((ar ((o:Int)+20))+r4)))=some ((wk s:Int),(rP s:Int)):=by
  intro o ho h2
  have hs:=GN (jH s)
  rw[ak (n:=(o:Int)+9) (by omega) (by omega),ak (n:=(o:Int)+10) (by omega) (by omega),ak (n:=(o:Int)+20) (by omega) (by omega)]
  unfold wk rP
  rw[ho]
  by_cases hl:o+9<s.length
  ·obtain⟨x,hx,ex⟩:=lM hl
   rw[kW,af,show(o:Int)+9=((o+9:Nat):Int) by omega,hx,ab,ex,gZ (by rw[<-ho];omega),M8 _ (by rw[<-ho];exact hk),ab,show bV s (o+9)=jH s by unfold jH;rw[ho],ak (by omega) (by omega)]
   congr 1
  ·have hz:jH s=0:=by unfold jH;rw[ho];exact JZ
   have h0:gz 0=some (Pc 0:Int):=M8 0 (by omega)
   rw[ie,ae,h0,ab,<-hz,ak (by omega) (by omega)]
   congr 1
 rcases KR s with⟨h1,h2⟩|⟨h1,h2⟩;rw[h2,af];exact core 18 h1 (.inl rfl);rw[h2,ae];exact core 14 h1 (.inr rfl)
theorem R7 (s:Bytes)(h:s.length<=10^9):yT s=some (bif decide (s.length<cD s+46) then(-1, -1) else((wk s:Int),(rP s:Int))):=by
 unfold yT;rw[uI s 12 h,ab];have hk:=gq s (cD s+9)
 have core:∀o:Nat,cD s=o->(o=18\/o=14)->(bif decide ((s.length:Int)<ar ((o:Int)+46)) then some ((-1),(-1)) else
  aa (idx s (ar ((o:Int)+9))) λx2=>bif (ar ((UInt8.toNat x2:Int)))==6 then some (ar ((o:Int)+10),ar ((o:Int)+36)) else some (ar ((o:Int)+10),ar ((o:Int)+26)))=some (bif decide (s.length<cD s+46) then(-1, -1) else((wk s:Int),(rP s:Int))):=by
  intro o ho h2
  rw[ak (n:=(o:Int)+9) (by omega) (by omega),ak (n:=(o:Int)+10) (by omega) (by omega),ak (n:=(o:Int)+46) (by omega) (by omega),ak (n:=(o:Int)+36) (by omega) (by omega),ak (n:=(o:Int)+26) (by omega) (by omega),ho]
  by_cases hl:s.length<o+46
  ·rw[az (show(s.length:Int)<(o:Int)+46 by omega),az hl];rfl
  ·obtain⟨x,hx,ex⟩:=lM (s:=s) (i:=o+9)
   rw[aw (show¬(s.length:Int)<(o:Int)+46 by omega),aw hl,ae,ae,show(o:Int)+9=((o+9:Nat):Int) by omega,hx,ab,ex,gZ (by rw[<-ho];omega),show bV s (o+9)=jH s by unfold jH;rw[ho]]
   unfold wk rP Pc
   rw[ho]
   cases (jH s:Int)==6 with
   |true=>simp only[af];congr 2
   |false=>simp only[ae];congr 2
 rcases KR s with⟨h1,h2⟩|⟨h1,h2⟩;rw[h2,af];exact core 18 h1 (.inl rfl);rw[h2,ae];exact core 14 h1 (.inr rfl)
theorem ade (h:dV a 0 281474976710655=true):(xJ a).length=6:=by
 have ha:=aS.1 h;have e:xJ a=aF (fdiv a (2^(ql 32)))++cn (ar (toNat (gm a&&&gm 4294967295))):=by grind[xJ,jq,ja,mS,ab,bR,eR,bf]
 grind[IntKind.bits,D0,GZ,ah9,aS]
theorem Oc (h:cC p=true):cD (dv p).1+46<=(dv p).1.length:=by
 have hh:sI p=true:=by simp only[cC,ah]at h;exact h.1
 have hp:=LJ (Uq p).1;have hi:=zJ h;unfold dv ad3 SL at hi⊢;rw[h,af]at hi⊢;cases he:xb (p.1,p.2.1,p.2.2.1,2048,pad (Uq p).1)with|false=>rw[he]at hi;cases hi|true=>?_
 simp only[af];simp only[sI,ah]at hh;have m1:=ade hh.1;have m2:=ade hh.2.1;have hv:=aS.1 hh.2.2.1;have w1:(aF 33024).length=2:=rfl;have w3:(aF 2048).length=2:=rfl;generalize pad (Uq p).1=bd at hp⊢;unfold Eg;simp only;generalize xJ p.1=M1 at m1⊢;generalize xJ p.2.1=M2 at m2⊢;by_cases hc:p.2.2.1>=0;have w2:(aF p.2.2.1).length=2:=by rw[D0,aS.2 (by omega)];rfl
 rw[az hc,af];have hb:cD (((((M1++M2)++aF 33024)++aF p.2.2.1)++aF 2048)++bd)=18:=by
  unfold cD;have e12:cH (((((M1++M2)++aF 33024)++aF p.2.2.1)++aF 2048)++bd) ((12:Nat):Int)=33024:=by rw[zI,az (by simp only[aq];omega),af];rw[jZ (by simp only[aq];omega),jZ (by simp only[aq];omega),jZ (by simp only[aq];omega),tz (by simp only[aq];omega)];rw[jZ (by simp only[aq];omega),jZ (by simp only[aq];omega),jZ (by simp only[aq];omega),tz (by simp only[aq];omega)];rw[aq,m1,m2];rfl
  rw[show(12:Int)=((12:Nat):Int) from rfl,e12];rfl
 rw[hb];simp only[aq];omega;rw[aw hc,ae];have hb:cD (((M1++M2)++aF 2048)++bd)=14:=by
  unfold cD;have e12:cH (((M1++M2)++aF 2048)++bd) ((12:Nat):Int)=2048:=by rw[zI,az (by simp only[aq];omega),af];rw[jZ (by simp only[aq];omega),tz (by simp only[aq];omega)];rw[jZ (by simp only[aq];omega),tz (by simp only[aq];omega)];rw[aq,m1,m2];rfl
  rw[show(12:Int)=((12:Nat):Int) from rfl,e12];rfl
 rw[hb];simp only[aq];omega
def nU (t:Bytes)(x y:Bytes):Bytes:=vz (vz t (wk t:Int) x) (rP t:Int) y
theorem EB (t x y:Bytes):(nU t x y).length=t.length:=by grind[nU,vS]
def gQ (p:aH):Bytes×Bool:=bif cC p then(nU (dv p).1 (aF 0) (aF 0),true) else([],false)
theorem Yi (h:cC p=false):dv p=([],false):=by grind[dv]
theorem Uo (p:aH):ow p=some (gQ p):=by have hl:=nv p;have w0:=bR 0;unfold ow gQ nU;rw[IU,ab];cases h:cC p with|false=>rw[Yi h];rfl|true=>rw[zJ h];simp only[aj,ae,af,Ln _ (show(dv p).1.length<=10^9 by omega),ab,mJ,Gi _ _ _ (show(dv p).1.length<=10^9 by omega) (show(aF 0).length<=10^9 by omega),Gi _ _ _ (show(vz (dv p).1 (wk (dv p).1:Int) (aF 0)).length<=10^9 by rw[vS];omega) (show(aF 0).length<=10^9 by omega)]
theorem Ve (p:aH):oD p=some (gQ p):=by have hl:=nv p;unfold oD gQ nU;rw[I8,ab];cases h:cC p with|false=>rw[Yi h];rfl|true=>grind[Oc,zJ,R7,ab,ja,EG,aF,vS]
def G1 (s t:Bytes):Prop:=s.length=t.length/\∀i,i<wk t\/(wk t+2<=i/\i<rP t)\/rP t+2<=i->bV s i=bV t i
theorem Bq (t:Bytes):(cD t=14\/cD t=18)/\wk t=cD t+10/\cD t+26<=rP t/\rP t<=cD t+36/\(rP t=cD t+36/\jH t=6\/rP t=cD t+26/\jH t≠6):=by grind[KR,GN,wk,rP]
theorem JI (t:Bytes){y:Bytes}(hx:x.length<=2)(hy:y.length<=2):G1 (nU t x y) t:=by have:=Bq t;refine⟨EB t x y,λi hi=>?_⟩;grind[nU,adk]
theorem G1.body (h:G1 s t):cD s=cD t:=by have:=Bq t;unfold cD;have e:cH s ((12:Nat):Int)=cH t ((12:Nat):Int):=HG h.1 (h.2 _ (by omega)) (h.2 _ (by omega));grind
theorem G1.kind (h:G1 s t):jH s=jH t:=by have:=Bq t;unfold jH;rw[h.body,h.2 _ (by omega)]
theorem G1.al4 (h:G1 s t):wk s=wk t/\rP s=rP t:=by unfold wk rP;rw[h.body,h.kind];exact⟨rfl,rfl⟩
theorem G1.am9 (h:G1 s t):cH s ((cD t+2:Nat):Int)=cH t ((cD t+2:Nat):Int):=by have:=Bq t;exact HG h.1 (h.2 _ (by omega)) (h.2 _ (by omega))
structure TOk (t:Bytes):Prop where
 eth:(gE t).2=true
 bd:(gE t).1.2.2.2.2=t.drop (cD t)
 l1:cD t+46<=t.length
 n1:20+Pc (jH t)+2<=cH t ((cD t+2:Nat):Int)
 n2:cH t ((cD t+2:Nat):Int)<=(t.length:Int)-(cD t:Int)
theorem Nu (h:(gE s).2=true):(gE s).1.2.2.2.2=s.drop (cD s)/\18<=s.length/\46<=s.length-cD s/\s.length-cD s<=400:=by
 unfold gE at h⊢;by_cases h8:(s.length:Int)<18;rw[az h8]at h;cases h;rw[aw h8]at h⊢;simp only[ae]at h⊢;rcases KR s with⟨h1,h2⟩|⟨h1,h2⟩;rw[h2]at h⊢;simp only[af]at h⊢;cases he:xb (MR s)with|false=>rw[he]at h;cases h|true=>rw[h1];simp only[xb,ah,aS,MR,bA]at he;simp only[af,MR];refine⟨dx,by omega,by omega,by omega⟩
 rw[h2]at h⊢;simp only[ae]at h⊢;cases he:xb (Dg s)with|false=>rw[he]at h;cases h|true=>rw[h1];simp only[xb,ah,aS,Dg,bA]at he;simp only[af,Dg];refine⟨dx,by omega,by omega,by omega⟩
theorem aiA (h:(vq s).2=0):(gE s).2=true/\(me (gE s).1.2.2.2.2).2=true/\cC (vq s).1=true/\ (pL (me (gE s).1.2.2.2.2).1.2.2.2.2.1 (me (gE s).1.2.2.2.2).1.2.2.2.2.2.1 (me (gE s).1.2.2.2.2).1.2.2.2.1 (me (gE s).1.2.2.2.2).1.2.2.2.2.2.2).2=true:=by grind[vq]
theorem aiu {b:Bytes}(h:(me b).2=true):20<=cH b 2/\cH b 2<=(b.length:Int)/\(me b).1=HY b:=by grind[me]
theorem afx {b k:Int}(h:(pL a b k s).2=true):k=6/\20<=s.length\/k=17/\8<=s.length:=by grind[pL]
theorem ad4 (hl:s.length=t.length)(h:∀i,i<18->bV s i=bV t i)(hs:(gE s).2=true):(gE t).2=true:=by
 have g16:∀a,a+2<=18->cH s ((a:Nat):Int)=cH t ((a:Nat):Int):=λa ha=>HG hl (h _ (by omega)) (h _ (by omega));have g32:∀a,a+4<=18->fM s ((a:Nat):Int)=fM t ((a:Nat):Int):=λa ha=>XS hl (λj hj=>h _ (by omega));have e0:B8 s 0=B8 t 0:=by unfold B8;rw[show(0:Int)=((0:Nat):Int) from rfl,g16 0 (by omega),show((0:Nat):Int)+2=((2:Nat):Int) from rfl,g32 2 (by omega)]
 have e6:B8 s 6=B8 t 6:=by unfold B8;rw[show(6:Int)=((6:Nat):Int) from rfl,g16 6 (by omega),show((6:Nat):Int)+2=((8:Nat):Int) from rfl,g32 8 (by omega)]
 grind[cH,xb,MR,Dg,gE]
theorem amd (ha:G1 s t)(h:(vq s).2=0):TOk t:=by
 have hp:=Bq t;obtain⟨h1,h2,_,h4⟩:=aiA h;have he:=Nu h1;rw[he.1]at h2 h4;have hi:=aiu h2;have hs:=afx h4;rw[hi.2.2]at hs;have e1:(gE t).2=true:=ad4 ha.1 (λi hi=>ha.2 i (by omega)) h1;have e2:=Nu e1;have en:cH (s.drop (cD s)) 2=cH t ((cD t+2:Nat):Int):=by have:cH (s.drop (cD s)) ((2:Nat):Int)=cH s ((cD s+2:Nat):Int):=Kd;rw[show(2:Int)=((2:Nat):Int) from rfl,this,ha.body,ha.am9]
 have ek:(HY (s.drop (cD s))).2.2.2.1=(jH t:Int):=by show(bV (s.drop (cD s)) 9:Int)=_;rw[qq,<-ha.kind];rfl
 have eg:(HY (s.drop (cD s))).2.2.2.2.2.2.length=(cH t ((cD t+2:Nat):Int)).toNat-20:=by show(((s.drop (cD s)).take (cH (s.drop (cD s)) 2).toNat).drop 20).length=_;grind
 rw[ek,eg]at hs;rw[en]at hi;have hn:=hi.2.1;rw[bA,ha.1,ha.body]at hn;have hk:=GN (jH t);exact⟨e1,e2.1,by omega,by omega,by omega⟩
theorem agm (h:(gQ p).1=t)(hs:cC p=true)(ht:TOk t):cH t (wk t:Int)=0/\cH t (rP t:Int)=0:=by
 unfold gQ at h;rw[hs]at h;simp only[af]at h;have w0:(aF 0).length=2:=rfl;have ha:G1 (nU (dv p).1 (aF 0) (aF 0)) (dv p).1:=JI _ (by omega) (by omega);rw[h]at ha;have hp:=Bq t;have C1:=ha.al4;have hl:=ht.l1;have B4:=ha.1;have MZ:=ht.n1;have Hn:=ht.n2;have hk:=GN (jH t);have hB:rP t+2<=t.length:=by omega
 have b0:bV (aF 0) 0=0:=rfl;have b1:bV (aF 0) 1=0:=rfl;rw[zI,zI,kW,az hB,af,af];have eB:∀j,j<2->bV t (rP t+j)=bV (aF 0) j:=by intro j hj;rw[<-h];unfold nU;rw[show rP (vz (vz (dv p).1 (wk (dv p).1:Int) (aF 0)) (rP (dv p).1:Int) (aF 0))=rP (dv p).1 from by have:=C1.2;rw[<-h]at this;exact this];simp_all[adj,vS]
 have eA:∀j,j<2->bV t (wk t+j)=bV (aF 0) j:=by intro j hj;rw[<-h];unfold nU;rw[show wk (vz (vz (dv p).1 (wk (dv p).1:Int) (aF 0)) (rP (dv p).1:Int) (aF 0))=wk (dv p).1 from by have:=C1.1;rw[<-h]at this;exact this];simp(disch:=omega)[adk,adj]
 grind
def uH (t:Bytes):Int:=cH t ((cD t+2:Nat):Int)
def Mo (t:Bytes):Int:=MO ((t.take (cD t+20)).drop (cD t))
def O9 (t:Bytes):Bytes:=(t.take (cD t+(uH t).toNat)).drop (cD t+20)
def ahl (t:Bytes):Bytes:=yt (fM t ((cD t+12:Nat):Int)) (fM t ((cD t+16:Nat):Int)) (jH t:Int) (uH t-20)
def Jm (t:Bytes):Int:=bif ((jH t:Int)==17)&&(MO (ahl t++O9 t)==0) then 65535 else MO (ahl t++O9 t)
def TQ (t s:Bytes):Bytes×Bool:=bif ((vq s).2==0)&&((gQ (vq s).1).1==t) then dv (vq s).1 else([],false)
def Dk (t:Bytes):Bytes×Bool:=TQ t (nU t (aF (Mo t)) (aF (Jm t)))
theorem Ce (h:¬(TOk t/\cH t (wk t:Int)=0/\cH t (rP t:Int)=0)):Dk t=([],false):=by have ha:G1 (nU t (aF (Mo t)) (aF (Jm t))) t:=JI t (bR _) (bR _);grind[Dk,TQ,vq,amd,agm]
theorem GS (t:Bytes)(o n:Nat):(t.drop o).take n=(t.take (o+n)).drop o:=by grind[List.drop_take]
theorem Ot (h1:cD t+20<=t.length)(h2:20<=uH t)(h3:uH t<=(t.length:Int))(h4:t.length<=10^9):yu (fM t ((cD t+12:Nat):Int)) (fM t ((cD t+16:Nat):Int)) (jH t:Int) (uH t-20)=true:=by have a1:=Fm (s:=t) (a:=((cD t+12:Nat):Int));have a2:=Fm (s:=t) (a:=((cD t+16:Nat):Int));have a3:=gq t (cD t+9);have a4:=Fk (s:=t) (a:=((cD t+2:Nat):Int));grind[yu,aS,jH,uH]
theorem af1 (t:Bytes)(hl:t.length<=10^9):AI t=some (Dk t):=by
 have hp:=Bq t
 have hk:=GN (jH t)
 have X5:jH t<256:=gq t (cD t+9)
 unfold AI
 rw[R7 t hl,ab]
 by_cases h1:t.length<cD t+46
 ·rw[az h1,Ce λh=>by have:=h.1.l1;omega];rfl
 rw[aw h1]
 simp only[ae]
 rw[aw (show¬(wk t:Int)<0 by omega)]
 simp only[ae,uI t _ hl,ab]
 cases h2:cH t (wk t:Int) !=0 with
 |true=>simp_all[Ce]
 |false=>
 simp only[ae,ab]
 cases h3:cH t (rP t:Int) !=0 with
 |true=>grind[Ce]
 |false=>
 have w1:ar ((wk t:Int)-10)=(cD t:Int):=by grind[ak]
 have w2:ar ((cD t:Int)+2)=((cD t+2:Nat):Int):=by grind[ak]
 have w9:ar ((cD t:Int)+9)=((cD t+9:Nat):Int):=by grind[ak]
 have w12:ar ((cD t:Int)+12)=((cD t+12:Nat):Int):=by grind[ak]
 have w16:ar ((cD t:Int)+16)=((cD t+16:Nat):Int):=by grind[ak]
 have w20:ar ((cD t:Int)+20)=((cD t+20:Nat):Int):=by grind[ak]
 have wb:ar ((rP t:Int)+2)=(rP t:Int)+2:=by grind[ak]
 have wc:ar ((rP t:Int)+2-(cD t:Int))=(rP t:Int)+2-(cD t:Int):=by grind[ak]
 have wl:ar ((t.length:Int)-(cD t:Int))=(t.length:Int)-(cD t:Int):=by grind[ak]
 obtain⟨x,hx,ex⟩:=lM (s:=t) (i:=cD t+9)
 have a4:=Fk (s:=t) (a:=((cD t+2:Nat):Int))
 simp only[ae,ab,w1,w2,w9,hx,wb,wc,wl]
 rw[show cH t ((cD t+2:Nat):Int)=uH t from rfl]at a4⊢
 by_cases h4:uH t<(rP t:Int)+2-(cD t:Int)
 ·rw[az h4,Ce λh=>by have:=h.1.n1;grind[uH]];rfl
 rw[aw h4]
 simp only[ae,ab]
 by_cases h5:uH t>(t.length:Int)-(cD t:Int)
 ·rw[az h5,Ce λh=>by have:=h.1.n2;grind[uH]];rfl
 rw[aw h5]
 obtain⟨n,hn⟩:=au a4.1
 have wn:ar ((cD t:Int)+uH t)=((cD t+n:Nat):Int):=by grind[ak]
 have wm:ar (uH t-20)=uH t-20:=by grind[ak]
 have s1:sub t (cD t:Int) ((cD t+20:Nat):Int)=some ((t.take (cD t+20)).drop (cD t)):=by grind[Mn,aC]
 have s2:sub t ((cD t+20:Nat):Int) ((cD t+n:Nat):Int)=some (O9 t):=by grind[Mn,aC,O9]
 have hps:=I0 (fM t ((cD t+12:Nat):Int)) (fM t ((cD t+16:Nat):Int)) (jH t:Int) (uH t-20)
 have aeq:(O9 t).length<=65535:=by unfold O9;grind
 have hk2:ar ((UInt8.toNat x:Int))=(jH t:Int):=by grind[gZ,jH]
 simp only[ae,ab,w12,w16,w20,wn,wm,s1,s2,Da t _ hl,hk2,GJ,Ot (show cD t+20<=t.length by omega) (show 20<=uH t by omega) (show uH t<=(t.length:Int) by omega) hl,af]
 rw[show yt (fM t ((cD t+12:Nat):Int)) (fM t ((cD t+16:Nat):Int)) (jH t:Int) (uH t-20)=ahl t from rfl]at hps⊢
 rw[L6 _ (by grind),ab,bf (by omega),L6 _ (by rw[aq];omega),ab]
 rw[show MO ((t.take (cD t+20)).drop (cD t))=Mo t from rfl]
 have tt:∀y:Int,Jm t=y->(aa (cv (Mo t)) λI1=>aa (fH t (wk t:Int) I1) λO5=>aa (cv y) λr18=>aa (fH O5 (rP t:Int) r18) λZh=>aa (jS Zh) λGz=>
  bif Gz.2 !=0 then some (([]:Bytes),false) else aa (oD Gz.1) λRO=>bif !(RO.1==t) then some (([]:Bytes),false) else aa (jn Gz.1) λr22=>some r22)=some (Dk t):=by
  intro y hy
  subst hy
  rw[ja,ab,EG t _ _ hl,ab,ja,ab,EG _ _ _ (by rw[vS];exact hl),ab]
  have hlen:=EB t (aF (Mo t)) (aF (Jm t))
  unfold Dk
  rw[show vz (vz t (wk t:Int) (aF (Mo t))) (rP t:Int) (aF (Jm t))=nU t (aF (Mo t)) (aF (Jm t)) from rfl]
  grind[I9,ab,Ve,I8,TQ]
 grind[Jm,ab]
theorem aez (t:Bytes)(hl:t.length<=10^9):Aj t=some (Dk t):=by
 have hp:=Bq t
 have hk:=GN (jH t)
 have X5:jH t<256:=gq t (cD t+9)
 have HJ:=Gw t
 unfold Aj
 rw[Li t hl,ab,zK _ _ (by omega),ab]
 cases h1:(gE t).2 with
 |false=>rw[Ce λh=>by have:=h.1.eth;grind];rfl
 |true=>
 have he:=Nu h1
 rw[he.1]
 simp only[aj,ae,ab]
 have en:cH (t.drop (cD t)) 2=uH t:=Kd (a:=2)
 rw[en]
 by_cases h4:uH t<20
 ·rw[az h4,Ce λh=>by have:=h.1.n1;grind[uH]];rfl
 rw[aw h4]
 simp only[ae,ab]
 by_cases h5:uH t>((t.drop (cD t)).length:Int)
 ·rw[az h5,Ce λh=>by have:=h.1.n2;grind[uH]];rfl
 rw[aw h5]
 rw[bA]at h5
 have hdl:(t.drop (cD t)).length=t.length-cD t:=bA ..
 obtain⟨n,hn⟩:=au (show 0<=uH t by omega)
 obtain⟨x,hx,ex⟩:=lM (s:=t.drop (cD t)) (i:=9)
 have hx9:idx (t.drop (cD t)) 9=some x:=hx
 have s1:sub (t.drop (cD t)) 0 20=some ((t.take (cD t+20)).drop (cD t)):=by grind[EL]
 have s2:sub (t.drop (cD t)) 20 (uH t)=some (O9 t):=by rw[Mn (l:=t.drop (cD t)) 20 (a:=20) rfl (by omega) (by omega),hn,aC,GS,fa];grind[O9]
 have hps:=I0 (fM t ((cD t+12:Nat):Int)) (fM t ((cD t+16:Nat):Int)) (jH t:Int) (uH t-20)
 have aeq:((O9 t).length:Int)=uH t-20:=by grind[O9]
 have hk2:ar ((UInt8.toNat x:Int))=(jH t:Int):=by grind[gZ,bV,jH]
 have g12:fM (t.drop (cD t)) 12=fM t ((cD t+12:Nat):Int):=QJ (a:=12)
 have g16:fM (t.drop (cD t)) 16=fM t ((cD t+16:Nat):Int):=QJ (a:=16)
 have hw:ar ((Pc (jH t):Int)+2)=(Pc (jH t):Int)+2:=by grind[ak]
 simp only[ae,ab,Ln t hl,s1,s2,hx9,C3 _ _ (show(t.drop (cD t)).length<=10^9 by omega),hk2,Q7,aeq,g12,g16,Ot (show cD t+20<=t.length by omega) (show 20<=uH t by omega) (show uH t<=(t.length:Int) by omega) hl,af,aj,M8 _ X5,hw]
 rw[show yt (fM t ((cD t+12:Nat):Int)) (fM t ((cD t+16:Nat):Int)) (jH t:Int) (uH t-20)=ahl t from rfl]at hps⊢
 by_cases h6:(Pc (jH t):Int)+2>uH t-20
 ·rw[az h6,Ce λh=>by have:=h.1.n1;grind[uH]];rfl
 rw[aw h6]
 simp only[ae]
 have hck:((t.take (cD t+20)).drop (cD t)).length<=10^9:=by grind
 rw[bf (by omega),Py _ (by rw[aq];omega),ab]
 have tt:∀y:Int,Jm t=y->(aa (kH ((t.take (cD t+20)).drop (cD t))) λr25=>aa (cI r25) λr26=>aa (gO t (wk t:Int) r26) λZi=>aa (cI y) λUO=>aa (gO Zi (rP t:Int) UO) λr29=>aa (jQ r29) λr30=>aa (ow r30.1) λr31=>
  aa (bif r30.2 !=0 then some true else bif !r31.2 then some true else some (!(r31.1==t))) λq32=>bif q32 then some (([]:Bytes),false) else aa (jl r30.1) λW9=>some W9)=some (Dk t):=by
  intro y hy
  subst hy
  have b1:=bR (Mo t)
  have b2:=bR (Jm t)
  rw[Py _ hck,ab,show MO ((t.take (cD t+20)).drop (cD t))=Mo t from rfl]
  rw[mJ,ab,Gi t _ _ hl,ab,mJ,ab,Gi _ _ _ (by rw[vS];exact hl),ab]
  have hlen:=EB t (aF (Mo t)) (aF (Jm t))
  unfold Dk
  rw[show vz (vz t (wk t:Int) (aF (Mo t))) (rP t:Int) (aF (Jm t))=nU t (aF (Mo t)) (aF (Jm t)) from rfl]
  grind[IV,ab,Uo,IU,TQ,gQ]
 cases h8:(jH t:Int)==17 with
 |false=>simp_all[Jm]
 |true=>
  grind[ab,Jm]
theorem TP (t:Bytes):(Dk t).1.length<=378:=by grind[Dk,TQ,nv]
end
end Go.Pu
