import Derived.Test.YtfbhfnniblfpbaaGreatDnData
import Derived.Test.YtfbhfnniblfpbaaGreatPure
namespace Go.Pu
open Go.Dn
open List (range)
open BitVec (toNat)
open Int (fdiv tmod)
set_option linter.unusedSimpArgs false
set_option linter.unusedVariables false
noncomputable section
variable {s t x:Bytes} {h:Host} {f:Int->au Int} {a c:Nat} {p:aU} {R X α σ:Type} {l:aq aA} {m:bt}
/- Plain laws of the partial operations and of loops. -/
theorem aj {n:Int}(h1: -9223372036854775808<=n)(h2:n<=9223372036854775807):ak n=n:=by grind[IntKind.wrap,IntKind.bits,IntKind.signed]
@[simp] theorem ab (a:α)(k:α->au R):aa (some a) k=k a:=rfl
@[simp] theorem ah1 (k:α->au R):aa none k=none:=rfl
@[simp] theorem adv (c:Bool)(x y:α)(k:α->au R):aa (cond c (some x) (some y)) k=k (cond c x y):=by cases c<;>rfl
theorem cw (c:Bool)(x y:α):cond c (some x) (some y)=some (cond c x y):=by cases c<;>rfl
theorem aQ {n:Nat}{k:au R}(h:n<=1073741824):room n k=k:=by simp[room,h]
theorem NJ (xs:aq α)(i:Nat):idx xs (i:Int)=xs[i]?:=rfl
theorem aX {xs:aq α}{i:Nat}(h:i<xs.length):idx xs (i:Int)=some xs[i]:=by grind[NJ]
def upK (step:Nat->σ->(σ->au R)->au R)(fin:σ->au R)(N:Nat):Nat->Nat->σ->au R
 |0,_,s=>fin s
 |n+1,i,s=>step i s (λs'=>upK step fin N n (i+1) s')
theorem H9 {T:(X->au R)->X->au R}(N:Nat)(e:σ->Nat->X)(step:Nat->σ->(σ->au R)->au R)(fin:σ->au R)(hs:∀i s nx,i<N->T nx (e s i)=step i s (λs'=>nx (e s' (i+1))))(hf:∀s nx,T nx (e s N)=fin s): ∀n i s,i<=N->N-i<n->aI T n (e s i)=upK step fin N (N-i) i s:=by
 intro n;induction n with
 |zero=>intro i s _ h;omega
 |succ n ih=>
  intro i s hi hn;rw[aI];rcases bS i N with gV|BM;rw[hs i s _ gV,show N-i=(N-(i+1))+1 by omega,upK];congr 1;funext s';exact ih (i+1) s' (by omega) (by omega);have:i=N:=by omega
  subst this;rw[hf,lO,upK]
def zO (step:α->σ->(σ->au R)->au R)(fin:σ->au R):aq α->σ->au R
 |[],s=>fin s
 |x::xs,s=>step x s (zO step fin xs)
theorem BP {T:(X->au R)->X->au R}(xs:aq α)(e:σ->Nat->X)(step:α->σ->(σ->au R)->au R)(fin:σ->au R)(hs:∀i (h:i<xs.length) s nx,T nx (e s i)=step xs[i] s (λs'=>nx (e s' (i+1))))(hf:∀s nx,T nx (e s xs.length)=fin s): ∀n i s,i<=xs.length->xs.length-i<n->aI T n (e s i)=zO step fin (xs.drop i) s:=by
 intro n;induction n with
 |zero=>intro i s _ h;omega
 |succ n ih=>
  intro i s hi hn;rw[aI];rcases bS i xs.length with gV|BM;rw[hs i gV s _,cl gV,zO];congr 1;funext s';exact ih (i+1) s' (by omega) (by omega);have:i=xs.length:=by omega
  subst this;rw[hf,List.drop_length,zO]
def qK:(t:CT)->t.D->Nat
 | .int _,_=>0
 | .bool,_=>0
 | .str,s=>s.length
 | .sl e,xs=>xs.length+(xs.map (qK e)).sum
 | .pair a b,x=>qK a x.1+qK b x.2
def br (n:Nat):(t:CT)->t.D->Prop
 | .int _,_=>True
 | .bool,_=>True
 | .str,s=>s.length<=n
 | .sl e,xs=>xs.length<=n/\∀x∈xs,br n e x
 | .pair a b,x=>br n a x.1/\br n b x.2
theorem Pg (f:α->Nat):∀(xs:aq α)(x:α),x∈xs->f x<=(xs.map f).sum
 |y::ys,x,h=>by rcases cv.1 h with rfl|h;simp;have:=Pg f ys x h;simp;omega
theorem Iu {n:Nat}:∀{t:CT}{x:t.D},qK t x<=n->br n t x
 | .int _,_,_=>trivial
 | .bool,_,_=>trivial
 | .str,_,h=>h
 | .sl e,xs,h=>by simp only[qK]at h;exact⟨by omega,λx hx=>Iu (by have:=Pg (qK e) xs x hx;omega)⟩
 | .pair a b,x,h=>by simp only[qK]at h;exact⟨Iu (by omega),Iu (by omega)⟩
theorem br.mono {n m:Nat}(h:n<=m:=by omega):∀{t:CT}{x:t.D},br n t x->br m t x
 | .int _,_,_=>trivial
 | .bool,_,_=>trivial
 | .str,_,k=>aE k h
 | .sl _,_,k=>⟨aE k.1 h,λx hx=>br.mono h (k.2 x hx)⟩
 | .pair _ _,_,k=>⟨br.mono h k.1,br.mono h k.2⟩
def rM:(t:CT)->t.D->Prop
 | .int k,n=>k.min<=n/\n<=k.max
 | .bool,_=>True
 | .str,s=>s.length<=9223372036854775807
 | .sl e,xs=>xs.length<=9223372036854775807/\∀x∈xs,rM e x
 | .pair a b,x=>rM a x.1/\rM b x.2
def ll (l n:Int):Int:=if n<=l then l-n else-1
def NT {β:Type}(f:α->au β)(k0:aq β->Int->au R)(v0:aq α)(nx:aq β×Int->au R)(x:aq β×Int):au R:=
 cond (decide (x.2<(List.length v0:Int))) (
  aa (idx v0 x.2) λx1=>
  aa (f x1) λr2=>
  aa (idx x.1 x.2) λ_=>
  aa (idx x.1 x.2) λ_=>
  nx (List.set x.1 (Int.toNat x.2) r2,ak (x.2+1))) (
  k0 x.1 x.2)
noncomputable def UB {β:Type}(f:α->au β)(z:β)(a0:aq α):au (aq β):=
 if 0<=((List.length a0:Int))/\((List.length a0:Int))<=((List.length a0:Int)) then(
 room (Int.toNat ((List.length a0:Int))) (
 aI (NT f (λy5 _=>some y5) a0) fuel (List.replicate (Int.toNat ((List.length a0:Int))) z,0))) else none
theorem mX {f:α->au α}{z:α}{a:aq α}(hn:a.length<=1073741824)(hf:∀x∈a,f x=some x):UB f z a=some a:=by
 unfold UB;have xS:=cR;rw[zip,aQ (by omega)]
 have key:=H9 (T:=NT f (λy5 _=>some y5) a) a.length (λ(_) i=>(a.take i++List.replicate (a.length-i) z,(i))) (λ_ s k=>k s) (λ_=>some a)
  (λi s nx hi=>by
   have h1:(a.take i).length=i:=by simp;omega
   have hl:i<(a.take i++List.replicate (a.length-i) z).length:=by simp;omega
   simp only[NT];rw[jF];simp only[af,aX hi,ab,hf _ (bc hi),aX hl];congr 1;refine Prod.ext ?_ (aj (by omega) (by omega));simp only[ay];rw[List.set_append_right _ _ (by omega),h1,lO,bg hi,show a.length-i=(a.length-(i+1))+1 by omega,List.replicate_succ,List.set_cons_zero,aN,List.singleton_append])
  (λs nx=>by grind[NT])
  fuel 0 () (by omega) (by omega)
 simp only[List.take_zero,bU,Nat.sub_zero,ay]at key⊢;have e:((0:Nat):Int)=0:=rfl;rw[e]at key;rw[key];have:∀n i,upK (λ_ (s) k=>k s) (λ_=>some a) a.length n i ()=some a:=by intro n;induction n with|zero=>intro i;rfl|succ n ih=>grind[upK]
 exact this _ _
def NS (f:α->Int->au Int)(k0:Int->Int->au R)(k1:Int->Int->Int->au R)(v0:aq α)(nx:Int×Int->au R)(x:Int×Int):au R:=
 cond (decide (x.2<((List.length v0:Int)))) (
  aa (idx v0 x.2) λx1=>
  aa (f x1 x.1) λr2=>
  cond (decide (r2<0)) (
   k1 r2 (-1) x.2) (
   nx (r2,ak (x.2+1)))) (
  k0 x.1 x.2)
noncomputable def NR (f:α->Int->au Int)(a0:aq α)(a1:Int):au Int:=
 cond (decide ((ak (a1-((List.length a0:Int))))<0)) (
  some (-1)) (
  aI (NS f (λy3 _=>some y3) (λ_ y6 _=>some y6) a0) fuel (ak (a1-((List.length a0:Int))),0))
theorem P4 {f:α->Int->au Int}{s:α->Nat}{a:aq α}{l:Int}(h0:0<=l)(h1:l<=1048576)(hm:a.length<=9223372036854775807)(hf:∀x∈a,∀l:Int,0<=l->l<=1048576->∃r,f x l=some r/\((s x:Int)<=l->r=l-s x)/\(¬(s x:Int)<=l->r<0)):NR f a l=some (ll l ((a.length+(a.map s).sum:Nat):Int)):=by
 unfold NR;have xS:=cR;rw[aj (by omega) (by omega)];rcases Int.lt_or_le (l-a.length) 0 with aqD|abC;rw[ax aqD];simp only[af,ll];rw[mI];rw[gr];simp only[ae];have key:=BP (T:=NS f (λy3 _=>some y3) (λ_ y6 _=>some y6) a) a (λ(q) i=>(q,(i))) (λx q k=>aa (f x q) λr=>cond (decide (r<0)) (some (-1)) (k r)) (λq=>some q) (λi hi q nx=>by simp only[NS];rw[jF];simp only[af,aX hi,ab];rw[aj (by omega) (by omega)];rfl) (λq nx=>by simp only[NS];rw[gr];rfl) fuel 0 (l-a.length) (by omega) (by omega);have e:((0:Nat):Int)=0:=rfl;rw[e,fa]at key;rw[key];have main:∀(b:aq α)(q:Int),0<=q->q<=1048576->(∀x∈b,x∈a)->zO (λx q k=>aa (f x q) λr=>cond (decide (r<0)) (some (-1)) (k r)) (λq=>some q) b q=some (ll q ((b.map s).sum)):=by intro b;induction b with|nil=>intro q hq _ _;simp[zO,ll,hq]|cons x b ih=>intro q hq Yy hb;obtain⟨r,hr,hr1,QH⟩:=hf x (hb x (by simp)) q hq Yy;rw[zO,hr,ab];by_cases hle:(s x)<=q;rw[gr];simp only[ae];rw[ih _ (by omega) (by omega) (λy hy=>hb y (by simp[hy]))];simp only[ll,ed,List.sum_cons];congr 1;split<;>split<;>omega;rw[ax (QH hle)];simp only[af,ll,ed,List.sum_cons];rw[mI]
 rw[main a _ (by omega) (by omega) (λx h=>h)];simp only[ll];congr 1;split<;>split<;>omega
def ND (f:α->α->au Bool)(k0:Int->au R)(k1:Bool->Int->au R)(v0 v1:aq α)(nx:Int->au R)(x:Int):au R:=
 cond (decide (x<((List.length v0:Int)))) (
  aa (idx v0 x) λx1=>
  aa (idx v1 x) λx2=>
  aa (f x1 x2) λr3=>
  cond (!r3) (
   k1 false x) (
   nx (ak (x+1)))) (
  k0 x)
noncomputable def Ta (f:α->α->au Bool)(a0 a1:aq α):au Bool:=
 cond (((List.length a0:Int)) !=((List.length a1:Int))) (
  some false) (
  aI (ND f (λ_=>some true) (λy5 _=>some y5) a0 a1) fuel 0)
theorem jg {f:α->α->au Bool}{a:aq α}(hm:a.length<=1000000000000)(hf:∀x∈a,f x x=some true):Ta f a a=some true:=by
 unfold Ta;have xS:=cR;have key:=BP (T:=ND f (λ_=>some true) (λy5 _=>some y5) a a) a (λ(_) i=>(i)) (λx s k=>aa (f x x) λr=>cond (!r) (some false) (k s)) (λ_=>some true) (λi hi s nx=>by grind[ND,aX,ab,aj]) (λs nx=>by grind[ND]) fuel 0 () (by omega) (by omega);have main:∀(b:aq α),(∀x∈b,x∈a)->zO (λx s k=>aa (f x x) λr=>cond (!r) (some false) (k s)) (λ_=>some true) b ()=some true:=by intro b;induction b with|nil=>intro _;rfl|cons x b ih=>grind[zO,ab]
 grind
theorem JN {z:α}{a:aq α}(hn:a.length<=1073741824):UB some z a=some a:=mX hn (λ_ _=>rfl)
theorem EW [BEq α][LawfulBEq α]{a:aq α}(hm:a.length<=1000000000000):Ta (λx y:α=>some (x==y)) a a=some true:=jg hm (λx _=>by simp)
theorem CX {f:α->Nat}:∀{xs:aq α},(∀x∈xs,f x=0)->(xs.map f).sum=0
 |[],_=>rfl
 |x::xs,h=>by have:=CX (xs:=xs) (λy hy=>h y (by simp[hy]));grind
def dv (f:Int->au Int)(n:Nat):Prop:=∀l:Int,0<=l->l<=1048576->f l=some (ll l n)
theorem dv.nil:dv (λl=>some l) 0:=λl h0 _=>by simp[ll,h0]
theorem dv.len {n m:Nat}(hn:n<=9223372036854775807){k:Int->au Int}(h:dv k m): dv (λl=>cond (decide (ak (l-(n:Int))<0)) (some (-1)) (k (ak (l-(n:Int))))) (n+m):=by intro l h0 h1;simp only;rw[aj (by omega) (by omega)];by_cases hl:l-(n)<0;rw[ax hl];simp only[af,ll];rw[mI];rw[ar hl];simp only[ae];rw[h _ (by omega) (by omega)];simp only[ll];congr 1;split<;>split<;>omega
theorem dv.sub {k:Int->au Int}{n m:Nat}(hf:dv f n)(h:dv k m):dv (λl=>aa (f l) λr=>cond (decide (r<0)) (some (-1)) (k r)) (n+m):=by
 intro l h0 h1;simp only;rw[hf l h0 h1,ab];by_cases hl:(n)<=l;have e:ll l n=l-n:=by simp[ll,hl]
 rw[e,gr];simp only[ae];rw[h _ (by omega) (by omega)];simp only[ll];congr 1;split<;>split<;>omega;have e:ll l n= -1:=by simp[ll,hl]
 rw[e];simp only[ll];rw[mI];rfl
theorem dv.cast {n m:Nat}(h:dv f n)(e:n=m):dv f m:=e▸h
theorem dv.list {f:α->Int->au Int}{s:α->Nat}{a:aq α}(hm:a.length<=9223372036854775807)(hf:∀x∈a,dv (f x) (s x)):dv (NR f a) (a.length+(a.map s).sum):=λ_ h0 h1=>P4 h0 h1 hm (λx hx l h0 h1=>⟨_,hf x hx l h0 h1,λh=>by simp[ll,h],λh=>by simp[ll,h]⟩)
theorem dv.flat {n:Nat}(hn:n<=9223372036854775807):dv (λl=>cond (decide (ak (l-(n:Int))<0)) (some (-1)) (some (ak (l-(n:Int))))) n:=(dv.len hn dv.nil).cast (by omega)
theorem dv.strs {a:aq (aq UInt8)}(hm:rM (.sl .str) a):dv (NR (λx l=>some (ak (l-(x.length:Int)))) a) (qK (.sl .str) a):=λ_ h0 h1=>P4 h0 h1 hm.1 (λx hx l h0 h1=>⟨l-x.length,by have:x.length<=9223372036854775807:=hm.2 x hx;grind[aj],λ_=>rfl,λh=>by grind[qK]⟩)
theorem dv.use {n:Nat}(hf:dv f n){l:Int}(h0:0<=l)(h1:l<=1048576){k:Int->au Bool}(hk:(n:Int)<=l->k (l-n)=some true): (aa (f l) λr=>cond (decide (r<0)) (some true) (k r))=some true:=by
 rw[hf l h0 h1,ab];by_cases hl:(n)<=l;have e:ll l n=l-n:=by simp[ll,hl]
 rw[e,gr];exact hk hl;have e:ll l n= -1:=by simp[ll,hl]
 rw[e];rfl
theorem GQ {T:(Int->au R)->Int->au R}{fin hit:au R}(p:α->Bool)(a:aq α)(h:a.length<=1000000000000)(hs:∀i (hi:i<a.length) nx,T nx (i:Int)=cond (p a[i]) hit (nx ((i+1:Nat):Int)))(hf:∀nx,T nx (a.length:Int)=fin): aI T fuel 0=cond (a.any p) hit fin:=by
 have xS:=cR;have key:∀n i,i<=a.length->a.length-i<n->aI T n (i)=cond ((a.drop i).any p) hit fin:=by
  intro n;induction n with
  |zero=>intro i _ h;omega
  |succ n ih=>
   intro i hi hn;rw[aI];rcases bS i a.length with gV|BM;rw[hs i gV,cl gV,List.any_cons];cases hq:p a[i]with|true=>rfl|false=>exact ih (i+1) (by omega) (by omega)
   have:i=a.length:=by omega
   subst this;rw[hf,List.drop_length];rfl
 exact key fuel 0 (by omega) (by omega)
theorem pL {T:(Int->au R)->Int->au R}{fin hit:au R}(p:Nat->Bool)(N:Nat)(h:N<=1000000000000)(hs:∀i nx,i<N->T nx (i:Int)=cond (!(p i)) hit (nx ((i+1:Nat):Int)))(hf:∀nx,T nx (N:Int)=fin): aI T fuel 0=cond ((range N).all p) fin hit:=by
 have xS:=cR;have key:∀n i,i<=N->N-i<n->aI T n (i)=cond ((List.range' i (N-i)).all p) fin hit:=by
  intro n;induction n with
  |zero=>intro i _ h;omega
  |succ n ih=>
   intro i hi hn;rw[aI];rcases bS i N with gV|BM;rw[hs i _ gV,show N-i=(N-(i+1))+1 by omega,List.range'_succ,bQ];cases hq:p i with|false=>rfl|true=>exact ih (i+1) (by omega) (by omega)
   have:i=N:=by omega
   subst this;rw[hf,lO];rfl
 have:=key fuel 0 (by omega) (by omega);rw[Nat.sub_zero,<-List.range_eq_range']at this;exact this
theorem rN {T:(Int->au R)->Int->au R}{fin hit:au R}(p:α->Bool)(a:aq α)(h:a.length<=1000000000000)(hs:∀i (hi:i<a.length) nx,T nx (i:Int)=cond (!(p a[i])) hit (nx ((i+1:Nat):Int)))(hf:∀nx,T nx (a.length:Int)=fin): aI T fuel 0=cond (a.all p) fin hit:=by have:=GQ (λx=> !(p x)) a h hs hf;grind
theorem Lp {T:(X->au R)->X->au R}{fin hit:au R}(e:Nat->X)(p:Nat->Bool)(N:Nat)(h:N<=1000000000000)(hs:∀i nx,i<N->(∀j,j<i->p j=true)->T nx (e i)=cond (!(p i)) hit (nx (e (i+1))))(hf:(∀j,j<N->p j=true)->∀nx,T nx (e N)=fin): aI T fuel (e 0)=cond ((range N).all p) fin hit:=by
 have xS:=cR;have key:∀n i,i<=N->N-i<n->(∀j,j<i->p j=true)->aI T n (e i)=cond ((List.range' i (N-i)).all p) fin hit:=by
  intro n;induction n with
  |zero=>intro i _ h;omega
  |succ n ih=>
   intro i hi hn hp;rw[aI];rcases bS i N with gV|BM;rw[hs i _ gV hp,show N-i=(N-(i+1))+1 by omega,List.range'_succ,bQ];cases hq:p i with|false=>rfl|true=>refine ih (i+1) (by omega) (by omega) λj hj=>?_;by_cases hji:j=i;rw[hji];exact hq;exact hp j (by omega)
   have:i=N:=by omega
   subst this;rw[hf hp,lO];rfl
 have:=key fuel 0 (by omega) (by omega) (λj hj=>absurd hj (by omega));rw[Nat.sub_zero,<-List.range_eq_range']at this;exact this
theorem HX {T:(Int->au R)->Int->au R}{fin:au R}{hit:Int->au R}(p:α->Bool)(a:aq α)(h:a.length<=1000000000000)(hs:∀i (hi:i<a.length) nx,T nx (i:Int)=cond (p a[i]) (hit (i:Int)) (nx ((i+1:Nat):Int)))(hf:∀nx,T nx (a.length:Int)=fin): aI T fuel 0=(match a.findIdx? p with|some i=>hit (i:Int)|none=>fin):=by
 have xS:=cR;have key:∀n i,i<=a.length->a.length-i<n->aI T n (i)=(match (a.drop i).findIdx? p with|some j=>hit ((i+j:Nat))|none=>fin):=by
  intro n;induction n with
  |zero=>intro i _ h;omega
  |succ n ih=>
   intro i hi hn;rw[aI];rcases bS i a.length with gV|BM;rw[hs i gV,cl gV,List.findIdx?_cons];cases hq:p a[i]with|true=>rfl|false=>have:=ih (i+1) (by omega) (by omega);refine this.trans ?_;cases (a.drop (i+1)).findIdx? p with|none=>rfl|some j=>simp only[dg,aY,cc];congr 2;omega
   have:i=a.length:=by omega
   subst this;rw[hf,List.drop_length];rfl
 have:=key fuel 0 (by omega) (by omega);refine this.trans ?_;rw[fa];cases a.findIdx? p with|none=>rfl|some j=>simp only[cm]
theorem cF (a b:Bool):(bif a then b else false)=(a&&b):=by cases a<;>rfl
theorem cT (a b:Bool):(bif a then true else b)=(a||b):=by cases a<;>rfl
theorem cN (a b:Bool):(bif a then false else b)=(!a&&b):=by cases a<;>rfl
def WH (g:α->σ->Except (au R) σ)(fin:σ->au R):aq α->σ->au R
 |[],s=>fin s
 |x::xs,s=>match g x s with| .error r=>r| .ok s'=>WH g fin xs s'
theorem EG {T:(X->au R)->X->au R}(xs:aq α)(e:σ->Nat->X)(Inv:Nat->σ->Prop)(g:α->σ->Except (au R) σ)(fin:σ->au R)(h:xs.length<=1000000000000)(hs:∀i (hi:i<xs.length) s nx,Inv i s->T nx (e s i)=match g xs[i] s with| .error r=>r| .ok s'=>nx (e s' (i+1)))(hn:∀i (hi:i<xs.length) s s',Inv i s->g xs[i] s=.ok s'->Inv (i+1) s')(hf:∀s nx,Inv xs.length s->T nx (e s xs.length)=fin s)(s:σ)(h0:Inv 0 s): aI T fuel (e s 0)=WH g fin xs s:=by
 have key:∀n i s,i<=xs.length->xs.length-i<n->Inv i s->aI T n (e s i)=WH g fin (xs.drop i) s:=by
  intro n;induction n with
  |zero=>intro i s _ h;omega
  |succ n ih=>
   intro i s hi Cb hI;rw[aI];rcases bS i xs.length with gV|BM;rw[hs i gV s _ hI,cl gV,WH];cases hg:g xs[i] s with|error r=>rfl|ok s'=>exact ih (i+1) s' (by omega) (by omega) (hn i gV s s' hI hg)
   have:i=xs.length:=by omega
   subst this;rw[hf s _ hI,List.drop_length,WH]
 have xS:=cR;have:=key fuel 0 s (by omega) (by omega) h0;rwa[fa]at this
theorem KO (f:σ->α->σ)(fin:σ->au R):∀(xs:aq α)(s:σ),WH (λx s=> .ok (f s x)) fin xs s=fin (xs.foldl f s)
 |[],_=>rfl
 |x::xs,s=>by exact KO f fin xs (f s x)
theorem cC {T:(X->au R)->X->au R}{fin:au R}(e:Nat->X)(N:Nat)(h:N<=1000000000000)(hs:∀i nx,i<N->T nx (e i)=nx (e (i+1)))(hf:∀nx,T nx (e N)=fin):aI T fuel (e 0)=fin:=by rw[Lp (hit:=fin) e (λ_=>true) N h (λi nx hi _=>by rw[hs i nx hi];rfl) (λ_ nx=>hf nx)];grind
theorem gm {l:aq α}{k:au R}(h:l.length<=10^9):room (List.length ([]:aq α)+l.length) k=k:=aQ (by grind)
theorem P5 (a:bt)(hm:rM (.sl .str) a):dv (xe a) (qK (.sl .str) a):=dv.strs hm
theorem adm (a:bt)(hm:rM (.sl .str) a):dv (zd a) (qK (.sl .str) a):=
 dv.cast (f:=zd a) (dv.sub (P5 a hm) dv.nil) (by simp only[qK];try omega)
theorem W9 (a:aq aA)(hm:rM (.sl dj) a):dv (AF a) (qK (.sl dj) a):=(dv.flat (n:=a.length) hm.1).cast (by simp only[qK];rw[CX (λx _=>by simp only[qK])];rfl)
theorem Iv (a:ew)(hm:rM (.sl (.int .i64)) a):dv (ow a) (qK (.sl (.int .i64)) a):=(dv.flat (n:=a.length) hm.1).cast (by simp only[qK];rw[CX (λx _=>by simp only[qK])];rfl)
theorem aaX (a:cj)(hm:rM fY a):dv (vE a) (qK fY a):=
 dv.cast (f:=vE a) (dv.sub (Iv a.2.2.2 hm.2.2.2) dv.nil) (by simp only[qK];try omega)
theorem ahn (a:gH)(hm:rM kJ a):dv (Aa a) (qK kJ a):=
 dv.cast (f:=Aa a) (dv.sub (Iv a.2.2 hm.2.2) dv.nil) (by simp only[qK];try omega)
theorem afW (a:aq gH)(hm:rM (.sl kJ) a):dv (Fs a) (qK (.sl kJ) a):=dv.list (f:=Aa) (s:=qK kJ) hm.1 (λx hx=>ahn x (hm.2 x hx))
theorem ZX (a:bA)(hm:rM fE a):dv (xf a) (qK fE a):=
 dv.cast (f:=xf a) (dv.sub (aaX a.2.1 hm.2.1) (dv.sub (afW a.2.2.1 hm.2.2.1) dv.nil)) (by simp only[qK];try omega)
theorem ZV (a:dE)(hm:rM Ec a):dv (xd a) (qK Ec a):=
 dv.cast (f:=xd a) (dv.len (n:=a.2.2.2.2.2.2.2.length) hm.2.2.2.2.2.2.2 dv.nil) (by simp only[qK];try omega)
theorem SH (a:aU)(hm:rM AY a):dv (tU a) (qK AY a):=
 dv.cast (f:=tU a) (dv.sub (ZV a.2.2.2.2.2.2.2.2 hm.2.2.2.2.2.2.2.2) dv.nil) (by simp only[qK];try omega)
theorem afY (a:kc)(hm:rM Jd a):dv (Bm a) (qK Jd a):=
 dv.cast (f:=Bm a) (dv.sub (SH a.1 hm.1) dv.nil) (by simp only[qK];try omega)
theorem ZU (a:bh)(hm:rM cX a):dv (rn a) (qK cX a):=
 dv.cast (f:=rn a) (dv.sub (afY a.2.2.2.1 hm.2.2.2.1) dv.nil) (by simp only[qK];try omega)
theorem Xa (a:aq bh)(hm:rM (.sl cX) a):dv (AG a) (qK (.sl cX) a):=dv.list (f:=rn) (s:=qK cX) hm.1 (λx hx=>ZU x (hm.2 x hx))
theorem afU (a:aq cj)(hm:rM (.sl fY) a):dv (Fp a) (qK (.sl fY) a):=dv.list (f:=vE) (s:=qK fY) hm.1 (λx hx=>aaX x (hm.2 x hx))
theorem ZY (a:aq Vector)(hm:rM (.sl fy) a):dv (CF a) (qK (.sl fy) a):=(dv.flat (n:=a.length) hm.1).cast (by simp only[qK];rw[CX (λx _=>by simp only[qK])];rfl)
theorem afT (a:aq Bool)(hm:rM (.sl .bool) a):dv (Fo a) (qK (.sl .bool) a):=(dv.flat (n:=a.length) hm.1).cast (by simp only[qK];rw[CX (λx _=>by simp only[qK])];rfl)
theorem adl (a:Filter)(hm:rM jH a):dv (zb a) (qK jH a):=
 dv.cast (f:=zb a) (dv.sub (Iv a.2.2 hm.2.2) dv.nil) (by simp only[qK];try omega)
theorem afV (a:aq gj)(hm:rM (.sl qg) a):dv (Fq a) (qK (.sl qg) a):=(dv.flat (n:=a.length) hm.1).cast (by simp only[qK];rw[CX (λx _=>by simp only[qK])];rfl)
theorem afX (a:aq Slot)(hm:rM (.sl kY) a):dv (Ft a) (qK (.sl kY) a):=(dv.flat (n:=a.length) hm.1).cast (by simp only[qK];rw[CX (λx _=>by simp only[qK])];rfl)
theorem Ux (a:aq Slot)(hm:rM (.sl kY) a):dv (sD a) (qK (.sl kY) a):=
 dv.cast (f:=sD a) (dv.sub (afX a hm) dv.nil) (by simp only[qK];try omega)
theorem adn (a:gN)(hm:rM uu a):dv (ze a) (qK uu a):=
 dv.cast (f:=ze a) (dv.len (n:=a.1.length) hm.1 (dv.sub (Iv a.2 hm.2) dv.nil)) (by simp only[qK];try omega)
theorem Xb (a:dY)(hm:rM fS a):dv (uR a) (qK fS a):=
 dv.cast (f:=uR a) (dv.sub (afV a.1 hm.1) (dv.sub (Ux a.2.1 hm.2.1) (dv.sub (adn a.2.2 hm.2.2) dv.nil))) (by simp only[qK];try omega)
theorem ado (a:Stream)(hm:rM dF a):dv (tV a) (qK dF a):=
 dv.cast (f:=tV a) (dv.len (n:=a.2.2.1.length) hm.2.2.1 dv.nil) (by simp only[qK];try omega)
theorem ZW (a:aq Stream)(hm:rM (.sl dF) a):dv (CE a) (qK (.sl dF) a):=dv.list (f:=tV) (s:=qK dF) hm.1 (λx hx=>ado x (hm.2 x hx))
theorem ahm (a:Host)(hm:rM cI a):dv (Dr a) (qK cI a):=
 dv.cast (f:=Dr a) (dv.sub (adm a.1 hm.1) (dv.sub (W9 a.2.1 hm.2.1) (dv.sub (ZX a.2.2.1 hm.2.2.1) (dv.sub (Xa a.2.2.2.1 hm.2.2.2.1) (dv.sub (afU a.2.2.2.2.1 hm.2.2.2.2.1) (dv.sub (ZY a.2.2.2.2.2.1 hm.2.2.2.2.2.1) (dv.sub (afT a.2.2.2.2.2.2.1 hm.2.2.2.2.2.2.1) (dv.sub (adl a.2.2.2.2.2.2.2.1 hm.2.2.2.2.2.2.2.1) (dv.sub (Xb a.2.2.2.2.2.2.2.2.1 hm.2.2.2.2.2.2.2.2.1) (dv.sub (ZW a.2.2.2.2.2.2.2.2.2.1 hm.2.2.2.2.2.2.2.2.2.1) (dv.sub (P5 a.2.2.2.2.2.2.2.2.2.2.2.1 hm.2.2.2.2.2.2.2.2.2.2.2.1) (dv.sub (Iv a.2.2.2.2.2.2.2.2.2.2.2.2.1 hm.2.2.2.2.2.2.2.2.2.2.2.2.1) (dv.sub (Iv a.2.2.2.2.2.2.2.2.2.2.2.2.2.1 hm.2.2.2.2.2.2.2.2.2.2.2.2.2.1) dv.nil))))))))))))) (by simp only[qK];try omega)
theorem aiR (a:Act)(hm:rM As a):dv (CB a) (qK As a):=
 dv.cast (f:=CB a) (dv.sub (SH a.2.1 hm.2.1) (dv.len (n:=a.2.2.2.2.1.length) hm.2.2.2.2.1 dv.nil)) (by simp only[qK];try omega)
theorem ahl (a:aq Act)(hm:rM (.sl As) a):dv (Hq a) (qK (.sl As) a):=dv.list (f:=CB) (s:=qK As) hm.1 (λx hx=>aiR x (hm.2 x hx))
theorem F1 (a:bt)(h:br 1048576 (.sl .str) a):xh a=some a:=JN (z:=([]:Bytes)) (aE h.1 (by omega))
theorem SK (a:bt)(h:br 1048576 (.sl .str) a):tX a=some a:=by first|(simp only[tX,F1 _ h,ab];done)|(simp only[tX,F1 _ h,ab];rfl)
theorem ZZ (a:aA)(h:br 1048576 dj a):xg a=some a:=rfl
theorem M3 (a:aq aA)(h:br 1048576 (.sl dj) a):AI a=some a:=mX (f:=xg) (z:=(0,0,0,false)) (aE h.1 (by omega)) (λx hx=>ZZ x (h.2 x hx))
theorem NV (a:Ring)(h:br 1048576 Ml a):Dv a=some a:=rfl
theorem vl (a:ew)(h:br 1048576 (.sl (.int .i64)) a):oy a=some a:=JN (z:=0) (aE h.1 (by omega))
theorem UC (a:cj)(h:br 1048576 fY a):rp a=some a:=by first|(simp only[rp,vl _ h.2.2.2,ab];done)|(simp only[rp,vl _ h.2.2.2,ab];rfl)
theorem ahv (a:gH)(h:br 1048576 kJ a):vG a=some a:=by first|(simp only[vG,vl _ h.2.2,ab];done)|(simp only[vG,vl _ h.2.2,ab];rfl)
theorem Xj (a:aq gH)(h:br 1048576 (.sl kJ) a):Fx a=some a:=mX (f:=vG) (z:=(0,0,([]:ew))) (aE h.1 (by omega)) (λx hx=>ahv x (h.2 x hx))
theorem Qe (a:bA)(h:br 1048576 fE a):rq a=some a:=by first|(simp only[rq,NV _ h.1,UC _ h.2.1,Xj _ h.2.2.1,ab];done)|(simp only[rq,NV _ h.1,UC _ h.2.1,Xj _ h.2.2.1,ab];rfl)
theorem pc (a:cH)(h:br 1048576 kQ a):kC a=some a:=rfl
theorem Qc (a:dE)(h:br 1048576 Ec a):CI a=some a:=rfl
theorem Ix (a:aU)(h:br 1048576 AY a):pR a=some a:=by first|(simp only[pR,Qc _ h.2.2.2.2.2.2.2.2,ab];done)|(simp only[pR,Qc _ h.2.2.2.2.2.2.2.2,ab];rfl)
theorem Xl (a:kc)(h:br 1048576 Jd a):xi a=some a:=by first|(simp only[xi,Ix _ h.1,ab];done)|(simp only[xi,Ix _ h.1,ab];rfl)
theorem Z0 (a:bh)(h:br 1048576 cX a):nO a=some a:=by first|(simp only[nO,NV _ h.1,pc _ h.2.1,pc _ h.2.2.1,Xl _ h.2.2.2.1,ab];done)|(simp only[nO,NV _ h.1,pc _ h.2.1,pc _ h.2.2.1,Xl _ h.2.2.2.1,ab];rfl)
theorem M4 (a:aq bh)(h:br 1048576 (.sl cX) a):AJ a=some a:=mX (f:=nO) (z:=((0,0,0,0),(0,0,0),(0,0,0),((0,0,0,0,0,0,0,0,0,0,0,0,0,0,0,([]:Bytes)),0,0),false,0)) (aE h.1 (by omega)) (λx hx=>Z0 x (h.2 x hx))
theorem Xh (a:aq cj)(h:br 1048576 (.sl fY) a):Fv a=some a:=mX (f:=rp) (z:=(0,0,0,([]:ew))) (aE h.1 (by omega)) (λx hx=>UC x (h.2 x hx))
theorem ads (a:Vector)(h:br 1048576 fy a):zg a=some a:=rfl
theorem Qf (a:aq Vector)(h:br 1048576 (.sl fy) a):CK a=some a:=mX (f:=zg) (z:=(0,0,0,0,false,false)) (aE h.1 (by omega)) (λx hx=>ads x (h.2 x hx))
theorem Xg (a:aq Bool)(h:br 1048576 (.sl .bool) a):Fu a=some a:=JN (z:=false) (aE h.1 (by omega))
theorem SJ (a:Filter)(h:br 1048576 jH a):tW a=some a:=by first|(simp only[tW,vl _ h.2.2,ab];done)|(simp only[tW,vl _ h.2.2,ab];rfl)
theorem ahu (a:gj)(h:br 1048576 qg a):Dw a=some a:=rfl
theorem Xi (a:aq gj)(h:br 1048576 (.sl qg) a):Fw a=some a:=mX (f:=Dw) (z:=(0,0,0,0,0,0,0,0,0)) (aE h.1 (by omega)) (λx hx=>ahu x (h.2 x hx))
theorem NU (a:gi)(h:br 1048576 Eb a):Du a=some a:=rfl
theorem ahw (a:Slot)(h:br 1048576 kY a):vH a=some a:=by first|(simp only[vH,NU _ h.2.1,ab];done)|(simp only[vH,NU _ h.2.1,ab];rfl)
theorem Xk (a:aq Slot)(h:br 1048576 (.sl kY) a):Fy a=some a:=mX (f:=vH) (z:=(0,(0,0,0,0,0),0)) (aE h.1 (by omega)) (λx hx=>ahw x (h.2 x hx))
theorem Lb (a:aq Slot)(h:br 1048576 (.sl kY) a):nN a=some a:=by first|(simp only[nN,Xk _ h,ab];done)|(simp only[nN,Xk _ h,ab];rfl)
theorem SL (a:gN)(h:br 1048576 uu a):tY a=some a:=by first|(simp only[tY,vl _ h.2,ab];done)|(simp only[tY,vl _ h.2,ab];rfl)
theorem M5 (a:dY)(h:br 1048576 fS a):pw a=some a:=by first|(simp only[pw,Xi _ h.1,Lb _ h.2.1,SL _ h.2.2,ab];done)|(simp only[pw,Xi _ h.1,Lb _ h.2.1,SL _ h.2.2,ab];rfl)
theorem adr (a:Stream)(h:br 1048576 dF a):pT a=some a:=by first|(simp only[pT,NU _ h.1,ab];done)|(simp only[pT,NU _ h.1,ab];rfl)
theorem Qd (a:aq Stream)(h:br 1048576 (.sl dF) a):CJ a=some a:=mX (f:=pT) (z:=((0,0,0,0,0),0,([]:Bytes),false)) (aE h.1 (by omega)) (λx hx=>adr x (h.2 x hx))
theorem M0 (a:gi)(h:br 1048576 Eb a):AH a=some a:=rfl
theorem aht (a:Host)(h:br 1048576 cI a):ox a=some a:=by first|(simp only[ox,SK _ h.1,M3 _ h.2.1,Qe _ h.2.2.1,M4 _ h.2.2.2.1,Xh _ h.2.2.2.2.1,Qf _ h.2.2.2.2.2.1,Xg _ h.2.2.2.2.2.2.1,SJ _ h.2.2.2.2.2.2.2.1,M5 _ h.2.2.2.2.2.2.2.2.1,Qd _ h.2.2.2.2.2.2.2.2.2.1,F1 _ h.2.2.2.2.2.2.2.2.2.2.2.1,vl _ h.2.2.2.2.2.2.2.2.2.2.2.2.1,vl _ h.2.2.2.2.2.2.2.2.2.2.2.2.2.1,M0 _ h.2.2.2.2.2.2.2.2.2.2.2.2.2.2,ab];done)|(simp only[ox,SK _ h.1,M3 _ h.2.1,Qe _ h.2.2.1,M4 _ h.2.2.2.1,Xh _ h.2.2.2.2.1,Qf _ h.2.2.2.2.2.1,Xg _ h.2.2.2.2.2.2.1,SJ _ h.2.2.2.2.2.2.2.1,M5 _ h.2.2.2.2.2.2.2.2.1,Qd _ h.2.2.2.2.2.2.2.2.2.1,F1 _ h.2.2.2.2.2.2.2.2.2.2.2.1,vl _ h.2.2.2.2.2.2.2.2.2.2.2.2.1,vl _ h.2.2.2.2.2.2.2.2.2.2.2.2.2.1,M0 _ h.2.2.2.2.2.2.2.2.2.2.2.2.2.2,ab];rfl)
theorem aiS (a:Act)(h:br 1048576 As a):yo a=some a:=by first|(simp only[yo,Ix _ h.2.1,ab];done)|(simp only[yo,Ix _ h.2.1,ab];rfl)
theorem ahs (a:aq Act)(h:br 1048576 (.sl As) a):vF a=some a:=mX (f:=yo) (z:=(0,(0,0,0,0,0,0,0,0,0,0,0,0,0,0,0,([]:Bytes)),0,0,([]:Bytes),0)) (aE h.1 (by omega)) (λx hx=>aiS x (h.2 x hx))
theorem EX (a:ew)(h:br 1000000000000 (.sl (.int .i64)) a):jA a a=some true:=EW h.1
theorem On (a:bt)(h:br 1000000000000 (.sl .str) a):wP a a=some true:=EW h.1
theorem abj (a:bt)(h:br 1000000000000 (.sl .str) a):yX a a=some true:=by simp[yX,On _ h]
theorem Ya (a:aA)(h:br 1000000000000 dj a):rh a a=some true:=by simp[rh]
theorem Vd (a:aq aA)(h:br 1000000000000 (.sl dj) a):AD a a=some true:=jg (f:=rh) h.1 (λx hx=>Ya x (h.2 x hx))
theorem aak (a:Ring)(h:br 1000000000000 Ml a):zW a a=some true:=by simp[zW]
theorem aaj (a:cj)(h:br 1000000000000 fY a):vD a a=some true:=by simp[vD,EX _ h.2.2.2]
theorem agr (a:gH)(h:br 1000000000000 kJ a):zY a a=some true:=by simp[zY,EX _ h.2.2]
theorem adY (a:aq gH)(h:br 1000000000000 (.sl kJ) a):Fl a a=some true:=jg (f:=zY) h.1 (λx hx=>agr x (h.2 x hx))
theorem Ye (a:bA)(h:br 1000000000000 fE a):wQ a a=some true:=by simp[wQ,aak _ h.1,aaj _ h.2.1,adY _ h.2.2.1]
theorem BZ (a:cH)(h:br 1000000000000 kQ a):iC a a=some true:=by simp[iC]
theorem Yc (a:dE)(h:br 1000000000000 Ec a):wO a a=some true:=by simp[wO]
theorem Rq (a:aU)(h:br 1000000000000 AY a):tP a a=some true:=by simp[tP,Yc _ h.2.2.2.2.2.2.2.2]
theorem ad0 (a:kc)(h:br 1000000000000 Jd a):Bl a a=some true:=by simp[Bl,Rq _ h.1]
theorem Yb (a:bh)(h:br 1000000000000 cX a):ri a a=some true:=by simp[ri,aak _ h.1,BZ _ h.2.1,BZ _ h.2.2.1,ad0 _ h.2.2.2.1]
theorem Ve (a:aq bh)(h:br 1000000000000 (.sl cX) a):AE a a=some true:=jg (f:=ri) h.1 (λx hx=>Yb x (h.2 x hx))
theorem adW (a:aq cj)(h:br 1000000000000 (.sl fY) a):Fj a a=some true:=jg (f:=vD) h.1 (λx hx=>aaj x (h.2 x hx))
theorem abm (a:Vector)(h:br 1000000000000 fy a):tR a a=some true:=by simp[tR]
theorem Yf (a:aq Vector)(h:br 1000000000000 (.sl fy) a):Cn a a=some true:=jg (f:=tR) h.1 (λx hx=>abm x (h.2 x hx))
theorem adV (a:aq Bool)(h:br 1000000000000 (.sl .bool) a):Fi a a=some true:=EW h.1
theorem abi (a:Filter)(h:br 1000000000000 jH a):yW a a=some true:=by simp[yW,EX _ h.2.2]
theorem agq (a:gj)(h:br 1000000000000 qg a):zX a a=some true:=by simp[zX]
theorem adX (a:aq gj)(h:br 1000000000000 (.sl qg) a):Fk a a=some true:=jg (f:=zX) h.1 (λx hx=>agq x (h.2 x hx))
theorem aah (a:gi)(h:br 1000000000000 Eb a):zV a a=some true:=by simp[zV]
theorem ags (a:Slot)(h:br 1000000000000 kY a):zZ a a=some true:=by simp[zZ,aah _ h.2.1]
theorem adZ (a:aq Slot)(h:br 1000000000000 (.sl kY) a):Fm a a=some true:=jg (f:=zZ) h.1 (λx hx=>ags x (h.2 x hx))
theorem Tb (a:aq Slot)(h:br 1000000000000 (.sl kY) a):su a a=some true:=by simp[su,adZ _ h]
theorem abk (a:gN)(h:br 1000000000000 uu a):yY a a=some true:=by simp[yY,EX _ h.2]
theorem Vf (a:dY)(h:br 1000000000000 fS a):uK a a=some true:=by simp[uK,adX _ h.1,Tb _ h.2.1,abk _ h.2.2]
theorem abl (a:Stream)(h:br 1000000000000 dF a):tQ a a=some true:=by simp[tQ,aah _ h.1]
theorem Yd (a:aq Stream)(h:br 1000000000000 (.sl dF) a):Cm a a=some true:=jg (f:=tQ) h.1 (λx hx=>abl x (h.2 x hx))
theorem Vc (a:gi)(h:br 1000000000000 Eb a):uJ a a=some true:=by simp[uJ]
theorem aai (a:Host)(h:br 1000000000000 cI a):rf a a=some true:=by simp[rf,abj _ h.1,Vd _ h.2.1,Ye _ h.2.2.1,Ve _ h.2.2.2.1,adW _ h.2.2.2.2.1,Yf _ h.2.2.2.2.2.1,adV _ h.2.2.2.2.2.2.1,abi _ h.2.2.2.2.2.2.2.1,Vf _ h.2.2.2.2.2.2.2.2.1,Yd _ h.2.2.2.2.2.2.2.2.2.1,On _ h.2.2.2.2.2.2.2.2.2.2.2.1,EX _ h.2.2.2.2.2.2.2.2.2.2.2.2.1,EX _ h.2.2.2.2.2.2.2.2.2.2.2.2.2.1,Vc _ h.2.2.2.2.2.2.2.2.2.2.2.2.2.2]
theorem ah6 (a:Act)(h:br 1000000000000 As a):Cj a a=some true:=by simp[Cj,Rq _ h.2.1]
theorem agp (a:aq Act)(h:br 1000000000000 (.sl As) a):Hn a a=some true:=jg (f:=Cj) h.1 (λx hx=>ah6 x (h.2 x hx))
def dI (a lo hi:Int):Bool:=decide (lo<=a)&&decide (a<=hi)
theorem bO {a lo hi:Int}:dI a lo hi=true↔lo<=a/\a<=hi:=by simp[dI]
theorem cO (a b c:Int):aK a b c=some (dI a b c):=by grind[aK,ab,dI]
theorem dh (a b c:Int):aC a b c=some (dI a b c):=cO a b c
theorem fM {l:aq α}{i:Nat}(h:i<l.length)(d:α):l.getD i d=l[i]:=by grind
def Qk (l:ew)(i:Nat):Bool:=dI (l.getD i 0) 0 4095&& !(decide (0<i)&&decide (l.getD i 0<=l.getD (i-1) 0))
def Db (f:Filter):Bool:=(range f.2.2.length).all (Qk f.2.2)&&(dI f.1 0 281474976710654&&decide ((f.2.2.length:Int)<=8))
theorem PQ (f:Filter)(h:f.2.2.length<=10^9):uj f=some (Db f):=by
 unfold uj;rw[pL (fin:=some (dI f.1 0 281474976710654&&decide ((f.2.2.length:Int)<=8))) (Qk f.2.2) f.2.2.length (by omega) (λi nx hi=>?hs) (λnx=>?hf)]
 case hs=>
  simp only[sJ]
  rw[jF,aX hi,aj (n:=(i)+1) (by omega) (by omega)]
  simp only[af,ab,cO,Qk,fM hi]
  by_cases h0:0<i
  ·have e:ak ((i)-1)=((i-1:Nat)):=by rw[aj (by omega) (by omega)];omega
   have hp:i-1<f.2.2.length:=by omega
   rw[e,aX hp,ax (show(i:Int)>0 by omega),ax h0,fM hp]
   simp only[af,ab,bF]
   cases dI f.2.2[i] 0 4095<;>cases decide (f.2.2[i]<=f.2.2[i-1])<;>rfl
  ·rw[ar (show¬(i:Int)>0 by omega),ar h0]
   cases dI f.2.2[i] 0 4095<;>rfl
 case hf=>
  simp only[sJ]
  rw[gr]
  simp only[ae,cO,ab,cw]
  cases dI f.1 0 281474976710654<;>rfl
 unfold Db;cases (range f.2.2.length).all (Qk f.2.2)<;>rfl
theorem OX (f:Filter)(h:f.2.2.length<=10^9):tH f=some (Db f):=by
 unfold tH;rw[pL (fin:=some (dI f.1 0 281474976710654&&decide ((f.2.2.length:Int)<=8))) (Qk f.2.2) f.2.2.length (by omega) (λi nx hi=>?hs) (λnx=>?hf)]
 case hs=>
  simp only[rT]
  rw[jF,aX hi,aj (n:=(i)+1) (by omega) (by omega)]
  simp only[af,ab,dh,Qk,fM hi]
  by_cases h0:0<i
  ·have e:ak ((i)-1)=((i-1:Nat)):=by rw[aj (by omega) (by omega)];omega
   have hp:i-1<f.2.2.length:=by omega
   rw[e,aX hp,ax (show(i:Int)>0 by omega),ax h0,fM hp]
   simp only[af,ab,bF,ge_iff_le]
   cases dI f.2.2[i] 0 4095<;>cases decide (f.2.2[i]<=f.2.2[i-1])<;>rfl
  ·rw[ar (show¬(i:Int)>0 by omega),ar h0]
   cases dI f.2.2[i] 0 4095<;>rfl
 case hf=>
  simp only[rT]
  rw[gr]
  simp only[ae,dh,ab,cw]
  cases dI f.1 0 281474976710654<;>rfl
 unfold Db;cases (range f.2.2.length).all (Qk f.2.2)<;>rfl
def EF (r:gj):Bool:=(mG r).getD false
theorem PX (r:gj):mG r=some (EF r):=by simp_all[mG,cO,cw,EF]
theorem aeQ (r:gj):Dk r=some (EF r):=PX r
theorem WD {r:gj}(h:EF r=true):r.2.2.2.2.2.2.2.1=0\/r.2.2.2.2.2.2.2.2=0:=by
 by_cases h0:r.2.2.2.2.2.2.2.1=0;exact .inl h0;by_cases h1:r.2.2.2.2.2.2.2.2=0;exact .inr h1;exfalso;have e0:(r.2.2.2.2.2.2.2.1==0)=false:=by simp[h0]
 have e1:(r.2.2.2.2.2.2.2.2==0)=false:=by simp[h1]
 revert h;unfold EF;simp only[mG,cO,ab,cw,e0,e1,ae,fz];have z:∀c:Bool,(bif c then false else false)=false:=by intro c;cases c<;>rfl
 simp only[z];intro h;cases h
def CP (l:aq gj):Bool:=l.all EF&&decide ((l.length:Int)<=12)
theorem Im (l:aq gj)(h:l.length<=10^9):xF l=some (CP l):=by unfold xF;rw[rN (hit:=some false) (fin:=some (decide ((l.length:Int)<=12))) EF l (by omega) (λi hi nx=>?hs) (λnx=>?hf)];all_goals grind[AK,aX,aj,ab,PX,CP]
theorem RQ (l:aq gj)(h:l.length<=10^9):Bj l=some (CP l):=by rw[<-Im l h];rfl
theorem ap9 (x:Int):((BitVec.ofInt 64 x&&&BitVec.ofInt 64 7).toNat:Int)=x%8:=by
 have h7:(BitVec.ofInt 64 7).toNat=2^3-1:=by decide
 rw[BitVec.toNat_and,h7,Nat.and_two_pow_sub_one_eq_mod];grind[BitVec.toNat_ofInt]
theorem ai6 (x:Int):((fR x&&&fR 7).toNat:Int)=x%8:=ap9 x
theorem agW (x:Int):iK x 8=some (x%8):=by grind[iK,aj]
def IJ (f:gi):Int:=(f.1%8+f.2.1%8+f.2.2.1%8+f.2.2.2.1%8+f.2.2.2.2%8)%8
theorem VG (f:gi):0<=IJ f/\IJ f<8:=by unfold IJ;omega
theorem ahU {n:Int}(h:0<=n):tmod n 8=n%8:=eP h
theorem afG (f:gi):zx f=some (IJ f):=by
 unfold zx;generalize hL:[f.1,f.2.1,f.2.2.1,f.2.2.2.1,f.2.2.2.2]=L;have hlen:L.length=5:=by rw[<-hL];rfl
 have xS:=cR;have key:=BP (T:=nZ (λ(y2) (y3)=>if 8=0 then none else(some (tmod y2 8))) L) L (λ(s) i=>(s,(i))) (λx s k=>k (ak (s+ak (x%8)))) (λs=>some (tmod s 8)) (λi hi s nx=>by simp only[nZ];rw[jF,aX hi,aj (by omega) (by omega)];grind[ab,ai6]) (λs nx=>by grind[nZ]) fuel 0 0 (by omega) (by omega);refine key.trans ?_;rw[<-hL];simp(disch:=omega)[zO,aj,ahU,IJ]
theorem aeI (f:gi):yL f=some (IJ f):=by
 unfold yL;generalize hL:[f.1,f.2.1,f.2.2.1,f.2.2.2.1,f.2.2.2.2]=L;have hlen:L.length=5:=by rw[<-hL];rfl
 have xS:=cR;have key:=BP (T:=nE (λ(y2) (y3)=>if 8=0 then none else(some (tmod y2 8))) L (L.length)) L (λ(s) i=>(s,(i))) (λx s k=>k (ak (s+(x%8)))) (λs=>some (tmod s 8)) (λi hi s nx=>by grind[nE,aX,aj,ab,agW]) (λs nx=>by grind[nE]) fuel 0 0 (by omega) (by omega);refine key.trans ?_;rw[<-hL];simp(disch:=omega)[zO,aj,ahU,IJ]
def gh (t:aq Slot)(i:Nat):Slot:=t.getD i (0,(0,0,0,0,0),0)
theorem yt {t:aq Slot}{i:Nat}(h:i<t.length):gh t i=t[i]:=fM h _
def lI (f:gi)(k:Nat):Nat:=((IJ f).toNat+k)%8
theorem Li (f:gi)(k:Nat):lI f k<8:=Nat.mod_lt _ (by omega)
theorem Xr (f:gi)(k:Nat)(h:k<8):tmod (ak (IJ f+(k:Int))) 8=(lI f k:Int):=by have:=VG f;grind[aj,lI]
def pH (s:Slot)(f:gi):Bool:=(s.1==1)&&decide (s.2.1=f)
theorem Ti (p q:gi):((p.1==q.1)&&((p.2.1==q.2.1)&&((p.2.2.1==q.2.2.1)&&((p.2.2.2.1==q.2.2.2.1)&&((p.2.2.2.2==q.2.2.2.2)&&true)))))=decide (p=q):=by grind
def walk (t:aq Slot)(f:gi):Nat->Nat->Int
 |0,_=> -1
 |n+1,k=>if(gh t (lI f k)).1=0 then-1 else if pH (gh t (lI f k)) f then(lI f k:Int) else walk t f n (k+1)
theorem WV (t:aq Slot)(f:gi)(ht:t.length=8):BB t f=some (walk t f 8 0):=by
 have xS:=cR
 have key:=H9 (T:=vg (λ(y6)=>some (-1)) (λ(y7) (y8)=>some y7) 0 t f) 8 (λ(_) i=>(i))
  (λi s k=>if(gh t (lI f i)).1=0 then some (-1) else if pH (gh t (lI f i)) f then some (lI f i) else k s) (λ_=>some (-1))
  (λi s nx hi=>by
   have hw:lI f i<t.length:=by have:=Li f i;omega
   simp only[vg,afG];rw[jF,aj (by omega) (by omega)];simp only[af,ab,Xr f i hi,aX hw,yt hw,Ti,pH,cw,ab];by_cases h0:t[lI f i].1=0;simp[h0];have e0:(t[lI f i].1==0)=false:=by simp[h0]
   rw[e0,aF h0];cases (t[lI f i].1==1)<;>cases decide (t[lI f i].2.1=f)<;>rfl)
  (λs nx=>by rfl)
  fuel 0 () (by omega) (by omega)
 refine key.trans ?_;have main:∀n i,upK (R:=Int) (λi (s) k=>if(gh t (lI f i)).1=0 then some (-1) else if pH (gh t (lI f i)) f then some (lI f i) else k s) (λ_=>some (-1)) 8 n i ()=some (walk t f n i):=by intro n;induction n with|zero=>intro i;rfl|succ n ih=>intro i;rw[upK,walk];split;rfl;split;rfl;exact ih (i+1)
 exact main 8 0
def Aw (f:gi):aq Slot->Int->Int
 |[],_=> -1
 |s::r,i=>if pH s f then i else Aw f r (i+1)
theorem V2 (t:aq Slot)(f:gi)(h:t.length<=10^9):Dl t f=some (Aw f t 0):=by
 have xS:=cR;have key:∀n i,i<=t.length->t.length-i<n->aI (wM (λ(y3)=>some (-1)) (λ(y4) (y5)=>some y4) 0 t ((List.length t)) f) n (i)=some (Aw f (t.drop i) i):=by
  intro n;induction n with
  |zero=>intro i _ h;omega
  |succ n ih=>
   intro i hi hn;rw[aI];simp only[wM];rcases bS i t.length with gV|BM;rw[jF,aX gV,cl gV,Aw,aj (by omega) (by omega)];simp only[af,ab,Ti,cw];have e:(bif t[i].1==1 then decide (t[i].2.1=f) else false)=pH t[i] f:=by unfold pH;cases (t[i].1==1)<;>rfl
   rw[e];cases pH t[i] f with|true=>rfl|false=>exact ih (i+1) (by omega) (by omega)
   have:i=t.length:=by omega
   subst this;rw[gr,List.drop_length];rfl
 exact key fuel 0 (by omega) (by omega)
theorem agQ (f:gi):JB f=some ((range 8).map λk=>(lI f k:Int)):=by have xS:=cR;have key:=H9 (T:=yV (λ(y2) (y3)=>some y2) f) 8 (λ(_) i=>((range i).map (λk=>(lI f k)),(i))) (λ_ s k=>k s) (λ_=>some ((range 8).map λk=>(lI f k))) (λi s nx hi=>by grind[yV,aeI,aj,ab,Xr,aQ,List.range_succ]) (λs nx=>by rfl) fuel 0 () (by omega) (by omega);exact key
def clear (t:aq Slot)(f:gi)(i:Nat):Nat->Nat->Bool
 |0,_=>true
 |n+1,k=>if lI f k=i then true else if(gh t (lI f k)).1=0 then false else clear t f i n (k+1)
theorem abJ (k0:Int->au R)(k1:Bool->Int->au R)(hit fin:au R)(h0:∀x,k0 x=fin)(h1:∀x,k1 false x=hit)(v2:Bool)(i:Nat)(UN:aq Slot)(Xo v14:Int)(t:aq Slot)(f:gi)(ht:t.length=8): aI (nH k0 k1 v2 (i:Int) UN Xo v14 ((range 8).map λk=>(lI f k:Int)) (((range 8).map λk=>(lI f k:Int)).length:Int) t) fuel 0=cond (clear t f i 8 0) fin hit:=by
 have xS:=cR;have hl:((range 8).map λk=>(lI f k:Int)).length=8:=by simp
 have key:=H9 (T:=nH k0 k1 v2 (i) UN Xo v14 ((range 8).map λk=>(lI f k)) (((range 8).map λk=>(lI f k:Int)).length) t) 8 (λ(_) i=>(i))
  (λk s c=>if lI f k=i then fin else if(gh t (lI f k)).1=0 then hit else c s) (λ_=>fin)
  (λk s nx hk=>by
   have hw:lI f k<t.length:=by have:=Li f k;omega
   simp only[nH];rw[jF,aX (show k<((range 8).map λk=>(lI f k:Int)).length by omega),aj (by omega) (by omega)];simp only[af,ab,List.getElem_map,List.getElem_range,aX hw,yt hw,h0,h1];by_cases e1:lI f k=i;subst e1;simp;have:((lI f k:Int)==(i))=false:=by simp;omega
   rw[this,aF e1];by_cases e2:t[lI f k].1=0;simp[e2];have:(t[lI f k].1==0)=false:=by simp[e2]
   rw[this,aF e2];rfl)
  (λs nx=>by exact h0 _)
  fuel 0 () (by omega) (by omega)
 refine key.trans ?_;have main:∀n k,upK (λk (s) c=>if lI f k=i then fin else if(gh t (lI f k)).1=0 then hit else c s) (λ_=>fin) 8 n k ()=cond (clear t f i n k) fin hit:=by intro n;induction n with|zero=>intro k;rfl|succ n ih=>intro k;rw[upK,clear];split;rfl;split;rfl;exact ih (k+1)
 exact main 8 0
def Vq:gi:=(0,0,0,0,0)
theorem Vr (p:gi):((p.1==0)&&((p.2.1==0)&&((p.2.2.1==0)&&((p.2.2.2.1==0)&&((p.2.2.2.2==0)&&true)))))=decide (p=Vq):=Ti p Vq
def Su (s:Slot):Bool:=dI s.1 0 2&&dI s.2.2 0 3&&((s.1==1)||(s.2.2==0)&&decide (s.2.1=Vq))
def nT (t:aq Slot)(i:Nat):Bool:=Su (gh t i)&&(!((gh t i).1==1)||(walk t (gh t i).2.1 8 0==(i:Int)))
def vz (t:aq Slot)(i:Nat):Bool:=Su (gh t i)&&(!((gh t i).1==1)||(Aw (gh t i).2.1 t 0==(i:Int))&&clear t (gh t i).2.1 i 8 0)
def xP (t:aq Slot):Bool:=(t.length==8)&&(range 8).all (nT t)
theorem SA (t:aq Slot):xG t=some (xP t):=by
 unfold xG xP;by_cases ht:t.length=8
 ·have e:((t.length:Int) !=8)=false:=by rw[ht];rfl
  have e2:(t.length==8)=true:=by rw[ht];rfl
  rw[e,e2];rw[pL (nT t) 8 (by omega) (λi nx hi=>?hs) (λnx=>?hf)]
  case hs=>
   have hl:i<t.length:=by omega
   simp only[vd]
   rw[jF,aX hl,aj (by omega) (by omega)]
   simp only[af,ab,cO,cw,Vr,WV t _ ht,nT,yt hl,Su,bne]
   cases dI t[i].1 0 2<;>cases dI t[i].2.2 0 3<;>cases (t[i].1==1)<;>cases (t[i].2.2==0)<;>cases decide (t[i].2.1=Vq)<;>first|rfl|(cases (walk t t[i].2.1 8 0==(i))<;>rfl)
  case hf=>
   simp only[vd]
   rw[gr];rfl
  cases (range 8).all (nT t)<;>rfl
 have e:((t.length:Int) !=8)=true:=by simp;omega
 have e2:(t.length==8)=false:=by simp[ht]
 rw[e,e2];rfl
theorem YM (t:aq Slot):sj t=some ((t.length==8)&&(range 8).all (vz t)):=by
 unfold sj;by_cases ht:t.length=8
 ·have e:((t.length:Int) !=8)=false:=by rw[ht];rfl
  have e2:(t.length==8)=true:=by rw[ht];rfl
  rw[e,e2];rw[pL (vz t) 8 (by omega) (λi nx hi=>?hs) (λnx=>?hf)]
  case hs=>
   have hl:i<t.length:=by omega
   simp only[uF]
   rw[jF,aX hl,aj (by omega) (by omega)]
   simp only[af,ab,dh,cw,Vr,V2 t _ (show t.length<=10^9 by omega),agQ,vz,yt hl,Su,bne]
   rw[abJ (λ_=>nx ((i)+1)) (λ(y) (_)=>some y) (some false) (nx ((i)+1)) (λ_=>rfl) (λ_=>rfl) _ _ _ _ _ _ _ ht]
   cases dI t[i].1 0 2<;>cases dI t[i].2.2 0 3<;>cases (t[i].1==1)<;>cases (t[i].2.2==0)<;>cases decide (t[i].2.1=Vq)<;>first|rfl|(cases (Aw t[i].2.1 t 0==(i))<;>first|rfl|(cases clear t t[i].2.1 i 8 0<;>rfl))
  case hf=>
   simp only[uF]
   rw[gr];rfl
  cases (range 8).all (vz t)<;>rfl
 have e:((t.length:Int) !=8)=true:=by simp;omega
 have e2:(t.length==8)=false:=by simp[ht]
 rw[e,e2];rfl
theorem SP (t:aq Slot)(f:gi)(i:Nat):∀n k,walk t f n k=(i:Int)->pH (gh t i) f=true/\clear t f i n k=true/\∃j,j<n/\lI f (k+j)=i
 |0,k,h=>by unfold walk at h;omega
 |n+1,k,h=>by
  unfold walk at h;unfold clear;by_cases h0:(gh t (lI f k)).1=0;omega;rw[aF h0]at h;by_cases h1:pH (gh t (lI f k)) f=true;rw[aG h1]at h;have:lI f k=i:=by omega
  subst this;exact⟨h1,by simp,0,by omega,rfl⟩;rw[aF h1]at h;obtain⟨a,b,j,hj,e⟩:=SP t f i n (k+1) h;refine⟨a,?_,j+1,by omega,by rw[<-e];congr 1;omega⟩;rw[aF h0,b];split<;>rfl
theorem aa3 (t:aq Slot)(f:gi)(i:Nat)(hu:pH (gh t i) f=true)(ahQ:∀j,j<8->pH (gh t j) f=true->j=i):∀n k,clear t f i n k=true->(∃j,j<n/\lI f (k+j)=i)->walk t f n k=(i:Int)
 |0,k,_,h=>by omega
 |n+1,k,hc,⟨j,hj,e⟩=>by unfold walk;unfold clear at hc;by_cases h1:lI f k=i;rw[h1,aF,aG hu];intro h0;unfold pH at hu;rw[h0]at hu;simp at hu;rw[aF h1]at hc;by_cases h0:(gh t (lI f k)).1=0;rw[aG h0]at hc;cases hc;rw[aF h0]at hc;rw[aF h0,aF (λRI=>h1 (ahQ _ (Li f k) RI))];refine aa3 t f i hu ahQ n (k+1) hc ?_;cases j with|zero=>exact absurd e h1|succ j=>exact⟨j,by omega,by rw[<-e];congr 1;omega⟩
theorem ahy (f:gi)(i:Nat)(hi:i<8):∃j,j<8/\lI f (0+j)=i:=by have:=VG f;refine⟨(i+8-(IJ f).toNat)%8,by omega,?_⟩;unfold lI;omega
theorem G2 (f:gi):∀(t:aq Slot)(m:Nat),(∃j,j<t.length/\pH (gh t j) f=true)->∃j,j<t.length/\pH (gh t j) f=true/\Aw f t m=((m+j:Nat):Int)
 |[],_,h=>by obtain⟨j,hj,_⟩:=h;simp at hj
 |s::r,m,⟨j,hj,e⟩=>by
  unfold Aw;by_cases hs:pH s f=true;rw[aG hs];exact⟨0,by simp,by simpa[gh]using hs,by simp⟩;rw[aF hs];cases j with
  |zero=>exact absurd (by simpa[gh]using e) hs
  |succ j=>
   obtain⟨j',h1,h2,h3⟩:=G2 f r (m+1) ⟨j,by simpa using hj,by simpa[gh]using e⟩;refine⟨j'+1,by simpa using h1,by simpa[gh]using h2,?_⟩;have:((m:Int)+1)=((m+1:Nat)):=by omega
   rw[this,h3];congr 1;omega
theorem Zy (t:aq Slot)(ht:t.length=8):(range 8).all (vz t)=(range 8).all (nT t):=by
 rw[fj,aW,aW];simp only[dy];constructor;intro h i hi;have hI:=h i hi;unfold vz at hI;unfold nT;simp only[ah,df,aP,bD]at hI⊢;refine⟨hI.1,?_⟩;rcases hI.2 with h1|⟨h1,h2⟩;exact .inl h1;by_cases hu:((gh t i).1==1)=true;right;have RI:pH (gh t i) (gh t i).2.1=true:=by unfold pH;rw[hu];simp
 refine aa3 t _ i RI (λj hj huj=>?_) 8 0 h2 (ahy _ i hi);have hJ:=h j hj;unfold vz at hJ;unfold pH at huj;simp only[ah,bE]at huj;simp only[ah,df,aP,bD]at hJ;rcases hJ.2 with h3|⟨h3,_⟩;rw[huj.1]at h3;cases h3;rw[huj.2]at h3;omega;exact .inl (by simpa using hu);intro h i hi;have hI:=h i hi;unfold nT at hI;unfold vz;simp only[ah,df,aP,bD]at hI⊢;refine⟨hI.1,?_⟩;rcases hI.2 with h1|h1;exact .inl h1;right;obtain⟨hu,hc,_⟩:=SP t _ i 8 0 h1;refine⟨?_,hc⟩;obtain⟨j,hj,huj,e⟩:=G2 (gh t i).2.1 t 0 ⟨i,by omega,hu⟩;have hJ:=h j (by omega);unfold nT at hJ;unfold pH at huj;simp only[ah,bE]at huj;simp only[ah,df,aP,bD]at hJ;rcases hJ.2 with h3|h3;rw[huj.1]at h3;cases h3;rw[huj.2,h1]at h3;have e':Aw (gh t i).2.1 t 0=((0+j)):=e;omega
theorem RU (t:aq Slot):sj t=some (xP t):=by
 rw[YM,xP];by_cases ht:t.length=8;rw[Zy t ht];have e2:(t.length==8)=false:=by simp[ht]
 rw[e2];rfl
def aaO (n:Int):Bool:=(n==1)||(n==2)||(n==4)||(n==8)||(n==16)
theorem YW (n:Int):Bz n=some (aaO n):=by grind[Bz,ab,aaO]
def BG (s:gN)(q:Int):Bool:=dI q 1 4&&((s.1.length:Int)==16)&&aaO s.2.length&&s.2.all λx=>dI x 0 (q-1)
theorem JI (s:gN)(q:Int)(h:s.2.length<=10^9):uo s q=some (BG s q):=by
 unfold uo BG;simp only[cO,YW,ab,cw,bne];by_cases hq:dI q 1 4=true
 ·rw[rN (λx=>dI x 0 (q-1)) s.2 (by omega) (λi hi nx=>?hs) (λnx=>?hf)]
  case hs=>
   rw[bO]at hq
   simp only[sP]
   rw[jF,aX hi,aj (by omega) (by omega),aj (by omega) (by omega)]
   simp only[af,ab,cO];rfl
  case hf=>
   simp only[sP]
   rw[gr];rfl
  rw[hq];cases ((s.1.length:Int)==16)<;>cases aaO s.2.length<;>cases s.2.all (λx=>dI x 0 (q-1))<;>rfl
 have hq':dI q 1 4=false:=by simpa using hq
 rw[hq'];rfl
theorem O2 (s:gN)(q:Int)(h:s.2.length<=10^9):yS s q=some (BG s q):=by rw[<-JI s q h];rfl
def iH (s:dY)(q:Int):Bool:=CP s.1&&xP s.2.1&&BG s.2.2 q&&s.1.all (λr=> !(decide (r.2.2.2.2.2.2.2.2>=q)))&&s.2.1.all (λx=> !(decide (x.2.2>=q)))
theorem K3 (s:dY)(q:Int)(h1:s.1.length<=10^9)(h2:s.2.1.length<=10^9)(h3:s.2.2.2.length<=10^9):pF s q=some (iH s q):=by
 unfold pF iH;simp only[Im _ h1,SA,JI _ _ h3,ab,cw];rw[rN (hit:=some false) (fin:=cond (s.2.1.all (λx=> !(decide (x.2.2>=q)))) (some true) (some false)) (λr:gj=> !(decide (r.2.2.2.2.2.2.2.2>=q))) s.1 (by omega) (λi hi nx=>?hs) (λnx=>?hf)]
 case hs=>
  grind[pa,aX,aj,ab]
 case hf=>
  simp only[pa]
  rw[gr]
  simp only[ae]
  rw[rN (λx:Slot=> !(decide (x.2.2>=q))) s.2.1 (by omega) (λi hi nx=>?hs) (λnx=>?hf)]
  all_goals grind[vq,aX,aj,ab]
 grind
theorem Ks (s:dY)(q:Int)(h1:s.1.length<=10^9)(h2:s.2.1.length<=10^9)(h3:s.2.2.2.length<=10^9):pq s q=some (iH s q):=by
 unfold pq iH;simp only[RQ _ h1,RU,O2 _ _ h3,ab,cw];rw[rN (λr:gj=> !((r.2.2.2.2.2.2.2.1==0)&&decide (r.2.2.2.2.2.2.2.2>=q))) s.1 (by omega) (λi hi nx=>?hs) (λnx=>?hf)]
 case hs=>
  simp only[oK]
  rw[jF,aX hi,aj (by omega) (by omega)]
  simp only[af,ab,Bool.not_not,cw]
  cases (s.1[i].2.2.2.2.2.2.2.1==0)<;>rfl
 case hf=>
  simp only[oK]
  rw[gr]
  simp only[ae]
  rw[rN (λx:Slot=> !((x.1==1)&&decide (x.2.2>=q))) s.2.1 (by omega) (λi hi nx=>?hs) (λnx=>?hf)]
  case hs=>
   simp only[nj]
   rw[jF,aX hi,aj (by omega) (by omega)]
   simp only[af,ab,Bool.not_not,cw]
   cases (s.2.1[i].1==1)<;>rfl
  case hf=>
   simp only[nj]
   rw[gr];rfl
 cases hr:CP s.1 with
 |false=>rfl
 |true=>
  cases ht:xP s.2.1 with
  |false=>rfl
  |true=>
   cases hs:BG s.2.2 q with
   |false=>rfl
   |true=>
    have hq:1<=q:=by unfold BG at hs;simp only[ah,bO]at hs;exact hs.1.1.1.1
    have e1:s.1.all (λr=> !((r.2.2.2.2.2.2.2.1==0)&&decide (r.2.2.2.2.2.2.2.2>=q)))=s.1.all (λr=> !(decide (r.2.2.2.2.2.2.2.2>=q))):=by unfold CP at hr;simp only[ah,aW]at hr;rw[fj,aW,aW];refine forall_congr' λr=>forall_congr' λhm=>?_;rcases WD (hr.1 r hm)with h0|h0;rw[h0];simp;rw[h0];simp only[ar (show¬(0)>=q by omega),jI]
    have e2:s.2.1.all (λx=> !((x.1==1)&&decide (x.2.2>=q)))=s.2.1.all (λx=> !(decide (x.2.2>=q))):=by unfold xP at ht;simp only[ah,aW,dy,bD]at ht;rw[fj,aW,aW];refine forall_congr' λx=>forall_congr' λhm=>?_;obtain⟨i,hi,rfl⟩:=List.mem_iff_getElem.1 hm;have hsl:=ht.2 i (by omega);unfold nT Su at hsl;rw[yt hi]at hsl;simp only[ah,df,bD]at hsl;rcases hsl.1.2 with h0|⟨h0,_⟩;rw[h0];simp;rw[h0];simp only[ar (show¬(0)>=q by omega),jI]
    rw[e1,e2];cases s.1.all (λr=> !(decide (r.2.2.2.2.2.2.2.2>=q)))<;>cases s.2.1.all (λx=> !(decide (x.2.2>=q)))<;>rfl
theorem fQ {n:Nat}(h:n<9223372036854775808):ak (n:Int)=(n:Int):=aj (by omega) (by omega)
theorem Lj {n:Nat}(h:n<4294967296:=by omega):IntKind.wrap .u32 (n:Int)=(n:Int):=by grind[IntKind.wrap,IntKind.bits,IntKind.signed]
theorem ky (b:UInt8):b.toNat<256:=b.toNat_lt
def bW (v:Int):Bytes:=(bR v).getD []
theorem ia (v:Int):bR v=some (bW v):=by grind[bW,bR,cO,ab]
theorem la (v:Int):cd v=some (bW v):=ia v
theorem JQ (v:Int):(bW v).length=bif dI v 0 65535 then 2 else 0:=by have h:=ia v;simp only[bR,cO,ab]at h;cases hb:dI v 0 65535<;>rw[hb]at h<;>(rw[<-cE h];rfl)
theorem bu (v:Int):(bW v).length<=2:=by grind[JQ]
def jd (v:Int):Bytes:=(ff v).getD []
theorem mS (v:Int):ff v=some (jd v):=by grind[jd,ff,cO,ab]
theorem Cf (v:Int):gw v=some (jd v):=mS v
theorem Qn (v:Int):(jd v).length=bif dI v 0 4294967295 then 4 else 0:=by have h:=mS v;simp only[ff,cO,ab]at h;cases hb:dI v 0 4294967295<;>rw[hb]at h<;>(rw[<-cE h];rfl)
theorem dH (v:Int):(jd v).length<=4:=by grind[Qn]
def bI (s:Bytes)(i:Nat):Nat:=(s.getD i 0).toNat
theorem eY (s:Bytes)(i:Nat):bI s i<256:=ky _
theorem ki {i:Nat}(h:i<s.length:=by omega):∃x,idx s (i:Int)=some x/\x.toNat=bI s i:=⟨s[i],aX h,by rw[bI,fM h]⟩
def fJ (s:Bytes)(a n:Int):Bool:=decide (0<=a/\a+n<=(s.length:Int))
theorem HF (s:Bytes)(a n:Int)(h:s.length<=10^9)(hn:0<=n):oe s a n=some (fJ s a n):=by
 unfold oe fJ;by_cases h0:0<=a;by_cases h1:a<=(s.length:Int)
 rw[ax (show a>=0 from h0),ax h1,aj (by omega) (by omega)];simp only[af,ab];congr 1;rw[decide_eq_decide];omega;rw[ax (show a>=0 from h0),ar h1,ar (show¬(0<=a/\a+n<=(s.length:Int)) by omega)];rfl;rw[ar (show¬a>=0 from h0),ar (show¬(0<=a/\a+n<=(s.length:Int)) by omega)];rfl
def cx (s:Bytes)(a:Int):Int:=bif fJ s a 2 then((bI s a.toNat*256+bI s (a.toNat+1):Nat):Int) else-1
def fg (s:Bytes)(a:Int):Int:=bif fJ s a 4 then(((bI s a.toNat*256+bI s (a.toNat+1))*65536+(bI s (a.toNat+2)*256+bI s (a.toNat+3)):Nat):Int) else-1
theorem sH (s:Bytes)(a:Int)(h:s.length<=10^9):dV s a=some (cx s a):=by unfold dV cx;rw[HF s a 2 h (by omega),ab];cases hw:fJ s a 2 with|false=>rfl|true=>simp only[fJ,bE]at hw;obtain⟨n,rfl⟩:=aJ hw.1;obtain⟨x,hx,ex⟩:=ki (s:=s) (i:=n);obtain⟨y,hy,ey⟩:=ki (s:=s) (i:=n+1);have hxl:=eY s n;have hyl:=eY s (n+1);rw[aj (n:=(n:Int)+1) (by omega) (by omega),hx,show(n:Int)+1=((n+1:Nat):Int) by omega,hy];simp only[ai,ae,ab,ay,af];rw[mI,ex,ey,fQ (by omega),fQ (by omega)];have e8:rL 8=8:=rfl;rw[e8,aj (n:=((bI s n:Nat):Int)*2^8) (by omega) (by omega),aj (by omega) (by omega)];congr 1;all_goals omega
theorem BS (s:Bytes)(a:Int)(h:s.length<=10^9):ib s a=some (fg s a):=by
 unfold ib fg;rw[HF s a 4 h (by omega),ab];cases hw:fJ s a 4 with
 |false=>rfl
 |true=>
  simp only[fJ,bE]at hw;obtain⟨n,rfl⟩:=aJ hw.1;have w1:fJ s (n:Int) 2=true:=by grind[fJ]
  have w2:fJ s ((n:Int)+2) 2=true:=by grind[fJ]
  have b0:=eY s n;have b1:=eY s (n+1);have b2:=eY s (n+2);have b3:=eY s (n+3);rw[aj (n:=(n:Int)+2) (by omega) (by omega),sH s _ h,sH s _ h];simp only[ai,ae,ab,af,cx,w1,w2,ay];rw[mI,show((n:Int)+2).toNat=n+2 by omega,show n+2+1=n+3 by omega];have e8:rL 16=16:=rfl;rw[e8,aj (n:=((bI s n*256+bI s (n+1):Nat):Int)*2^16) (by omega) (by omega),aj (by omega) (by omega)];congr 1;all_goals omega
theorem aqV (a b:Nat)(ha:a<9223372036854775808)(hb:b<9223372036854775808):toNat (fR (a:Int)|||fR (b:Int))=a|||b:=by show(BitVec.ofInt 64 (a:Int)|||BitVec.ofInt 64 (b:Int)).toNat=_;grind
theorem ahF (a b:Nat)(ha:a<9223372036854775808:=by omega)(hb:b<9223372036854775808:=by omega):toNat (fR (a:Int)&&&fR (b:Int))=a&&&b:=by show(BitVec.ofInt 64 (a:Int)&&&BitVec.ofInt 64 (b:Int)).toNat=_;grind
theorem aa4 (a b:Nat)(ha:a<9223372036854775808)(hb:b<9223372036854775808):toNat (fR (a:Int)^^^fR (b:Int))=a^^^b:=by show(BitVec.ofInt 64 (a:Int)^^^BitVec.ofInt 64 (b:Int)).toNat=_;grind
theorem ai5 (a b:Nat)(ha:a<4294967296)(hb:b<4294967296):toNat (BitVec.ofInt (IntKind.bits .u32) (a:Int)&&&BitVec.ofInt (IntKind.bits .u32) (b:Int))=a&&&b:=by show(BitVec.ofInt 32 (a:Int)&&&BitVec.ofInt 32 (b:Int)).toNat=_;grind
theorem ahV (a b:Nat)(ha:a<4294967296)(hb:b<4294967296):toNat (BitVec.ofInt (IntKind.bits .u32) (a:Int)^^^BitVec.ofInt (IntKind.bits .u32) (b:Int))=a^^^b:=by show(BitVec.ofInt 32 (a:Int)^^^BitVec.ofInt 32 (b:Int)).toNat=_;grind
theorem JF (x k y:Nat)(hy:y<2^k:=by omega)(h:2^k*x+y<9223372036854775808:=by omega):ak (toNat (fR ((2^k*x:Nat):Int)|||fR (y:Int)):Int)=((2^k*x+y:Nat):Int):=by rw[aqV _ _ (by omega) (by omega),<-Nat.two_pow_add_eq_or_of_lt hy];exact fQ h
theorem MZ (s:Bytes)(a n:Int):(cond (decide (a<0)) (some true) (some (decide (a>(s.length:Int)-n))))=some (!fJ s a n):=by grind[fJ]
theorem yf (s:Bytes)(a:Int)(h:s.length<=10^9):eX s a=some (cx s a):=by unfold eX cx;rw[aj (n:=(s.length:Int)-2) (by omega) (by omega)];rw[MZ,ab];cases hw:fJ s a 2 with|false=>rfl|true=>simp only[fJ,bE]at hw;obtain⟨n,rfl⟩:=aJ hw.1;obtain⟨x,hx,ex⟩:=ki (s:=s) (i:=n);obtain⟨y,hy,ey⟩:=ki (s:=s) (i:=n+1);have hxl:=eY s n;have hyl:=eY s (n+1);rw[aj (n:=(n:Int)+1) (by omega) (by omega),hx,show(n:Int)+1=((n+1:Nat):Int) by omega,hy];simp only[ai,ae,af,ab,ay];rw[mI,ex,ey,fQ (n:=bI s n) (by omega),fQ (n:=bI s (n+1)) (by omega)];have e8:rL 8=8:=rfl;rw[e8,show((bI s n:Nat):Int)*2^8=((2^8*bI s n:Nat):Int) by omega,fQ (n:=2^8*bI s n) (by omega),JF (bI s n) 8 (bI s (n+1))];congr 1;all_goals omega
theorem BN (s:Bytes)(a:Int)(h:s.length<=10^9):iA s a=some (fg s a):=by
 unfold iA fg;rw[aj (n:=(s.length:Int)-4) (by omega) (by omega)];rw[MZ,ab];cases hw:fJ s a 4 with
 |false=>rfl
 |true=>
  simp only[fJ,bE]at hw;obtain⟨n,rfl⟩:=aJ hw.1;obtain⟨x0,h0,e0⟩:=ki (s:=s) (i:=n);obtain⟨x1,h1,e1⟩:=ki (s:=s) (i:=n+1);obtain⟨x2,h2,e2⟩:=ki (s:=s) (i:=n+2);obtain⟨x3,h3,e3⟩:=ki (s:=s) (i:=n+3);have b0:=eY s n;have b1:=eY s (n+1);have b2:=eY s (n+2);have b3:=eY s (n+3)
  rw[aj (n:=(n:Int)+1) (by omega) (by omega),aj (n:=(n:Int)+2) (by omega) (by omega),aj (n:=(n:Int)+3) (by omega) (by omega),h0,show(n:Int)+1=((n+1:Nat):Int) by omega,h1,
   show(n:Int)+2=((n+2:Nat):Int) by omega,h2,show(n:Int)+3=((n+3:Nat):Int) by omega,h3]
  simp only[ai,ae,af,ab,ay];rw[mI,mI,mI,e0,e1,e2,e3];generalize bI s n=p0 at*;generalize bI s (n+1)=p1 at*;generalize bI s (n+2)=p2 at*;generalize bI s (n+3)=p3 at*;have f24:rL 24=24:=rfl;have f16:rL 16=16:=rfl;have f8:rL 8=8:=rfl
  rw[fQ (n:=p0) (by omega),fQ (n:=p1) (by omega),fQ (n:=p2) (by omega),fQ (n:=p3) (by omega),f24,f16,f8,
   show((p0:Nat):Int)*2^24=((2^24*p0:Nat):Int) by omega,show((p1:Nat):Int)*2^16=((2^16*p1:Nat):Int) by omega,show((p2:Nat):Int)*2^8=((2^8*p2:Nat):Int) by omega,
   fQ (n:=2^24*p0) (by omega),fQ (n:=2^16*p1) (by omega),fQ (n:=2^8*p2) (by omega),JF p0 24 (2^16*p1),
   show 2^24*p0+2^16*p1=2^16*(2^8*p0+p1) by omega,JF _ 16 (2^8*p2),
   show 2^16*(2^8*p0+p1)+2^8*p2=2^8*(2^8*(2^8*p0+p1)+p2) by omega,JF _ 8 p3]
  congr 1;all_goals omega
def Jk (c:Nat):Nat:=if c%2=1 then(c/2)^^^3988292384 else c/2
def vR:Nat->Nat->Nat
 |0,c=>c
 |n+1,c=>Jk (vR n c)
def aqa (c:Nat)(s:Bytes):Nat:=s.foldl (λc b=>vR 8 (c^^^b.toNat)) c
def adL (s:Bytes):Int:=4294967295-(aqa 4294967295 s:Int)
theorem D7 {b:Nat}(ha:a<4294967296)(hb:b<4294967296):a^^^b<4294967296:=Nat.xor_lt_two_pow (n:=32) ha hb
theorem abe (h:c<4294967296):Jk c<4294967296:=by grind[Jk,D7]
theorem J0 (h:c<4294967296):∀n,vR n c<4294967296
 |0=>h
 |n+1=>abe (J0 h n)
theorem afD (k0:Int->Int->au R)(k:Int->au R)(hk:∀x y,k0 x y=k x)(v0:Bytes)(v4:Int)(c:Nat)(h:c<4294967296):aI (pW k0 v0 v4) fuel ((c:Int),0)=k (vR 8 c:Int):=by
 have xS:=cR
 have key:=H9 (T:=pW k0 v0 v4) 8 (λ(_:Unit) i=>((vR i c:Int),(i:Int))) (λ_ s nx=>nx s) (λ_=>k (vR 8 c:Int))
  (λi s nx hi=>by
   have hc:=J0 h i;simp only[pW];have a1:=ahF (vR i c) 1;have x1:=aa4 (vR i c/2) 3988292384 (by omega) (by omega);simp only[cP]at a1
   rw[jF,af,a1,Nat.and_one_is_mod,
    show rL 1=1 from rfl,show fdiv ((vR i c:Nat):Int) (2^1)=((vR i c/2:Nat):Int) from by rw[Int.fdiv_eq_ediv_of_nonneg _ (by omega)];rfl,
    show(3988292384:Int)=((3988292384:Nat):Int) from rfl,x1,
    fQ (n:=vR i c%2) (by omega),fQ (n:=(vR i c/2)^^^3988292384) (by have:=D7 (a:=vR i c/2) (b:=3988292384) (by omega) (by omega);omega),mI,mI,aj (n:=(i:Int)+1) (by omega) (by omega)]
   show _=nx ((Jk (vR i c):Int),((i+1:Nat):Int));unfold Jk;by_cases hp:vR i c%2=1;rw[hp,aG rfl];rfl;have h0:vR i c%2=0:=by omega
   rw[h0,mI];rfl)
  (λs nx=>by simp only[pW];rw[gr,ae,hk])
  fuel 0 () (by omega) (by omega)
 refine key.trans ?_;rfl
theorem aeF (k0:Int->Int->au R)(k:Int->au R)(hk:∀x y,k0 x y=k x)(v0:Bytes)(v4:Int)(c:Nat)(h:c<4294967296):aI (pO k0 v0 v4) fuel ((c:Int),0)=k (vR 8 c:Int):=by
 have xS:=cR
 have key:=H9 (T:=pO k0 v0 v4) 8 (λ(_:Unit) i=>((vR i c:Int),(i:Int))) (λ_ s nx=>nx s) (λ_=>k (vR 8 c:Int))
  (λi s nx hi=>by
   have hc:=J0 h i;simp only[pO];have a1:=ai5 (vR i c) 1 (by omega) (by omega);have x1:=ahV (vR i c/2) 3988292384 (by omega) (by omega);simp only[cP]at a1
   rw[jF,af,a1,Nat.and_one_is_mod,
    show min (Int.toNat 1) (IntKind.bits .u32)=1 from rfl,show fdiv ((vR i c:Nat):Int) (2^1)=((vR i c/2:Nat):Int) from by rw[Int.fdiv_eq_ediv_of_nonneg _ (by omega)];rfl,
    show(3988292384:Int)=((3988292384:Nat):Int) from rfl,x1,
    Lj (n:=vR i c%2),Lj (n:=(vR i c/2)^^^3988292384) (D7 (by omega) (by omega)),mI,aj (n:=(i:Int)+1) (by omega) (by omega)]
   show _=nx ((Jk (vR i c):Int),((i+1:Nat):Int));unfold Jk;by_cases hp:vR i c%2=1;rw[hp,aG rfl];rfl;have h0:vR i c%2=0:=by omega
   rw[h0,mI];rfl)
  (λs nx=>by simp only[pO];rw[gr,ae,hk])
  fuel 0 () (by omega) (by omega)
 refine key.trans ?_;rfl
theorem ahc (s:Bytes)(h:s.length<=10^9):FR s=some (adL s):=by
 unfold FR;have:=EG (T:=uh (λ(y4:Int) (_:Int)=>some (ak (4294967295-y4))) s) s (λ(c:Nat) i=>((c:Int),(i:Int))) (λ_ c=>c<4294967296) (λb c=> .ok (vR 8 (c^^^b.toNat))) (λc=>some (4294967295-(c:Int))) (by omega) (λi hi c nx hI=>?hs) (λi hi c c' hI hg=>?hn) (λc nx hI=>?hf) 4294967295 (by omega)
 case hs=>
  have hb:=ky s[i]
  simp only[uh]
  rw[jF,aX hi,af,ab,fQ (n:=s[i].toNat) (by omega),aa4 c s[i].toNat (by omega) (by omega)]
  have hx:=D7 hI (show s[i].toNat<4294967296 by omega)
  rw[fQ (by omega),afD _ (λy=>nx (y,(i:Int)+1)) (λx y=>by grind[aj]) _ _ _ hx];rfl
 case hn=>
  grind[J0,D7,ky]
 case hf=>
  grind[uh,aj]
 rw[KO]at this;exact this
theorem not_xor (c:Nat)(h:c<4294967296):toNat (BitVec.ofInt (IntKind.bits .u32) (IntKind.max .u32)^^^BitVec.ofInt (IntKind.bits .u32) (c:Int))=4294967295-c:=by show(BitVec.ofInt 32 4294967295^^^BitVec.ofInt 32 (c:Int)).toNat=_;rw[show BitVec.ofInt 32 4294967295=BitVec.allOnes 32 by decide,BitVec.ofInt_natCast,BitVec.allOnes_xor,BitVec.toNat_not,BitVec.toNat_ofNat,Nat.mod_eq_of_lt (show c<2^32 by omega)]
theorem agI (s:Bytes)(h:s.length<=10^9):Fa s=some (adL s):=by
 unfold Fa;have:=EG (T:=tG (λ(y4:Int) (_:Int)=>some (ak (IntKind.wrap .u32 (toNat (BitVec.ofInt (IntKind.bits .u32) (IntKind.max .u32)^^^BitVec.ofInt (IntKind.bits .u32) y4))))) s) s (λ(c:Nat) i=>((c:Int),(i:Int))) (λ_ c=>c<4294967296) (λb c=> .ok (vR 8 (c^^^b.toNat))) (λc=>some (4294967295-(c:Int))) (by omega) (λi hi c nx hI=>?hs) (λi hi c c' hI hg=>?hn) (λc nx hI=>?hf) 4294967295 (by omega)
 case hs=>
  have hb:=ky s[i]
  simp only[tG]
  rw[jF,aX hi,af,ab,Lj (n:=s[i].toNat),ahV c s[i].toNat (by omega) (by omega)]
  have hx:=D7 hI (show s[i].toNat<4294967296 by omega)
  rw[Lj hx,aeF _ (λy=>nx (y,(i:Int)+1)) (λx y=>by grind[aj]) _ _ _ hx];rfl
 case hn=>
  grind[J0,D7,ky]
 case hf=>
  simp only[tG]
  rw[gr,ae,not_xor c hI,Lj,fQ (by omega)]
  congr 1
  all_goals omega
 rw[KO]at this;exact this
def N5 (s:Bytes)(i:Nat):Nat:=bI s (i/8)/2^(7-i%8)%2
theorem JV (s:Bytes)(i:Nat):N5 s i<2:=Nat.mod_lt _ (by omega)
theorem U1 (b k:Nat)(hb:b<256)(hk:k<=7):ak (toNat (fR (ak (fdiv (b:Int) ((2^k:Nat):Int)))&&&fR 1))=((b/2^k%2:Nat):Int):=by have e:fdiv (b:Int) ((2^k:Nat):Int)=((b/2^k:Nat):Int):=(Int.ofNat_fdiv b (2^k)).symm;have h1:b/2^k<=b:=Nat.div_le_self _ _;rw[e,fQ (n:=b/2^k) (by omega)];have:=ahF (b/2^k) 1;grind[fQ]
theorem aas (s:Bytes)(i:Nat)(hi:i/8<s.length:=by omega)(h:s.length<=10^9:=by omega):zS s (i:Int)=some ((N5 s i:Nat):Int):=by
 have e1:Int.tdiv (i:Int) 8=((i/8:Nat):Int):=(Int.ofNat_tdiv i 8).symm;have e2:tmod (i:Int) 8=((i%8:Nat):Int):=(Int.ofNat_tmod i 8).symm;unfold zS;rw[mI,e1,aj (n:=((i/8:Nat):Int)) (by omega) (by omega),aX hi,ab,mI,e2,aj (n:=7-((i%8:Nat):Int)) (by omega) (by omega),mI];have e3:(2:Int)^(min (Int.toNat (7-((i%8:Nat):Int))) (IntKind.bits .u8))=((2^(7-i%8):Nat):Int):=by grind[Int.toNat,IntKind.bits]
 grind[U1,ky,N5,bI]
theorem aaP (s:Bytes)(i:Nat)(hi:i/8<s.length:=by omega)(h:s.length<=10^9:=by omega):Ak s (i:Int)=some ((N5 s i:Nat):Int):=by
 have e1:Int.tdiv (i:Int) 8=((i/8:Nat):Int):=(Int.ofNat_tdiv i 8).symm;have e2:tmod (i:Int) 8=((i%8:Nat):Int):=(Int.ofNat_tmod i 8).symm;have hb:=ky s[i/8];unfold Ak;rw[mI,e1,aj (n:=((i/8:Nat):Int)) (by omega) (by omega),aX hi,ab,mI,e2,aj (n:=7-((i%8:Nat):Int)) (by omega) (by omega),mI,fQ (n:=s[i/8].toNat) (by omega)];have e3:(2:Int)^(min (Int.toNat (7-((i%8:Nat):Int))) (IntKind.bits .i64))=((2^(7-i%8):Nat):Int):=by grind[Int.toNat,IntKind.bits]
 have e4:fdiv ((s[i/8].toNat:Nat):Int) ((2^(7-i%8):Nat):Int)=((s[i/8].toNat/2^(7-i%8):Nat):Int):=(Int.ofNat_fdiv _ _).symm;have h1:s[i/8].toNat/2^(7-i%8)<=s[i/8].toNat:=Nat.div_le_self _ _;have key:=U1 s[i/8].toNat (7-i%8) hb (by omega);rw[e4,fQ (n:=s[i/8].toNat/2^(7-i%8)) (by omega)]at key;simp_all[N5,bI]
def Z1 (s:Bytes)(a:Nat):Nat->Nat
 |0=>0
 |j+1=>2*Z1 s a j+N5 s (a+j)
theorem af7 (s:Bytes)(a:Nat):∀j,Z1 s a j<2^j
 |0=>by simp[Z1]
 |j+1=>by have:=af7 s a j;grind[JV,Z1]
theorem Ql (s:Bytes)(a j:Nat)(hj:j<=32):Z1 s a j<4294967296:=gR (af7 s a j) (Nat.pow_le_pow_right (n:=2) (by omega) hj)
def Xs (s:Bytes)(a:Int):Int:=bif ((s.length:Int) !=16)|| !dI a 0 96 then-1 else((Z1 s a.toNat 32:Nat):Int)
theorem agR (s:Bytes)(a:Int):wx s a=some (Xs s a):=by
 unfold wx Xs;rw[dh];cases hs:(s.length:Int) !=16;case true=>rfl
 cases ha:dI a 0 96;rfl;have h1:=bO.1 ha;have h2:s.length=16:=by simp at hs;omega
 obtain⟨a,rfl⟩:=aJ h1.1;simp only[ae,ab,ai,bM,ay];refine cC (λi=>(((Z1 s a i:Nat):Int),((a+i:Nat):Int))) 32 (by omega) (λi nx hi=>?_) (λnx=>?_);have hw:=Ql s a i (by omega);have hb:=JV s (a+i);simp only[qn];rw[aj (n:=(a:Int)+32) (by omega) (by omega),jF,af,mI,aas s (a+i),ab,aj (n:=((a+i:Nat):Int)+1) (by omega) (by omega)];have e1:ak (((Z1 s a i:Nat):Int)*2^(rL 1))=((2^1*Z1 s a i:Nat):Int):=by have:(2:Int)^(rL 1)=2:=rfl;rw[this,aj (by omega) (by omega)];omega
 rw[e1,JF _ _ _];rw[show(((a+i:Nat):Int)+1)=((a+(i+1):Nat):Int) by omega];rfl;simp only[qn];rw[aj (n:=(a:Int)+32) (by omega) (by omega),gr];rfl
theorem ahi (s:Bytes)(a:Int):xA s a=some (Xs s a):=by
 unfold xA Xs;rw[cO];cases hs:(s.length:Int) !=16;case true=>rfl
 cases ha:dI a 0 96;rfl;have h1:=bO.1 ha;have h2:s.length=16:=by simp at hs;omega
 obtain⟨a,rfl⟩:=aJ h1.1;simp only[ae,ab,ai,bM,ay];refine cC (λi=>(((Z1 s a i:Nat):Int),(i:Int))) 32 (by omega) (λi nx hi=>?_) (λnx=>?_);have hw:=Ql s a i (by omega);have hb:=JV s (a+i);simp only[qE];rw[jF,af,aj (n:=(a:Int)+(i:Int)) (by omega) (by omega),show(a:Int)+(i:Int)=((a+i:Nat):Int) by omega,aaP s (a+i),ab,aj (n:=(i:Int)+1) (by omega) (by omega)];rw[aj (n:=2*((Z1 s a i:Nat):Int)) (by omega) (by omega),aj (by omega) (by omega),Z1];congr 1;simp only[qE];rw[gr];rfl
def IH (s v:Bytes):Nat->Nat
 |0=>0
 |i+1=>if N5 v i=1 then IH s v i^^^Z1 s i 32 else IH s v i
theorem OL (s v:Bytes):∀i,IH s v i<4294967296
 |0=>by simp[IH]
 |i+1=>by have:=OL s v i;grind[IH,D7,Ql]
def Df (s v:Bytes):Int:=bif ((s.length:Int) !=16)||decide ((v.length:Int)>12) then-1 else((IH s v (8*v.length):Nat):Int)
theorem aeH (s v:Bytes):wk s v=some (Df s v):=by
 unfold wk Df;cases hs:(s.length:Int) !=16;case true=>rfl
 cases hv:decide ((v.length:Int)>12);case true=>rfl
 have h2:s.length=16:=by simp at hs;omega
 have h3:v.length<=12:=by simp at hv;omega
 simp only[ae,ab,bM];refine cC (λi=>(((IH s v i:Nat):Int),(i:Int))) (8*v.length) (by omega) (λi nx hi=>?_) (λnx=>?_);have hw:=Ql s i 32 (by omega);have hh:=OL s v i;have hb:=JV v i;have eW:Xs s (i:Int)=((Z1 s i 32:Nat):Int):=by unfold Xs;rw[hs,bO.2 (show(0:Int)<=(i:Int)/\(i:Int)<=96 by omega)];rfl
 simp only[qi];rw[aj (n:=8*(v.length:Int)) (by omega) (by omega),jF,af,aas v i,ab,agR,ab,eW,aa4 _ _ (by omega) (by omega),aj (n:=(i:Int)+1) (by omega) (by omega),fQ (Nat.lt_trans (D7 hh hw) (by omega)),IH];by_cases h1:N5 v i=1;rw[h1,aG rfl];rfl;rw[aF h1,show(((N5 v i:Nat):Int)==1)=false from by simp;omega];rfl;simp only[qi];rw[aj (n:=8*(v.length:Int)) (by omega) (by omega),gr];rfl
theorem afF (s v:Bytes):xv s v=some (Df s v):=by
 unfold xv Df;cases hs:(s.length:Int) !=16;case true=>rfl
 cases hv:decide ((v.length:Int)>12);case true=>rfl
 have h2:s.length=16:=by simp at hs;omega
 have h3:v.length<=12:=by simp at hv;omega
 simp only[ae,ab,bM];refine cC (λi=>(((IH s v i:Nat):Int),(i:Int))) (8*v.length) (by omega) (λi nx hi=>?_) (λnx=>?_);have hw:=Ql s i 32 (by omega);have hh:=OL s v i;have hb:=JV v i;have eW:Xs s (i:Int)=((Z1 s i 32:Nat):Int):=by unfold Xs;rw[hs,bO.2 (show(0:Int)<=(i:Int)/\(i:Int)<=96 by omega)];rfl
 simp only[qA];rw[aj (n:=8*(v.length:Int)) (by omega) (by omega),jF,af,aaP v i,ab,ahi,ab,eW,aa4 _ _ (by omega) (by omega),aj (n:=(i:Int)+1) (by omega) (by omega),fQ (Nat.lt_trans (D7 hh hw) (by omega)),IH];by_cases h1:N5 v i=1;rw[h1,aG rfl];rfl;rw[aF h1,show(((N5 v i:Nat):Int)==1)=false from by simp;omega];rfl;simp only[qA];rw[aj (n:=8*(v.length:Int)) (by omega) (by omega),gr];rfl
def Ay (f:F6):Bytes:=((jd f.2.1++jd f.2.2.1)++bW f.2.2.2.1)++bW f.2.2.2.2
theorem YH (f:F6):wo f=some (Ay f):=by have:=dH f.2.1;have:=dH f.2.2.1;have:=bu f.2.2.2.1;have:=bu f.2.2.2.2;simp only[wo,Cf,la,ab];rw[aQ (by omega),aQ (by grind),aQ (by grind)];rfl
theorem ZG (f:F6):xw f=some (Ay f):=by have:=dH f.2.1;have:=dH f.2.2.1;have:=bu f.2.2.2.1;have:=bu f.2.2.2.2;simp only[xw,mS,ia,ab];rw[aQ (by omega),aQ (by grind),aQ (by grind)];rfl
theorem Kl (s:Bytes)(f:F6):tI s f=some (Df s (Ay f)):=by grind[tI,YH,aeH,ab]
theorem KY (s:Bytes)(f:F6):uk s f=some (Df s (Ay f)):=by grind[uk,ZG,afF,ab]
def DR (s:gN)(f:F6):Int:=bif ((s.2.length:Int)==0)||decide (Df s.1 (Ay f)<0) then-1 else tmod (Df s.1 (Ay f)) (s.2.length:Int)
theorem abL (s:gN)(f:F6):Bg s f=some (DR s f):=by grind[Bg,DR,Kl,ab]
theorem acX (s:gN)(f:F6):Bu s f=some (DR s f):=by grind[Bu,DR,KY,ab]
theorem Lu (s:gN)(f:F6)(h:¬DR s f<0):∃n:Nat,DR s f=(n:Int)/\n<s.2.length:=by
 unfold DR at h⊢;cases hc:((s.2.length:Int)==0)||decide (Df s.1 (Ay f)<0)with
 |true=>grind
 |false=>
  rw[hc]at h;simp only[dC,cG,dm]at hc;simp only[ae]at h⊢;have h1:0<=Df s.1 (Ay f):=by omega
  rw[eP h1]at h⊢;have:=gb (Df s.1 (Ay f)) (show(0:Int)<s.2.length by omega);grind[aJ]
def Is (s:gN)(q:Int)(f:F6):Int:=bif !BG s q||decide (DR s f<0) then-1 else s.2.getD (DR s f).toNat 0
theorem V3 (s:gN)(q:Int)(f:F6)(h:s.2.length<=10^9):sc s q f=some (Is s q f):=by unfold sc Is;grind[abL,ab,O2,Lu,of_decide_eq_false,aX]
theorem W3 (s:gN)(q:Int)(f:F6)(h:s.2.length<=10^9):sQ s q f=some (Is s q f):=by unfold sQ Is;grind[acX,ab,JI,Lu,of_decide_eq_false,aX]
theorem SO (t:aq Slot)(f:F6)(h:∀j,j<8->pH (gh t j) f=false):∀n k,walk t f n k= -1
 |0,_=>rfl
 |n+1,k=>by unfold walk;rw[h _ (Li f k),SO t f h n (k+1)];split<;>rfl
theorem Mq (f:F6):∀(t:aq Slot)(m:Int),(∀s∈t,pH s f=false)->Aw f t m= -1
 |[],_,_=>rfl
 |s::r,m,h=>by unfold Aw;rw[h s (by simp)];exact Mq f r (m+1) (λx hx=>h x (by simp[hx]))
theorem Yj (t:aq Slot)(f:F6)(h:xP t=true):Aw f t 0=walk t f 8 0:=by simp only[xP,ah,bD,aW,dy]at h;obtain⟨h8,hs⟩:=h;by_cases hex:∃j,j<t.length/\pH (gh t j) f=true;obtain⟨j,hj,hu,e⟩:=G2 f t 0 hex;have:=hs j (by omega);simp only[nT,ah,df,aP,bD]at this;simp only[pH,ah,bD,bE]at hu;rcases this.2 with g|g;rw[hu.1]at g;simp at g;rw[hu.2]at g;rw[show((0:Int))=((0:Nat):Int) from rfl,e,g];omega;have hn:∀j,j<t.length->pH (gh t j) f=false:=λj hj=>Bool.eq_false_iff.2 λhu=>hex ⟨j,hj,hu⟩;rw[SO t f (λj hj=>hn j (by omega)),Mq];intro s ux;obtain⟨j,hj,rfl⟩:=List.getElem_of_mem ux;have:=hn j hj;rwa[yt hj]at this
def findF (t:aq Slot)(f:F6):Int:=bif xP t then walk t f 8 0 else-1
theorem TD (t:aq Slot)(f:F6)(h:t.length<=10^9):yI t f=some (findF t f):=by grind[yI,findF,RU,ab,V2,Yj]
theorem Ul (t:aq Slot)(f:F6):zu t f=some (findF t f):=by grind[zu,findF,SA,ab,xP,WV]
theorem aa2 (t:aq Slot)(f:F6):∀n k,walk t f n k= -1\/∃m:Nat,walk t f n k=(m:Int)/\m<8
 |0,_=> .inl rfl
 |n+1,k=>by unfold walk;split;exact .inl rfl;split;exact .inr ⟨_,rfl,Li f k⟩;exact aa2 t f n (k+1)
theorem Ov (t:aq Slot)(f:F6)(h:findF t f>=0):∃m:Nat,findF t f=(m:Int)/\m<t.length:=by
 unfold findF at h⊢;cases ht:xP t with
 |false=>grind
 |true=>
  rw[ht]at h;simp only[af]at h⊢;have h8:t.length=8:=by grind[xP]
  rcases aa2 t f 8 0 with g|⟨m,g,hm⟩;all_goals grind
def gQ (m:bt):Bool:=m.all (λx=>(x.length:Int)==128)&&decide ((m.length:Int)<=64)
theorem FL (m:bt)(h:m.length<=10^9):pX m=some (gQ m):=by
 unfold pX gQ;rw[rN (fin:=some (decide ((m.length:Int)<=64))) (λx:Bytes=>(x.length:Int)==128) m (by omega) (λi hi nx=>?hs) (λnx=>?hf)]
 case hs=>
  simp only[sM]
  rw[jF,aX hi,aj (by omega) (by omega)];rfl
 all_goals grind[sM]
theorem Jz (m:bt)(h:m.length<=10^9):tJ m=some (gQ m):=FL m h
def TP:aA:=(0,0,0,false)
def LP (m:aA):Bool:=dI m.1 0 7&&(dI m.2.1 0 1023&&dI m.2.2.1 0 63)
def vI (d p:Int)(m:aA):Bool:=(m.1==d)&&(m.2.1==p)
def TN (l:aq aA)(i:Nat):Bool:=LP (l.getD i TP)&&(range i).all (λj=> !(vI (l.getD i TP).1 (l.getD i TP).2.1 (l.getD j TP)))
def fG (l:aq aA):Bool:=decide ((l.length:Int)<=96)&&(range l.length).all (TN l)
theorem KZ (l:aq aA)(h:l.length<=10^9):pC l=some (fG l):=by
 unfold pC fG;rw[pL (hit:=some false) (fin:=some true) (TN l) l.length (by omega) (λi nx hi=>?hs) (λnx=>?hf)]
 case hs=>
  simp only[oU]
  rw[jF,aX hi,aj (by omega) (by omega)]
  simp only[af,ab,cO,cw]
  rw[pL (hit:=some false) (fin:=nx ((i)+1)) (λj=> !(vI l[i].1 l[i].2.1 (l.getD j TP))) i (by omega) (λj nx hj=>?hs2) (λnx=>?H5)]
  case hs2=>
   grind[nr,aX,aj,ab,vI]
  all_goals grind[nr,TN,LP]
 all_goals grind[oU]
def Wp (l:aq aA)(d p:Int):Int:=match l.findIdx? (vI d p)with|some i=>(i:Int)|none=> -1
theorem VV (l:aq aA)(d p:Int)(h:l.length<=10^9):nJ l d p=some (Wp l d p):=by unfold nJ Wp;rw[HX (hit:=λi=>some i) (fin:=some (-1)) (vI d p) l (by omega) (λi hi nx=>?hs) (λnx=>?hf)];all_goals grind[tk,aX,aj,ab,vI]
theorem Zl (l:aq aA)(i:Nat)(hi:i<l.length):(Wp l l[i].1 l[i].2.1==(i:Int))=(range i).all (λj=> !(vI l[i].1 l[i].2.1 (l.getD j TP))):=by
 have Di:vI l[i].1 l[i].2.1 l[i]=true:=by simp[vI]
 unfold Wp;cases hq:l.findIdx? (vI l[i].1 l[i].2.1)with
 |none=>rw[List.findIdx?_eq_none_iff]at hq;rw[hq l[i] (bc hi)]at Di;cases Di
 |some k=>
  rw[List.findIdx?_eq_some_iff_getElem]at hq;obtain⟨hk,hpk,gV⟩:=hq;rw[fj,aW];simp only[dy,bD,aP];constructor;intro e j hj;have hjl:j<l.length:=by omega
  rw[fM hjl];have:=gV j (by omega);simpa using this;intro GF;rcases Nat.lt_trichotomy k i with hki|hki|hki;have:=GF k hki;rw[fM hk,hpk]at this;cases this;omega;have:=gV i hki;rw[Di]at this;simp at this
theorem Km (l:aq aA)(h:l.length<=10^9):pn l=some (fG l):=by
 unfold pn fG;rw[pL (hit:=some false) (fin:=some (decide ((l.length:Int)<=96))) (TN l) l.length (by omega) (λi nx hi=>?hs) (λnx=>?hf)]
 case hs=>
  simp only[oF]
  rw[jF,aX hi,aj (by omega) (by omega)]
  grind[ab,dh,VV,Zl,TN,LP,dI]
 all_goals grind[oF]
def Ms (n:Int)(l:ew)(i:Nat):Bool:=dI (l.getD i 0) 0 (n-1)&& !((l.take i).contains (l.getD i 0))
def gq (p:cj):Bool:=dI p.1 0 130944&&(dI p.2.1 1 512&&(dI p.2.2.1 0 16&&(range p.2.2.2.length).all (Ms p.2.2.1 p.2.2.2)))
def Gz (n:Int)(l:ew):aq Bool:=(range n.toNat).map λk:Nat=>l.contains (k:Int)
theorem So (n:Int)(l:ew):(Gz n l).length=n.toNat:=by simp[Gz]
theorem Ih (n:Int)(l:ew)(k:Nat)(h:k<(Gz n l).length):(Gz n l)[k]=l.contains (k:Int):=by simp[Gz]
theorem acR (n:Int)(l:ew)(k:Nat)(h:k<n.toNat):(Gz n l).set k true=Gz n (l++[(k:Int)]):=by
 apply List.ext_getElem;simp[Gz];intro j h1 h2;rw[List.getElem_set];split;rename_i e;subst e;rw[Ih];simp;rename_i e;rw[Ih,Ih];simp only[List.contains_append];have:([(k:Int)].contains (j))=false:=by simp;omega
 rw[this];simp
theorem Ws {T:(aq Bool×Int->au Bool)->aq Bool×Int->au Bool}(n:Int)(l:ew)(hl:l.length<=10^9)
 (hs:∀i (hi:i<l.length)(s:aq Bool) nx,T nx (s,(i:Int))=aa (cond (!(dI l[i] 0 (n-1))) (some true) (aa (idx s l[i]) λx=>some x)) λq=>
  cond q (some false) (aa (idx s l[i]) λ_=>aa (idx s l[i]) λ_=>nx (s.set l[i].toNat true,((i+1:Nat):Int)))) (hf:∀s nx,T nx (s,(l.length:Int))=some true):
 aI T fuel (List.replicate n.toNat false,0)=some ((range l.length).all (Ms n l)):=by
 have e0:(List.replicate n.toNat false,(0))=(Gz n (l.take 0),((0:Nat):Int)):=by congr 1;simp only[Gz,List.take_zero,List.contains_nil,List.map_const',List.length_range]
 rw[e0,Lp (λi=>(Gz n (l.take i),(i:Int))) (Ms n l) l.length (by omega) (λi nx hi hp=>?hs) (λ_ nx=>hf _ nx)]
 case hs=>
  rw[hs i hi]
  unfold Ms
  rw[fM hi]
  by_cases uw:dI l[i] 0 (n-1)=true
  ·have hb:=uw
   rw[bO]at hb
   obtain⟨k,hk⟩:∃k:Nat,l[i]=(k):=⟨l[i].toNat,by omega⟩
   have hkn:k<(Gz n (l.take i)).length:=by rw[So];omega
   rw[uw,hk,aX hkn,Ih]
   simp only[ai,ae,ab,bF,Bool.not_not,ay]
   rw[acR _ _ _ (by rw[So]at hkn;exact hkn),<-hk,<-bg hi]
  ·have aep:dI l[i] 0 (n-1)=false:=by simpa using uw
   rw[aep];rfl
 cases (range l.length).all (Ms n l)<;>rfl
theorem ug (p:cj)(h:p.2.2.2.length<=10^9):iP p=some (gq p):=by
 unfold iP gq;simp only[cO,ab,cw];by_cases hn:dI p.2.2.1 0 16=true
 ·have hb:=hn;rw[bO]at hb;rw[zip,aQ (by omega),Ws p.2.2.1 p.2.2.2 h (λi hi s nx=>?hs) (λs nx=>?hf)]
  case hs=>
   simp only[xC]
   rw[jF,aX hi,aj (by omega) (by omega),aj (by omega) (by omega)]
   simp only[af,ab,cO];rfl
  case hf=>
   simp only[xC]
   rw[gr];rfl
  rw[hn];cases dI p.1 0 130944<;>cases dI p.2.1 1 512<;>rfl
 have Cb:dI p.2.2.1 0 16=false:=by simpa using hn
 rw[Cb];cases dI p.1 0 130944<;>cases dI p.2.1 1 512<;>rfl
theorem wh (p:cj)(h:p.2.2.2.length<=10^9):iJ p=some (gq p):=by
 unfold iJ gq;simp only[dh,ab,cw];by_cases hn:dI p.2.2.1 0 16=true
 ·have hb:=hn;rw[bO]at hb;rw[zip,aQ (by omega),Ws p.2.2.1 p.2.2.2 h (λi hi s nx=>?hs) (λs nx=>?hf)]
  case hs=>
   simp only[wA]
   rw[jF,aX hi,aj (by omega) (by omega),aj (by omega) (by omega)]
   simp only[af,ab,dh];rfl
  case hf=>
   simp only[wA]
   rw[gr];rfl
  rw[hn];cases dI p.1 0 130944<;>cases dI p.2.1 1 512<;>rfl
 have Cb:dI p.2.2.1 0 16=false:=by simpa using hn
 rw[Cb];cases dI p.1 0 130944<;>cases dI p.2.1 1 512<;>rfl
def kU (n:Int):Bool:=(n==2)||((n==4)||((n==8)||(n==16)))
theorem Fh (n:Int):sY n=some (kU n):=by grind[sY,ab,kU]
theorem Hz (n:Int):tO n=some (kU n):=Fh n
theorem mQ {n:Int}:kU n=true↔n=2\/n=4\/n=8\/n=16:=by simp[kU]
theorem EK (x:Int)(k:Nat)(hk:k<=64:=by omega):ak x%(2^k:Int)=x%(2^k:Int):=by
 obtain⟨c,hc⟩:∃c:Int,(18446744073709551616)=2^k*c:=⟨2^(64-k),by rw[<-Int.pow_add,show k+(64-k)=64 by omega];rfl⟩
 have:ak x=x\/∃q:Int,ak x=x+18446744073709551616*q:=by right;simp only[ak,gx,IntKind.wrap,IntKind.bits,IntKind.signed];simp;split;exact⟨-(x/18446744073709551616)-1,by omega⟩;exact⟨-(x/18446744073709551616),by omega⟩
 rcases this with h|⟨q,h⟩;all_goals simp_all[Int.mul_assoc]
theorem Ed (x:Int)(k:Nat)(hk:k<63:=by omega):((fR x&&&fR (2^k-1)).toNat:Int)=x%2^k:=by
 have h2:(2)^k<=2^62:=by have:(2)^k<=2^62:=Nat.pow_le_pow_right (by omega) (by omega);exact_mod_cast this
 have hm:(fR (2^k-1)).toNat=2^k-1:=by show(BitVec.ofInt 64 (2^k-1)).toNat=2^k-1;grind
 rw[BitVec.toNat_and,hm,Nat.and_two_pow_sub_one_eq_mod];have hx:0<=x%18446744073709551616:=by omega
 have e:(((x%18446744073709551616).toNat%2^k))=(x%18446744073709551616)%2^k:=by push_cast;rw[Int.toNat_of_nonneg hx]
 refine e.trans ?_;exact Int.emod_emod_of_dvd x ⟨2^(64-k),by rw[<-Int.pow_add,show k+(64-k)=64 by omega];rfl⟩
theorem LV (x n:Int)(h0:0<n:=by omega)(h1:n<=4611686018427387904:=by omega):iK x n=some (x%n):=by unfold iK;have:=Int.emod_nonneg x (show n≠0 by omega);grind[gb,aj]
def da (r:kW):Int:=if kU r.2.1 then(r.2.2.2-r.2.2.1)%(2*r.2.1) else 0
theorem CU (r:kW):jn r=some (da r):=by
 unfold jn da;rw[Fh,ab];cases hs:kU r.2.1 with
 |false=>rfl
 |true=>
  congr 1;rcases mQ.1 hs with h|h|h|h<;>rw[h];have e:ak (ak (2*2)-1)=2^2-1:=by decide
  rw[e,Ed _ 2,EK _ 2,aj (by omega) (by omega)];rfl;have e:ak (ak (2*4)-1)=2^3-1:=by decide
  rw[e,Ed _ 3,EK _ 3,aj (by omega) (by omega)];rfl;have e:ak (ak (2*8)-1)=2^4-1:=by decide
  rw[e,Ed _ 4,EK _ 4,aj (by omega) (by omega)];rfl;have e:ak (ak (2*16)-1)=2^5-1:=by decide
  rw[e,Ed _ 5,EK _ 5,aj (by omega) (by omega)];rfl
theorem Cd (r:kW):jk r=some (da r):=by unfold jk da;rw[Hz,ab];cases hs:kU r.2.1 with|false=>rfl|true=>have hb:=mQ.1 hs;rw[aj (by omega) (by omega)];simp only[LV _ (2*r.2.1) (show 0<2*r.2.1 by omega),ab];grind[aj]
def fI (r:kW):Bool:=dI r.1 0 130944&&(kU r.2.1&&(dI r.2.2.1 0 (2*r.2.1-1)&&(dI r.2.2.2 0 (2*r.2.1-1)&&decide (da r<=r.2.1))))
theorem Ii {n:Int}(h:kU n=true):ak (ak (2*n)-1)=2*n-1:=by grind[mQ,aj]
theorem Ai (r:kW):jD r=some (fI r):=by unfold jD fI;simp only[cO,Fh,CU,ab,cw,cF];grind[kU,Ii]
theorem zP (r:kW):jz r=some (fI r):=by unfold jz fI;simp only[dh,Hz,Cd,ab,cw,cF];grind[kU,Ii]
theorem yi (p:cj)(h:p.2.2.2.length<=10^9):jq p=some p:=by grind[jq,aQ]
theorem ot (l:ew)(h:l.length<=10^9):fV l=some l:=by grind[fV,aQ]
theorem vw (p:cj)(h:p.2.2.2.length<=10^9):ix p=some p:=by simp_all[ix,ot]
def T5 (p:cj)(l:ew):cj:=(p.1,p.2.1,p.2.2.1,p.2.2.2++l)
def OG (p:cj)(l:ew):Bool:=gq p&&gq (T5 p l)
def OF (p:cj)(l:ew):cj×Bool:=bif OG p l then(T5 p l,true) else(p,false)
theorem PU (p:cj)(l:ew)(h:p.2.2.2.length+l.length<=10^9):gF p l=some (OF p l):=by unfold gF;rw[yi p (by omega),ab,aQ (by omega),ug p (by omega)];rw[ug (p.1,p.2.1,p.2.2.1,p.2.2.2++l) (by simp;omega)];show _=some (bif gq p&&gq (p.1,p.2.1,p.2.2.1,p.2.2.2++l) then _ else _);cases gq p<;>cases gq (p.1,p.2.1,p.2.2.1,p.2.2.2++l)<;>rfl
theorem OZ (p:cj)(l:ew)(h:p.2.2.2.length+l.length<=10^9):fU p l=some (OF p l):=by unfold fU;rw[vw p (by omega),ab,aQ (by omega),wh p (by omega)];rw[wh (p.1,p.2.1,p.2.2.1,p.2.2.2++l) (by simp;omega)];show _=some (bif gq p&&gq (p.1,p.2.1,p.2.2.1,p.2.2.2++l) then _ else _);cases gq p<;>cases gq (p.1,p.2.1,p.2.2.1,p.2.2.2++l)<;>rfl
theorem ad9 (p:cj)(l:ew):(OF p l).2=OG p l:=by grind[OF]
def jP (n:Int)(s:gH):Bool:=dI s.2.1 1 n&&dI s.1 0 65535
def ch (l:aq gH):ew:=l.flatMap (·.2.2)
def ef (l:aq gH):Int:=(l.map (·.2.1)).sum
def Qi (t:bA):Bool:=fI t.1&&(gq t.2.1&&(dI t.2.2.2 0 65535&&(t.2.2.1.all (jP t.1.2.1)&&(OG t.2.1 (ch t.2.2.1)&&decide (ef t.2.2.1<=t.1.2.1)))))
theorem JZ (n:Int):∀l:aq gH,l.all (jP n)=true->0<=ef l
 |[],_=>by simp[ef]
 |x::l,h=>by simp only[bQ,ah]at h;have:=JZ n l h.2;grind[jP,bO,ef]
theorem Sy (p:cj)(n:Int)(hn:0<=n/\n<=16)(fin:Int×ew->au Bool)(lG:∀s:Int×ew,p.2.2.2.length+s.2.length<=10^9->fin s=some (OG p s.2&&decide (s.1<=n))):
 ∀(l:aq gH)(sum:Int)(acc:ew),0<=sum->sum+16*l.length<=100000000000->p.2.2.2.length+(acc.length+(ch l).length)<=10^9->
 zO (λx (s:Int×ew) k=>cond (!(jP n x)) (some false) (room (s.2.length+x.2.2.length) (k (ak (s.1+x.2.1),s.2++x.2.2)))) fin l (sum,acc)
  =some (l.all (jP n)&&(OG p (acc++ch l)&&decide (sum+ef l<=n)))
 |[],sum,acc,h0,h1,h2=>by simp_all[zO,ch,ef]
 |x::l,sum,acc,h0,h1,h2=>by
  have hb:ch (x::l)=x.2.2++ch l:=by simp[ch]
  rw[hb,aw]at h2;rw[zO,bQ];cases hx:jP n x with
  |false=>rfl
  |true=>
   have AR:=hx;unfold jP at AR;simp only[ah,bO]at AR;simp only[bC,bz,cP]at h1;simp only[ai,ae,bF];rw[aQ (by omega),aj (by omega) (by omega),Sy p n hn fin lG l _ _ (by omega) (by omega) (by rw[aw];omega)];rw[hb,aN];have e:sum+x.2.1+ef l=sum+ef (x::l):=by grind[ef]
   rw[e]
theorem RR (p:cj)(n:Int)(hn:n<=16)(fin:Int×ew->au Bool)(lG:∀s:Int×ew,p.2.2.2.length+s.2.length<=10^9->fin s=some (OG p s.2)):
 ∀(l:aq gH)(left:Int)(acc:ew),0<=left->left<=n->p.2.2.2.length+(acc.length+(ch l).length)<=10^9->
 zO (λx (s:Int×ew) k=>cond (decide (x.2.1<1)||(decide (x.2.1>s.1)|| !(dI x.1 0 65535))) (some false) (room (s.2.length+x.2.2.length) (k (ak (s.1-x.2.1),s.2++x.2.2)))) fin l (left,acc)
  =some (l.all (jP n)&&(OG p (acc++ch l)&&decide (ef l<=left)))
 |[],left,acc,h0,h1,h2=>by rw[zO,lG _ (by exact h2)];simp[ch,ef,h0]
 |x::l,left,acc,h0,h1,h2=>by
  have hb:ch (x::l)=x.2.2++ch l:=by simp[ch]
  have hc:ef (x::l)=x.2.1+ef l:=by simp only[ef,ed,List.sum_cons]
  rw[hb,aw]at h2;rw[zO,bQ,hb,hc];by_cases c1:x.2.1<1;have e:jP n x=false:=by unfold jP dI;rw[ar (show¬1<=x.2.1 by omega)];rfl
  rw[e,ax c1];rfl;rw[ar c1];by_cases c2:x.2.1>left;rw[ax c2];cases ha:l.all (jP n)with|false=>simp|true=>have:=JZ n l ha;rw[ar (show¬x.2.1+ef l<=left by omega)];simp
  rw[ar c2];have e:jP n x=dI x.1 0 65535:=by have:dI x.2.1 1 n=true:=bO.2 ⟨by omega,by omega⟩;unfold jP;rw[this];rfl
  rw[e];cases dI x.1 0 65535 with
  |false=>rfl
  |true=>
   simp only[cL,ai,ae,bF];rw[aQ (by omega),aj (by omega) (by omega),RR p n hn fin lG l _ _ (by omega) (by omega) (by rw[aw];omega),aN];have e:decide (ef l<=left-x.2.1)=decide (x.2.1+ef l<=left):=by simp;omega
   rw[e]
theorem ZL (t:bA)(h1:t.2.2.1.length<=10^9)(h2:t.2.1.2.2.2.length+(ch t.2.2.1).length<=10^9):BT t=some (Qi t):=by
 unfold BT Qi;simp only[Ai,ug _ (show t.2.1.2.2.2.length<=10^9 by omega),cO,ab,cw];cases hr:fI t.1 with
 |false=>rfl
 |true=>
  have hn:0<=t.1.2.1/\t.1.2.1<=16:=by grind[fI,mQ]
  have xS:=cR;have key:=BP (T:=xI (λ(y9) (vQ) (_)=>aa (gF t.2.1 vQ) λom=>some (bif om.2 then decide (y9<=t.1.2.1) else false)) (λ(EN) (_) (_) (_)=>some EN) false t) t.2.2.1 (λ(s) i=>(s.1,s.2,(i))) (λx (s) k=>cond (!(jP t.1.2.1 x)) (some false) (room (s.2.length+x.2.2.length) (k (ak (s.1+x.2.1),s.2++x.2.2)))) (λs=>aa (gF t.2.1 s.2) λom=>some (om.2&&decide (s.1<=t.1.2.1))) (λi hi s nx=>by simp(disch:=omega)[xI,ax,aX,aj,cO,jP]) (λs nx=>by grind[xI]) fuel 0 (0,([])) (by omega) (by omega);rw[fa,Sy t.2.1 t.1.2.1 hn _ (λs hs=>by grind[PU,ab,ad9]) _ _ _ (by omega) (by omega) (by simpa using h2)]at key;grind
theorem YN (t:bA)(h1:t.2.2.1.length<=10^9)(h2:t.2.1.2.2.2.length+(ch t.2.2.1).length<=10^9):BO t=some (Qi t):=by
 unfold BO Qi;simp only[zP,wh _ (show t.2.1.2.2.2.length<=10^9 by omega),dh,ab,cw];cases hr:fI t.1 with
 |false=>rfl
 |true=>
  have hn:0<=t.1.2.1/\t.1.2.1<=16:=by grind[fI,mQ]
  have xS:=cR;have key:=BP (T:=wF (λ(_) (y9) (_)=>aa (fU t.2.1 y9) λtz=>some tz.2) (λ(Jb) (_) (_) (_)=>some Jb) false t.2.2.1 ((List.length t.2.2.1)) t) t.2.2.1 (λ(s) i=>(s.1,s.2,(i))) (λx (s) k=>cond (decide (x.2.1<1)||(decide (x.2.1>s.1)|| !(dI x.1 0 65535))) (some false) (room (s.2.length+x.2.2.length) (k (ak (s.1-x.2.1),s.2++x.2.2)))) (λs=>aa (fU t.2.1 s.2) λom=>some om.2) (λi hi s nx=>by simp(disch:=omega)[wF,ax,aX,aj,dh,cw]) (λs nx=>by grind[wF]) fuel 0 (t.1.2.1,([])) (by omega) (by omega);rw[fa,RR t.2.1 t.1.2.1 (by omega) _ (λs hs=>by grind[OZ,ab,ad9]) _ _ _ (by omega) (by omega) (by simpa using h2)]at key;grind
def KP (s:dE):Bool:=dI s.2.1 0 65535&&(dI s.2.2.1 0 65535&&(!decide ((List.length s.2.2.2.2.2.2.2:Int)>320)&&
 (bif s.1==17 then(s.2.2.2.1==0)&&((s.2.2.2.2.1==0)&&((s.2.2.2.2.2.1==0)&&(s.2.2.2.2.2.2.1==0)))
  else(s.1==6)&&(dI s.2.2.2.1 0 4294967295&&(dI s.2.2.2.2.1 0 4294967295&&(dI s.2.2.2.2.2.1 0 31&&dI s.2.2.2.2.2.2.1 0 65535))))))
theorem aaS (s:dE):rE s=some (KP s):=by simp_all[rE,cO,cw,Bool.and_assoc,KP]
theorem aaw (s:dE):qX s=some (KP s):=by simp only[qX,dh,ab,cw,cF,cT,cN,Bool.not_or,Bool.not_not,Bool.and_assoc,KP];by_cases h:s.1=17;rw[h];rfl;rw[show(s.1==17)=false from by simpa using h];cases s.1==6<;>rfl
def G3 (f:Int):Bool:=(f==16)||(f==17)||(f==24)||(f==25)
theorem Oy (f:Int)(h:dI f 0 31=true):(ak (toNat (fR f&&&~~~ fR 9))==16)=G3 f:=by
 have key:∀k:Fin 32,(ak (toNat (fR (k.val:Int)&&&~~~ fR 9))==16)=G3 (k.val:Int):=by decide
 rw[bO]at h;have:=key ⟨f.toNat,by omega⟩;grind
theorem Ox (f:Int)(h:dI f 0 31=true):rb f=some (G3 f):=by
 have key:∀k:Fin 32,((ak (toNat (fR (k.val:Int)&&&fR 16)) !=0)&&(ak (toNat (fR (k.val:Int)&&&~~~ fR 25))==0))=G3 (k.val:Int):=by decide
 rw[bO]at h;have:=key ⟨f.toNat,by omega⟩;rw[show((f.toNat:Nat):Int)=f by omega]at this;grind[rb,ab]
theorem Mc {s:dE}(h:KP s=true)(h6:(s.1==6)=true):dI s.2.2.2.2.2.1 0 31=true:=by grind[KP]
def Mx (p:aU):Bool:=dI p.1 0 281474976710655&&(dI p.2.1 0 281474976710655&&(dI p.2.2.1 (-1) 4095&&(dI p.2.2.2.1 0 255&&(dI p.2.2.2.2.2.1 0 255&&(dI p.2.2.2.2.1 0 65535&&(dI p.2.2.2.2.2.2.1 0 4294967295&&(dI p.2.2.2.2.2.2.2.1 0 4294967295&&KP p.2.2.2.2.2.2.2.2)))))))
def eu (p:aU):Bool:=Mx p&&(decide ((List.length p.2.2.2.2.2.2.2.2.2.2.2.2.2.2.2:Int)<=128)||(p.2.2.2.2.2.2.2.2.1==6)&&G3 p.2.2.2.2.2.2.2.2.2.2.2.2.2.1)
theorem ON (h:Mx p=true):KP p.2.2.2.2.2.2.2.2=true:=by grind[Mx]
theorem sI (p:aU):hH p=some (eu p):=by unfold hH eu;simp only[cO,aaS,ab,cw,cF,cT,cN,Bool.not_or,Bool.not_not];rw[show(dI p.1 0 281474976710655&&(dI p.2.1 0 281474976710655&&(dI p.2.2.1 (-1) 4095&&(dI p.2.2.2.1 0 255&&(dI p.2.2.2.2.2.1 0 255&&(dI p.2.2.2.2.1 0 65535&&(dI p.2.2.2.2.2.2.1 0 4294967295&&(dI p.2.2.2.2.2.2.2.1 0 4294967295&&KP p.2.2.2.2.2.2.2.2))))))))=Mx p from rfl];grind[Oy,Mc,ON,Bool.or_comm]
theorem pN (p:aU):gD p=some (eu p):=by unfold gD eu;simp only[dh,aaw,ab];grind[Mx,Ox,Mc,ab]
def hZ (q:Nw):Bool:=dI q.1 0 130944&&(kU q.2.1&&dI q.2.2 0 (ak ((ak (2*q.2.1))-1)))
theorem Mg (q:Nw):oX q=some (hZ q):=by grind[oX,cO,Fh,ab,hZ]
theorem LF (q:Nw):oI q=some (hZ q):=by grind[oI,dh,Hz,ab,hZ]
def aiQ:kc:=((0,0,0,0,0,0,0,0,0,0,0,0,0,0,0,([]:Bytes)),0,0)
def afR (p:kc):Bool:=(p.1.1==0)&&((p.1.2.1==0)&&((p.1.2.2.1==0)&&((p.1.2.2.2.1==0)&&((p.1.2.2.2.2.1==0)&&((p.1.2.2.2.2.2.1==0)&&((p.1.2.2.2.2.2.2.1==0)&&((p.1.2.2.2.2.2.2.2.1==0)&&((p.1.2.2.2.2.2.2.2.2.1==0)&&((p.1.2.2.2.2.2.2.2.2.2.1==0)&&((p.1.2.2.2.2.2.2.2.2.2.2.1==0)&&((p.1.2.2.2.2.2.2.2.2.2.2.2.1==0)&&((p.1.2.2.2.2.2.2.2.2.2.2.2.2.1==0)&&((p.1.2.2.2.2.2.2.2.2.2.2.2.2.2.1==0)&&((p.1.2.2.2.2.2.2.2.2.2.2.2.2.2.2.1==0)&&((p.1.2.2.2.2.2.2.2.2.2.2.2.2.2.2.2==([]:Bytes))&&((p.2.1==0)&&((p.2.2==0)&&true)))))))))))))))))
def PE (r:bh):Bool:=(fI r.1&&(hZ r.2.1&&(hZ r.2.2.1&&((r.2.1.1==r.2.2.1.1)&&((r.2.1.2.1==r.2.2.1.2.1)&&dI r.2.2.2.2.2 0 1000000000000)))))&&
 (bif r.2.2.2.2.1 then eu r.2.2.2.1.1&&(dI r.2.2.2.1.2.1 0 320&&dI r.2.2.2.1.2.2 1 320) else afR r.2.2.2.1)
theorem Uq (r:bh):yw r=some (PE r):=by unfold yw PE afR;simp_all[Ai,Mg,cO,sI,cw,bne]
theorem TI (r:bh):yg r=some (PE r):=by unfold yg PE afR;simp_all[zP,LF,dh,pN,cw,bne]
def th (v:Vector):Bool:=(jo v).getD false
theorem yu (v:Vector):jo v=some (th v):=by simp_all[jo,rF,cO,cw,th]
theorem Ce (v:Vector):mM v=some (th v):=yu v
theorem L7 (l:aq α)(p:α->Bool):(range l.length).all (λi=>l[i]?.all p)=l.all p:=by rw[fj,aW,aW];constructor;intro h x hx;obtain⟨i,hi,rfl⟩:=List.getElem_of_mem hx;have:=h i (dy.2 hi);rwa[al hi]at this;intro h i hi;rw[al (dy.1 hi)];exact h _ (bc _)
theorem Z8 (l:aq α)(p q:α->Bool):l.all (λx=>p x&&q x)=(l.all p&&l.all q):=by grind
def kf (h:Host):ew:=[h.2.2.2.2.2.2.2.2.2.2.2.2.2.2.1,h.2.2.2.2.2.2.2.2.2.2.2.2.2.2.2.1,h.2.2.2.2.2.2.2.2.2.2.2.2.2.2.2.2.1,h.2.2.2.2.2.2.2.2.2.2.2.2.2.2.2.2.2.1,h.2.2.2.2.2.2.2.2.2.2.2.2.2.2.2.2.2.2]
def xj (h:Host):Bool:=dI (h.2.2.2.1.length:Int) 1 2&&(((h.2.2.2.2.1.length:Int)==(h.2.2.2.1.length:Int))&&(((h.2.2.2.2.2.1.length:Int)==(h.2.2.2.1.length:Int))&&((h.2.2.2.2.2.2.1.length:Int)==(h.2.2.2.1.length:Int))))
def WC (h:Host):Bool:=h.2.2.2.1.all PE&&(h.2.2.2.2.1.all gq&&h.2.2.2.2.2.1.all th)
def fi (h:Host):Bool:=gQ h.1&&(fG h.2.1&&(Qi h.2.2.1&&(Db h.2.2.2.2.2.2.2.1&&(xj h&&(iH h.2.2.2.2.2.2.2.2.1 (h.2.2.2.1.length:Int)&&(WC h&&(kf h).all (λx=>dI x 0 1000000000000)))))))
structure Jc (h:Host):Prop where
 a1:h.1.length<=10^9
 a2:h.2.1.length<=10^9
 t1:h.2.2.1.2.2.1.length<=10^9
 t2:h.2.2.1.2.1.2.2.2.length+(ch h.2.2.1.2.2.1).length<=10^9
 f1:h.2.2.2.2.2.2.2.1.2.2.length<=10^9
 s1:h.2.2.2.2.2.2.2.2.1.1.length<=10^9
 s2:h.2.2.2.2.2.2.2.2.1.2.1.length<=10^9
 s3:h.2.2.2.2.2.2.2.2.1.2.2.2.length<=10^9
 p1:∀p∈h.2.2.2.2.1,p.2.2.2.length<=10^9
theorem nn (l:xj h=true):h.2.2.2.1.length<=2/\h.2.2.2.2.1.length=h.2.2.2.1.length/\h.2.2.2.2.2.1.length=h.2.2.2.1.length/\h.2.2.2.2.2.2.1.length=h.2.2.2.1.length:=by grind[xj,bO]
theorem Sl {T:(Int->au R)->Int->au R}{fin hit:au R}(l:xj h=true)(hs:∀i (hi:i<h.2.2.2.1.length) nx,T nx (i:Int)=cond (!(PE h.2.2.2.1[i]&&(gq (h.2.2.2.2.1[i]'((nn l).2.1▸hi))&&th (h.2.2.2.2.2.1[i]'((nn l).2.2.1▸hi))))) hit (nx ((i+1:Nat):Int)))(hf:∀nx,T nx (h.2.2.2.1.length:Int)=fin):aI T fuel 0=cond (WC h) fin hit:=by
 have hl:=nn l;rw[pL (fin:=fin) (hit:=hit) (λi=>h.2.2.2.1[i]?.all PE&&(h.2.2.2.2.1[i]?.all gq&&h.2.2.2.2.2.1[i]?.all th)) h.2.2.2.1.length (by omega) ?hs hf]
 case hs=>
  grind
 rw[Z8,Z8,L7];have e1:=L7 h.2.2.2.2.1 gq;have e2:=L7 h.2.2.2.2.2.1 th;rw[hl.2.1]at e1;rw[hl.2.2.1]at e2;rw[e1,e2];rfl
theorem Mp {T:(Int->au R)->Int->au R}{fin hit:au R}(h:Host)(hs:∀i (hi:i<(kf h).length) nx,T nx (i:Int)=cond (!(dI (kf h)[i] 0 1000000000000)) hit (nx ((i+1:Nat):Int)))(hf:∀nx,T nx ((kf h).length:Int)=fin):aI T fuel 0=cond ((kf h).all (λx=>dI x 0 1000000000000)) fin hit:=rN (λx=>dI x 0 1000000000000) (kf h) (by simp[kf]) hs hf
theorem rA (h:Host)(z:Jc h):iO h=some (fi h):=by
 unfold iO fi;simp only[FL _ z.a1,KZ _ z.a2,ZL _ z.t1 z.t2,PQ _ z.f1,K3 _ _ z.s1 z.s2 z.s3,cO,ab,cw];cases gQ h.1;rfl;cases fG h.2.1;rfl;cases Qi h.2.2.1;rfl;cases Db h.2.2.2.2.2.2.2.1;rfl;simp only[ai,ae,cT,bne];rw[show(!dI (h.2.2.2.1.length:Int) 1 2||(!((h.2.2.2.2.1.length:Int)==(h.2.2.2.1.length:Int))||(!((h.2.2.2.2.2.1.length:Int)==(h.2.2.2.1.length:Int))||(!((h.2.2.2.2.2.2.1.length:Int)==(h.2.2.2.1.length:Int))|| !iH h.2.2.2.2.2.2.2.2.1 (h.2.2.2.1.length:Int)))))= !(xj h&&iH h.2.2.2.2.2.2.2.2.1 (h.2.2.2.1.length:Int)) by unfold xj;simp only[Bool.not_and,Bool.or_assoc]];cases hl:xj h;rfl;cases iH h.2.2.2.2.2.2.2.2.1 (h.2.2.2.1.length:Int);rfl;have hL:=nn hl;simp only[ig,ai,ae,bF];rw[Sl (h:=h) (hit:=some false) (fin:=some ((kf h).all (λx=>dI x 0 1000000000000))) hl ?hs ?hf]
 case hs=>
  intro i hi nx
  simp only[xy]
  rw[jF,aX hi,aX (hL.2.1▸hi),aX (hL.2.2.1▸hi),aj (n:=(i:Int)+1) (by omega) (by omega)]
  simp only[af,ab,Uq,yu,ug _ (z.p1 _ (bc _)),cw,cT,Bool.not_and]
  rfl
 case hf=>
  intro nx
  simp only[xy]
  rw[gr]
  simp only[ae]
  refine(Mp (fin:=some true) (hit:=some false) h ?_ ?_).trans ?_
  ·intro i hi nx
   simp only[uW]
   have rJ:i<5:=hi
   change (bif decide ((i:Int)<5) then aa (idx (kf h) (i:Int)) _ else _)=_
   rw[jF,aX hi,aj (n:=(i:Int)+1) (by omega) (by omega),ab,cO]
   rfl
  ·intro nx
   simp only[uW]
   rw[ar (by simp[kf])];rfl
  ·cases (kf h).all (λx=>dI x 0 1000000000000)<;>rfl
 cases WC h<;>rfl
theorem wg (h:Host)(z:Jc h):iI h=some (fi h):=by
 unfold iI fi;simp only[Jz _ z.a1,Km _ z.a2,YN _ z.t1 z.t2,OX _ z.f1,Ks _ _ z.s1 z.s2 z.s3,dh,ab,cw];cases gQ h.1;rfl;cases fG h.2.1;rfl;cases Qi h.2.2.1;rfl;cases Db h.2.2.2.2.2.2.2.1;rfl;simp only[ai,ae,cT,bne];rw[show(!dI (h.2.2.2.1.length:Int) 1 2||(!((h.2.2.2.2.1.length:Int)==(h.2.2.2.1.length:Int))||(!((h.2.2.2.2.2.1.length:Int)==(h.2.2.2.1.length:Int))|| !((h.2.2.2.2.2.2.1.length:Int)==(h.2.2.2.1.length:Int)))))= !(xj h) by unfold xj;simp only[Bool.not_and]];cases hl:xj h;rfl;have hL:=nn hl;simp only[ai,ae,bF];rw[Sl (h:=h) (hit:=some false) (fin:=some ((kf h).all (λx=>dI x 0 1000000000000)&&iH h.2.2.2.2.2.2.2.2.1 (h.2.2.2.1.length:Int))) hl ?hs ?hf]
 case hs=>
  intro i hi nx
  simp only[wu]
  rw[jF,aX hi,aX (hL.2.1▸hi),aX (hL.2.2.1▸hi),aj (n:=(i:Int)+1) (by omega) (by omega)]
  simp only[af,ab,TI,Ce,wh _ (z.p1 _ (bc _)),cw,cT,Bool.not_and]
  rfl
 case hf=>
  intro nx
  simp only[wu]
  rw[gr]
  simp only[ae]
  refine(Mp (fin:=some (iH h.2.2.2.2.2.2.2.2.1 (h.2.2.2.1.length:Int))) (hit:=some false) h ?_ ?_).trans ?_
  ·intro i hi nx
   simp only[uA]
   have rJ:i<5:=hi
   change (bif decide ((i:Int)<5) then aa (idx (kf h) (i:Int)) _ else _)=_
   rw[jF,aX hi,aj (n:=(i:Int)+1) (by omega) (by omega),ab,dh]
   rfl
  ·intro nx
   simp only[uA]
   rw[ar (by simp[kf])];rfl
  ·cases (kf h).all (λx=>dI x 0 1000000000000)<;>rfl
 cases WC h<;>cases iH h.2.2.2.2.2.2.2.2.1 (h.2.2.2.1.length:Int)<;>cases (kf h).all (λx=>dI x 0 1000000000000)<;>rfl
def hasB (l:ew)(v:Int):Bool:=l.any (·==v)
theorem ahf (l:ew)(v:Int)(h:l.length<=10^9):vP l v=some (hasB l v):=by
 unfold vP hasB;rw[GQ (hit:=some true) (fin:=some false) (λx:Int=>x==v) l (by omega) (λi hi nx=>?hs) (λnx=>?hf)]
 case hs=>
  simp(disch:=omega)[xL,ax,aX,aj]
 all_goals grind[xL]
theorem agL (l:ew)(v:Int)(h:l.length<=10^9):vB l v=some (hasB l v):=by
 unfold vB hasB;rw[GQ (hit:=some true) (fin:=some false) (λx:Int=>x==v) l (by omega) (λi hi nx=>?hs) (λnx=>?hf)]
 case hs=>
  simp(disch:=omega)[wJ,ax,aX,aj]
 all_goals grind[wJ]
theorem W7 (l:aq α)(j:Nat)(h:j<=l.length):sub l (j:Int) (l.length:Int)=some (l.drop j):=by simp_all[sub]
def zM (f:Filter)(p:aU):Bool:=Db f&&(((p.1==f.1)||((p.1==281474976710655)||f.2.1))&&((p.2.2.1== -1)||hasB f.2.2 p.2.2.1))
theorem VO (f:Filter)(p:aU)(h:f.2.2.length<=10^9):Bd f p=some (zM f p):=by grind[Bd,OX,agL,ab,zM]
theorem WR (f:Filter)(p:aU)(h:f.2.2.length<=10^9):Bs f p=some (zM f p):=by grind[Bs,PQ,ahf,ab,zM]
def preB (a b n:Int):Bool:=fdiv a (2^(min (Int.toNat (ak (32-n))) (IntKind.bits .i64)))==fdiv b (2^(min (Int.toNat (ak (32-n))) (IntKind.bits .i64)))
theorem Sm {r:gj}(h:EF r=true):0<=r.2.2.2.1/\r.2.2.2.1<=32:=by grind[EF,mG,cO,ab,dI]
def adK (r:gj)(p:aU):Bool:=preB r.2.2.1 p.2.2.2.2.2.2.1 r.2.2.2.1&&(dI p.2.2.2.2.2.2.2.2.2.2.1 r.2.2.2.2.1 r.2.2.2.2.2.1&&((r.2.2.2.2.2.2.1== -2)||(r.2.2.2.2.2.2.1==p.2.2.1)))
def Hu (r:gj)(p:aU):Bool:=EF r&&(eu p&&(((r.2.1==0)||(r.2.1==p.2.2.2.2.2.2.2.2.1))&&adK r p))
theorem agO (a b n:Int)(h0:0<=n)(h1:n<=32):pt a b n=some (preB a b n):=by grind[pt,preB,aj]
theorem abQ (r:gj)(p:aU):sa r p=some (Hu r p):=by unfold sa Hu;rw[aeQ,ab];grind[Sm,pN,agO,dh,ab,adK]
theorem ac1 (r:gj)(p:aU):sO r p=some (Hu r p):=by
 unfold sO Hu;rw[PX,ab];cases hr:EF r;rfl;have hp:=Sm hr;have hw:¬ak (32-r.2.2.2.1)<0:=by grind[aj]
 simp only[sI,AL,aF hw,cO,ab,adK];rw[show(fdiv r.2.2.1 (2^(min (Int.toNat (ak (32-r.2.2.2.1))) (IntKind.bits .i64)))==fdiv p.2.2.2.2.2.2.1 (2^(min (Int.toNat (ak (32-r.2.2.2.1))) (IntKind.bits .i64))))=preB r.2.2.1 p.2.2.2.2.2.2.1 r.2.2.2.1 from rfl];cases eu p<;>cases r.2.1==0<;>cases r.2.1==p.2.2.2.2.2.2.2.2.1<;>cases preB r.2.2.1 p.2.2.2.2.2.2.1 r.2.2.2.1<;>cases dI p.2.2.2.2.2.2.2.2.2.2.1 r.2.2.2.2.1 r.2.2.2.2.2.1<;>cases r.2.2.2.2.2.2.1== -2<;>rfl
def MT:gj:=(0,0,0,0,0,0,0,0,0)
def AN (l:aq gj)(p:aU):Nat->Int
 |0=> -1
 |i+1=>bif Hu (l.getD i MT) p&&(decide (AN l p i<0)||decide ((l.getD i MT).1<(l.getD (AN l p i).toNat MT).1)) then(i:Int) else AN l p i
theorem N2 (l:aq gj)(p:aU):∀i,AN l p i= -1\/∃n:Nat,AN l p i=(n:Int)/\n<i
 |0=> .inl rfl
 |i+1=>by rw[AN];cases Hu (l.getD i MT) p&&(decide (AN l p i<0)||decide ((l.getD i MT).1<(l.getD (AN l p i).toNat MT).1))with|true=>grind|false=>rcases N2 l p i with h|⟨n,h,hn⟩;all_goals grind
theorem Re (l:aq gj)(p:aU)(i:Nat)(hi:i<l.length)(nx:Int×Int->au R): (aa (cond (Hu l[i] p) (cond (decide (AN l p i<0)) (some true) (aa (idx l (AN l p i)) λx4=>some (decide (l[i].1<x4.1)))) (some false)) λq5=>cond q5 (nx ((i:Int),((i+1:Nat):Int))) (nx (AN l p i,((i+1:Nat):Int))))=nx (AN l p (i+1),((i+1:Nat):Int)):=by
 rw[AN,fM hi];cases Hu l[i] p;rfl;rcases N2 l p i with h|⟨n,h,hn⟩;rw[h];rfl;have hl:n<l.length:=by omega
 rw[h,ar (show¬(n:Int)<0 by omega),aX hl];simp only[af,ae,ab,ay,fM hl,bF,cL];cases decide (l[i].1<l[n].1)<;>rfl
def G1 (l:aq gj)(p:aU):Int:=bif CP l then AN l p l.length else-1
theorem Ow (l:aq gj)(p:aU)(h:G1 l p>=0):∃n:Nat,G1 l p=(n:Int)/\n<l.length:=by unfold G1 at h⊢;cases hr:CP l with|false=>grind|true=>rw[hr]at h;simp only[af]at h⊢;rcases N2 l p l.length with g|g;omega;exact g
theorem abO (l:aq gj)(p:aU)(h:l.length<=10^9):yJ l p=some (G1 l p):=by unfold yJ G1;rw[RQ l h,ab];cases CP l;rfl;simp only[ai,ae,af];refine cC (λi=>(AN l p i,(i:Int))) l.length (by omega) (λi nx hi=>?_) (λnx=>?_);simp only[rU];rw[jF,aX hi,aj (n:=(i:Int)+1) (by omega) (by omega)];simp only[af,ab,abQ];exact Re l p i hi nx;simp only[rU];rw[gr];rfl
theorem acZ (l:aq gj)(p:aU)(h:l.length<=10^9):zv l p=some (G1 l p):=by
 have xS:=cR;unfold zv G1;cases hr:CP l with
 |false=>
  obtain⟨f,hf⟩:∃f,fuel=f+1:=⟨fuel-1,by omega⟩
  rw[hf,aI];simp only[nW,Im l h,hr,ab];cases decide ((0:Int)<(l.length:Int))<;>rfl
 |true=>simp only[af];refine cC (λi=>(AN l p i,(i:Int))) l.length (by omega) (λi nx hi=>?_) (λnx=>?_);simp only[nW,Im l h,hr];rw[jF,aX hi,aj (n:=(i:Int)+1) (by omega) (by omega)];simp only[af,ab,ac1];exact Re l p i hi nx;simp only[nW];rw[gr];rfl
def mJ (p:aU):F6:=(p.2.2.2.2.2.2.2.2.1,p.2.2.2.2.2.2.1,p.2.2.2.2.2.2.2.1,p.2.2.2.2.2.2.2.2.2.1,p.2.2.2.2.2.2.2.2.2.2.1)
theorem OY (p:aU):vA p=some (mJ p):=rfl
theorem PR (p:aU):vO p=some (mJ p):=rfl
def ajP:Slot:=(0,(0,0,0,0,0),0)
def yx (s:dY)(q:Int)(p:aU):Int:=
 bif !iH s q|| !eu p then-1 else
 bif decide (G1 s.1 p>=0) then(bif (s.1.getD (G1 s.1 p).toNat MT).2.2.2.2.2.2.2.1==1 then-1 else(s.1.getD (G1 s.1 p).toNat MT).2.2.2.2.2.2.2.2) else
 bif decide (findF s.2.1 (mJ p)>=0) then(s.2.1.getD (findF s.2.1 (mJ p)).toNat ajP).2.2 else Is s.2.2 q (mJ p)
theorem abY (s:dY)(q:Int)(p:aU)(h1:s.1.length<=10^9)(h2:s.2.1.length<=10^9)(h3:s.2.2.2.length<=10^9):se s q p=some (yx s q p):=by unfold se yx;rw[Ks s q h1 h2 h3,ab,pN,ab];cases iH s q;rfl;cases eu p;rfl;simp only[ai,ae,ab,bM,abO s.1 p h1,OY,TD s.2.1 _ h2,V3 s.2.2 q _ h3];grind[Ow,aX,ab,Ov]
theorem ac8 (s:dY)(q:Int)(p:aU)(h1:s.1.length<=10^9)(h2:s.2.1.length<=10^9)(h3:s.2.2.2.length<=10^9):sR s q p=some (yx s q p):=by unfold sR yx;rw[K3 s q h1 h2 h3,ab,sI,ab];cases iH s q;rfl;cases eu p;rfl;simp only[ai,ae,ab,bM,acZ s.1 p h1,PR,Ul s.2.1 _,W3 s.2.2 q _ h3];grind[Ow,aX,ab,Ov]
def aa6 (a b:Int):Int:=(oR a b).getD 0
theorem NP (a b:Int):oR a b=some (aa6 a b):=by grind[aa6,oR,cO,ab]
theorem VP (a b:Int):Be a b=some (aa6 a b):=NP a b
theorem agc {a b:Int}(h:0<=a/\a<=65535)(k:0<=b/\b<=65535):0<=aa6 a b/\aa6 a b<=65535:=by have e:=NP a b;simp only[oR,cO,ab,bO.2 h,bO.2 k,ai,ae]at e;rw[aj (n:=a+b) (by omega) (by omega)]at e;by_cases hc:a+b>65535;rw[ax hc,af,aj (by omega) (by omega)]at e;rw[<-cE e];omega;rw[ar hc,ae]at e;rw[<-cE e];omega
def sw (s:Bytes):Nat->Int
 |0=>0
 |j+1=>aa6 (sw s j) ((bI s (2*j)*256+bI s (2*j+1):Nat):Int)
theorem afS (s:Bytes):∀j,0<=sw s j/\sw s j<=65535
 |0=>by simp[sw]
 |j+1=>by have b0:=eY s (2*j);have b1:=eY s (2*j+1);exact agc (afS s j) (by omega)
theorem Ji {i:Nat}(h:s.length<=i:=by omega):bI s i=0:=by simp_all[bI]
theorem ahh (s:Bytes)(h:s.length<=10^9):zG s=some (sw s ((s.length+1)/2)):=by
 unfold zG;refine cC (λj=>(sw s j,((2*j:Nat):Int))) ((s.length+1)/2) (by omega) (λj nx hj=>?_) (λnx=>?_);have b0:=eY s (2*j);have b1:=eY s (2*j+1);obtain⟨x,hx,ex⟩:=ki (s:=s) (i:=2*j);simp only[sT];rw[jF,af,hx,ab,mI,aj (n:=((2*j:Nat):Int)+1) (by omega) (by omega),aj (n:=((2*j:Nat):Int)+2) (by omega) (by omega),ex,fQ (by omega)];have e8:rL 8=8:=rfl;have en:((2*j:Nat):Int)+2=((2*(j+1):Nat):Int):=by omega
 rw[e8,aj (n:=((bI s (2*j):Nat):Int)*2^8) (by omega) (by omega)];by_cases hc:2*j+1<s.length;obtain⟨y,hy,ey⟩:=ki (s:=s) (i:=2*j+1) hc;rw[jF,af,show((2*j:Nat):Int)+1=((2*j+1:Nat):Int) by omega,hy,ab,ey,fQ (n:=bI s (2*j+1)) (by omega),aj (by omega) (by omega),NP,ab,en,show((bI s (2*j):Nat):Int)*2^8+((bI s (2*j+1):Nat):Int)=((bI s (2*j)*256+bI s (2*j+1):Nat):Int) by omega];rfl;have hz:=Ji (s:=s) (i:=2*j+1);rw[gr,ae,NP,ab,en,show((bI s (2*j):Nat):Int)*2^8=((bI s (2*j)*256+bI s (2*j+1):Nat):Int) by rw[hz];omega];rfl;simp only[sT];rw[gr];rfl
theorem agP (s:Bytes)(h:s.length<=10^9):yT s=some (sw s ((s.length+1)/2)):=by
 unfold yT;refine cC (λj=>(sw s j,((2*j:Nat):Int))) ((s.length+1)/2) (by omega) (λj nx hj=>?_) (λnx=>?_);have b0:=eY s (2*j);have b1:=eY s (2*j+1);obtain⟨x,hx,ex⟩:=ki (s:=s) (i:=2*j);simp only[si];rw[jF,af,hx,ab,mI,aj (n:=((2*j:Nat):Int)+1) (by omega) (by omega),aj (n:=((2*j:Nat):Int)+2) (by omega) (by omega),ex,fQ (by omega)];have e8:rL 8=8:=rfl;have en:((2*j:Nat):Int)+2=((2*(j+1):Nat):Int):=by omega
 rw[e8,show((bI s (2*j):Nat):Int)*2^8=((2^8*bI s (2*j):Nat):Int) by omega,fQ (n:=2^8*bI s (2*j)) (by omega)];by_cases hc:2*j+1<s.length;obtain⟨y,hy,ey⟩:=ki (s:=s) (i:=2*j+1) hc;rw[jF,af,show((2*j:Nat):Int)+1=((2*j+1:Nat):Int) by omega,hy,ab,ey,fQ (n:=bI s (2*j+1)) (by omega),JF (bI s (2*j)) 8 (bI s (2*j+1)),VP,ab,en,show 2^8*bI s (2*j)+bI s (2*j+1)=bI s (2*j)*256+bI s (2*j+1) by omega];rfl;have hz:=Ji (s:=s) (i:=2*j+1);rw[gr,ae,VP,ab,en,show((2^8*bI s (2*j):Nat):Int)=((bI s (2*j)*256+bI s (2*j+1):Nat):Int) by rw[hz];omega];rfl;simp only[si];rw[gr];rfl
def S1 (s:Bytes):Int:=65535-sw s ((s.length+1)/2)
theorem KU (s:Bytes)(h:s.length<=10^9):kM s=some (S1 s):=by have:=afS s ((s.length+1)/2);simp only[kM,ahh s h,ab];rw[aj (by omega) (by omega)];rfl
theorem NK (s:Bytes)(h:s.length<=10^9):ji s=some (S1 s):=by have:=afS s ((s.length+1)/2);simp only[ji,agP s h,ab];rw[aj (by omega) (by omega)];rfl
def xo (s:Bytes)(a:Int)(p:Bytes):Bytes:=bif fJ s a (p.length:Int) then(s.take a.toNat++p)++s.drop (a.toNat+p.length) else s
theorem Ag (s:Bytes)(a:Int)(p:Bytes):(xo s a p).length=s.length:=by grind[xo,fJ]
theorem Wy (s:Bytes)(a:Int)(p:Bytes)(h:s.length<=10^9)(hw:fJ s a (p.length:Int)=true): (aa (sub s 0 a) λx2=>room (List.length x2+List.length p) (aa (sub s (ak (a+((List.length p:Int)))) ((List.length s:Int))) λx3=>room (List.length (x2++p)+List.length x3) (some ((x2++p)++x3))))=some (xo s a p):=by
 have hw':=hw;simp only[fJ,bE]at hw';obtain⟨n,rfl⟩:=aJ hw'.1;have e1:sub s 0 (n:Int)=some (s.take n):=by grind[sub]
 have e2:sub s (((n+p.length:Nat):Int)) (s.length:Int)=some (s.drop (n+p.length)):=by grind[sub,cD]
 rw[e1,aj (by omega) (by omega),show(n:Int)+(p.length:Int)=((n+p.length:Nat):Int) by omega,e2,ab,aQ (by grind),ab,aQ (by grind)];grind[xo]
theorem FP (s:Bytes)(a:Int)(p:Bytes)(h:s.length<=10^9):eH s a p=some (xo s a p):=by grind[eH,HF,ab,xo,Wy]
theorem E8 (s:Bytes)(a:Int)(p:Bytes)(h:s.length<=10^9:=by omega)(hp:p.length<=10^9:=by omega):fH s a p=some (xo s a p):=by
 unfold fH;rw[aj (n:=(s.length:Int)-(p.length:Int)) (by omega) (by omega)];cases hw:fJ s a (p.length:Int)with
 |true=>have hw':=hw;simp only[fJ,bE]at hw';rw[ar (show¬a<0 by omega),ar (show¬a>(s.length:Int)-(p.length:Int) by omega)];exact Wy s a p h hw
 |false=>
  have hp:xo s a p=s:=by grind[xo]
  rw[hp];simp only[fJ,dm]at hw;by_cases h0:a<0;all_goals simp(disch:=omega)[ax]
def bs2 (x y:Int):Bytes:=aM [x,y]
theorem SZ (x y:Int):(bs2 x y).length=2:=rfl
def Bo (a b k n:Int):Bool:=dI a 0 4294967295&&(dI b 0 4294967295&&(dI k 0 255&&dI n 0 65535))
def yq (a b k n:Int):Bytes:=((jd a++jd b)++bs2 0 (gx k))++bW n
theorem Ie (a b k n:Int):(yq a b k n).length<=12:=by grind[dH,bu,yq,SZ]
theorem FO (a b k n:Int):jS a b k n=some (bif Bo a b k n then(yq a b k n,true) else([],false)):=by have:=dH a;have:=dH b;have:=bu n;unfold jS Bo;simp only[cO,ab,mS,ia];cases dI a 0 4294967295;rfl;cases dI b 0 4294967295;rfl;cases dI k 0 255;rfl;cases dI n 0 65535;rfl;simp only[ai,ae,dZ,af,ab];have e:(aM [0,gx k]).length=2:=rfl;rw[aQ (by omega),aQ (by grind),aQ (by grind)];rfl
theorem O1 (a b k n:Int):qp a b k n=some (bif Bo a b k n then(yq a b k n,true) else([],false)):=FO a b k n
def bare (g:dE):Bytes:=bif g.1==6 then
    (((((bW g.2.1++bW g.2.2.1)++jd g.2.2.2.1)++jd g.2.2.2.2.1)++bs2 80 (gx g.2.2.2.2.2.1))++bW g.2.2.2.2.2.2.1)++jd 0++g.2.2.2.2.2.2.2
 else(((bW g.2.1++bW g.2.2.1)++bW (8+(g.2.2.2.2.2.2.2.length:Int)))++bW 0)++g.2.2.2.2.2.2.2
theorem SX (g:dE):(bare g).length<=20+g.2.2.2.2.2.2.2.length:=by have:=bu g.2.1;have:=bu g.2.2.1;have:=dH g.2.2.2.1;have:=dH g.2.2.2.2.1;have:=bu g.2.2.2.2.2.2.1;have:=dH 0;have:=bu 0;have:=bu (8+(g.2.2.2.2.2.2.2.length:Int));unfold bare;cases g.1==6<;>simp only[af,ae,aw,SZ]<;>omega
theorem adt:bW 0++bW 0=jd 0:=by rfl
theorem aeE (g:dE)(h:g.2.2.2.2.2.2.2.length<=1000000):so g=some (bare g):=by have:=bu g.2.1;have:=bu g.2.2.1;have:=dH g.2.2.2.1;have:=dH g.2.2.2.2.1;have:=bu g.2.2.2.2.2.2.1;have:=bu 0;have:=bu (8+(g.2.2.2.2.2.2.2.length:Int));have e:∀x,(aM [80,gx x]).length=2:=λ_=>rfl;unfold so bare;rw[aj (n:=8+(g.2.2.2.2.2.2.2.length:Int)) (by omega) (by omega)];simp only[la,Cf,ab];rw[aQ (by omega)];cases g.1==6 with|true=>simp only[af];rw[aQ (by simp only[aw,e];omega),aQ (by simp only[aw,e];omega),aQ (by simp only[aw,e];omega),aQ (by simp only[aw,e];omega),aQ (by simp only[aw,e];omega),aQ (by simp only[aw,e];omega),aQ (by simp only[aw,e];omega)];rw[<-adt];simp only[bs2,aN]|false=>simp only[ae];rw[aQ (by simp only[aw];omega),aQ (by simp only[aw];omega),aQ (by simp only[aw];omega)]
def aaV (a b:Int)(g:dE):Int:=bif (S1 (yq a b g.1 ((bare g).length:Int)++bare g)==0)&&(g.1==17) then 65535 else S1 (yq a b g.1 ((bare g).length:Int)++bare g)
def aaL (a b:Int)(g:dE):Bytes:=xo (bare g) (bif g.1==6 then 16 else 6) (bW (aaV a b g))
def PI (a b:Int)(g:dE):Bool:=KP g&&Bo a b g.1 ((bare g).length:Int)
def D1 (a b:Int)(g:dE):Bytes×Bool:=bif PI a b g then(aaL a b g,true) else([],false)
theorem KQ {g:dE}(h:KP g=true):g.2.2.2.2.2.2.2.length<=320:=by grind[KP]
theorem HE (a b:Int)(g:dE):jQ a b g=some (D1 a b g):=by
 unfold jQ D1 PI;rw[aaS,ab];cases hg:KP g;rfl;have hb:=KQ hg;have hl:=SX g;have hp:=Ie a b g.1 ((bare g).length:Int);have:=bu g.2.1;have:=bu g.2.2.1;have:=dH g.2.2.2.1;have:=dH g.2.2.2.2.1;have:=bu g.2.2.2.2.2.2.1;have:=dH 0;have:=bu 0;have:=bu (8+(g.2.2.2.2.2.2.2.length:Int));have e:∀x,(aM [80,gx x]).length=2:=λ_=>rfl;rw[aj (n:=8+(g.2.2.2.2.2.2.2.length:Int)) (by omega) (by omega)];simp only[ia,mS,ab,ai,ae,bF];rw[aQ (by omega)];cases h6:g.1==6 with
 |true=>
  have aed:bare g=(((((bW g.2.1++bW g.2.2.1)++jd g.2.2.2.1)++jd g.2.2.2.2.1)++aM [80,gx g.2.2.2.2.2.1])++bW g.2.2.2.2.2.2.1)++jd 0++g.2.2.2.2.2.2.2:=by unfold bare;rw[h6];rfl
  simp only[af];rw[aQ (by grind),aQ (by grind),aQ (by grind),aQ (by grind),aQ (by grind),aQ (by grind),<-aed,FO,ab];cases Bo a b g.1 ((bare g).length:Int);rfl;simp only[af,ai,ae];rw[aQ (by omega),KU _ (by grind)];simp only[ab,cw,FP _ _ _ (show(bare g).length<=10^9 by omega),aaL,aaV,h6,af,cF];cases (S1 (yq a b g.1 ((bare g).length:Int)++bare g)==0)&&(g.1==17)<;>rfl
 |false=>
  have aed:bare g=(((bW g.2.1++bW g.2.2.1)++bW (8+(g.2.2.2.2.2.2.2.length:Int)))++bW 0)++g.2.2.2.2.2.2.2:=by unfold bare;rw[h6];rfl
  simp only[ae];rw[aQ (by simp_all;omega),aQ (by simp_all;omega),aQ (by simp_all;omega),<-aed,FO,ab];cases Bo a b g.1 ((bare g).length:Int);rfl;simp only[af,ai,ae];rw[aQ (by omega),KU _ (by simp_all;omega)];simp only[ab,cw,FP _ _ _ (show(bare g).length<=10^9 by omega),aaL,aaV,h6,ae,cF];cases (S1 (yq a b g.1 ((bare g).length:Int)++bare g)==0)&&(g.1==17)<;>rfl
theorem Hi (a b:Int)(g:dE):jK a b g=some (D1 a b g):=by
 unfold jK D1 PI;rw[aaw,ab];cases hg:KP g;rfl;have hb:=KQ hg;have hl:=SX g;have hp:=Ie a b g.1 ((bare g).length:Int);have Kf:fu g.1=some (bif g.1==6 then 16 else 6):=by unfold fu;rw[cw]
 have w1:=bu 65535;have w2:=bu (S1 (yq a b g.1 ((bare g).length:Int)++bare g));simp only[aeE g (by omega),O1,ab,ai,ae,bF];cases Bo a b g.1 ((bare g).length:Int);rfl;simp only[af,ai,ae];rw[aQ (by omega),NK _ (by grind)];simp only[ab,cw,Kf,la,E8 _ _ _ (show(bare g).length<=10^9 by omega) (show(bW 65535).length<=10^9 by omega),E8 _ _ _ (show(bare g).length<=10^9 by omega) (show(bW (S1 (yq a b g.1 ((bare g).length:Int)++bare g))).length<=10^9 by omega),aaL,aaV,cF];grind
theorem aha (a b:Int)(g:dE):(D1 a b g).1.length<=340:=by unfold D1;cases h:PI a b g with|false=>exact dR _|true=>simp only[PI,ah]at h;have:=KQ h.1;have:=SX g;show(xo _ _ _).length<=340;rw[Ag];omega
def ipB (d:Ip):Bool:=dI d.1 0 255&&(dI d.2.2.1 0 255&&(dI d.2.2.2.1 0 255&&(dI d.2.1 0 65535&&(dI d.2.2.2.2.1 0 4294967295&&(dI d.2.2.2.2.2.1 0 4294967295&&decide ((d.2.2.2.2.2.2.length:Int)<=380))))))
theorem WW (d:Ip):Io d=some (ipB d):=by simp_all[Io,cO,cw,ipB]
theorem aeK (d:Ip):LH d=some (ipB d):=WW d
def O6 (d:Ip):Bytes:=((((((bs2 69 (gx d.1)++bW (20+(d.2.2.2.2.2.2.length:Int)))++bW d.2.1)++bW 16384)++bs2 (gx d.2.2.1) (gx d.2.2.2.1))++bW 0)++jd d.2.2.2.2.1)++jd d.2.2.2.2.2.1
theorem O7 (d:Ip):(O6 d).length<=20:=by have:=bu (20+(d.2.2.2.2.2.2.length));have:=bu d.2.1;have:=bu 16384;have:=bu 0;have:=dH d.2.2.2.2.1;have:=dH d.2.2.2.2.2.1;simp_all[O6,SZ];omega
def O5 (d:Ip):Bytes:=xo (O6 d) 10 (bW (S1 (O6 d)))
theorem ZH (d:Ip):zB d=some (bif ipB d then(O5 d,true) else([],false)):=by
 unfold zB;rw[WW,ab];cases hd:ipB d;rfl;have hn:(d.2.2.2.2.2.2.length)<=380:=by grind[ipB]
 have:=bu (20+(d.2.2.2.2.2.2.length));have:=bu d.2.1;have:=bu 16384;have:=bu 0;have:=dH d.2.2.2.2.1;have:=dH d.2.2.2.2.2.1;have hl:=O7 d;have e:∀x y,(aM [x,y]).length=2:=λ_ _=>rfl;rw[aj (by omega) (by omega)];simp only[ia,mS,ab,ai,ae,af];rw[aQ (by grind),aQ (by grind),aQ (by simp_all;omega),aQ (by simp_all;omega),aQ (by simp_all;omega),aQ (by simp_all;omega),aQ (by simp_all;omega)];have hp:((((((aM [69,gx d.1]++bW (20+(d.2.2.2.2.2.2.length)))++bW d.2.1)++bW 16384)++aM [gx d.2.2.1,gx d.2.2.2.1])++bW 0)++jd d.2.2.2.2.1)++jd d.2.2.2.2.2.1=O6 d:=rfl;rw[hp,KU _ (by omega),ab,FP _ _ _ (by omega)];rfl
theorem YI (d:Ip):yO d=some (bif ipB d then(O5 d,true) else([],false)):=by
 unfold yO;rw[aeK,ab];cases hd:ipB d;rfl;have hn:(d.2.2.2.2.2.2.length)<=380:=by grind[ipB]
 have:=bu (20+(d.2.2.2.2.2.2.length));have:=bu d.2.1;have:=bu 16384;have:=bu 0;have:=dH d.2.2.2.2.1;have:=dH d.2.2.2.2.2.1;have hl:=O7 d;have hw:=bu (S1 (O6 d));have e:∀x y,(aM [x,y]).length=2:=λ_ _=>rfl;rw[aj (by omega) (by omega)];simp only[la,Cf,ab,ai,ae,af];rw[aQ (by grind),aQ (by grind),aQ (by simp_all;omega),aQ (by simp_all;omega),aQ (by simp_all;omega),aQ (by simp_all;omega),aQ (by simp_all;omega)];have hp:((((((aM [69,gx d.1]++bW (20+(d.2.2.2.2.2.2.length)))++bW d.2.1)++bW 16384)++aM [gx d.2.2.1,gx d.2.2.2.1])++bW 0)++jd d.2.2.2.2.1)++jd d.2.2.2.2.2.1=O6 d:=rfl;rw[hp,NK _ (by omega),ab,E8 _ _ _];rfl
def ipR (d:Ip):Bytes×Bool:=bif ipB d then(O5 d++d.2.2.2.2.2.2,true) else([],false)
theorem LJ (d:Ip):(O5 d).length<=20:=by grind[O5,Ag,O7]
theorem afH (d:Ip):xt d=some (ipR d):=by grind[xt,ipR,ZH,ab,ipB,LJ,aQ]
theorem aeJ (d:Ip):wi d=some (ipR d):=by grind[wi,ipR,YI,ab,ipB,LJ,aQ]
def EL (n:Nat):Bytes:=aM (List.replicate n (0:Int))
theorem Mk (n:Nat):(EL n).length=n:=by simp[EL,aM]
theorem WX (n:Nat)(h:n<=10^9:=by omega):sX (n:Int) 0=some (EL n):=by unfold sX;rw[zip,aQ (by omega),ay];refine cC (λi=>(List.replicate n (0),(i:Int))) n (by omega) (λi nx hi=>?_) (λnx=>?_);simp only[vf];rw[jF,aX (by simpa using hi),aj (by omega) (by omega)];simp only[af,ab,ay,List.set_replicate_self];rfl;simp only[vf];rw[gr];rfl
theorem aav (n:Nat)(h:n<=10^9:=by omega):ov 0 (n:Int)=some (EL n):=by unfold ov;rw[zip,aQ (by omega),ay];refine cC (λi=>(List.replicate n (0),(i:Int))) n (by omega) (λi nx hi=>?_) (λnx=>?_);simp only[wL];rw[ax (by simp;omega),aX (by simpa using hi),aj (by omega) (by omega)];simp only[af,ab,ay,List.set_replicate_self];rfl;simp only[wL];rw[ar (by simp)];rfl
def pad (s:Bytes):Bytes:=if s.length<46 then s++EL (46-s.length) else s
theorem T3 (s:Bytes):(pad s).length=max 46 s.length:=by grind[pad,Mk]
theorem ahg (s:Bytes)(h:s.length<=10^9):Bv s=some (pad s):=by unfold Bv pad;by_cases hc:s.length<46;rw[jF,aG hc,aj (by omega) (by omega),show(46:Int)-(s.length)=((46-s.length:Nat)) by omega,WX _];simp only[af,ab];rw[aQ (by rw[Mk];omega)];rw[gr,aF hc];rfl
theorem agN (s:Bytes)(h:s.length<=10^9):Bh s=some (pad s):=by unfold Bh pad;by_cases hc:s.length<46;rw[gr,aG hc,aj (by omega) (by omega),show(46:Int)-(s.length)=((46-s.length:Nat)) by omega,aav _];simp only[ae,ab];rw[aQ (by rw[Mk];omega)];rw[jF,aF hc];rfl
def B0 (e:Qq):Bool:=dI e.1 0 281474976710655&&(dI e.2.1 0 281474976710655&&(dI e.2.2.1 (-1) 4095&&(dI e.2.2.2.1 1536 65535&&((e.2.2.2.1 !=33024)&&dI (e.2.2.2.2.length:Int) 46 400))))
theorem Me (e:Qq):yv e=some (B0 e):=by simp_all[yv,cO,cw,B0]
theorem RM (e:Qq):Cg e=some (B0 e):=Me e
def XE (a:Int):Bytes:=(iQ a).getD []
theorem DM (a:Int):iQ a=some (XE a)/\(XE a).length<=6:=by
 have h:∃x,iQ a=some x/\x.length<=6:=by unfold iQ;simp only[ia,mS,ab];have h1:=bu (fdiv a (2^(rL 32)));grind[dH,aQ]
 grind[XE]
theorem agM (a:Int):yU a=some (XE a):=(DM a).1
def Rr (e:Qq):Bytes:=(bif decide (e.2.2.1>=0) then(((XE e.1++XE e.2.1)++bW 33024)++bW e.2.2.1) else XE e.1++XE e.2.1)++bW e.2.2.2.1++e.2.2.2.2
theorem ad1 (e:Qq):(Rr e).length<=18+e.2.2.2.2.length:=by have:=(DM e.1).2;have:=(DM e.2.1).2;grind[bu,Rr]
def Vg (e:Qq):Bytes×Bool:=bif B0 e then(Rr e,true) else([],false)
theorem ahe (e:Qq):zl e=some (Vg e):=by
 unfold zl Vg;rw[Me,ab];cases he:B0 e;rfl;have hn:(e.2.2.2.2.length)<=400:=by grind[B0,bO]
 have:=(DM e.1).2;have:=(DM e.2.1).2;have:=bu 33024;have:=bu e.2.2.1;have:=bu e.2.2.2.1;simp only[(DM _).1,ia,ab,ai,ae,af,Rr];grind[aQ]
theorem agK (e:Qq):yF e=some (Vg e):=by
 unfold yF Vg;rw[RM,ab];cases he:B0 e;rfl;have hn:(e.2.2.2.2.length)<=400:=by grind[B0,bO]
 have:=(DM e.1).2;have:=(DM e.2.1).2;have:=bu 33024;have:=bu e.2.2.1;have:=bu e.2.2.2.1;simp only[agM,la,ab,ai,ae,af,Rr];grind[aQ]
def ajO (p:aU):Bytes×Bool:=D1 p.2.2.2.2.2.2.1 p.2.2.2.2.2.2.2.1 p.2.2.2.2.2.2.2.2
def ipP (p:aU):Bytes×Bool:=ipR (p.2.2.2.1,p.2.2.2.2.1,p.2.2.2.2.2.1,p.2.2.2.2.2.2.2.2.1,p.2.2.2.2.2.2.1,p.2.2.2.2.2.2.2.1,(ajO p).1)
def agu (p:aU):Bytes×Bool:=Vg (p.1,p.2.1,p.2.2.1,2048,pad (ipP p).1)
def eS (p:aU):Bytes×Bool:=bif eu p then agu p else([],false)
theorem TK (p:aU):(ipP p).1.length<=360:=by grind[aha,ipP,ipR,ajO,LJ]
theorem Ik (p:aU):hG p=some (eS p):=by have hl:=TK p;unfold hG eS;simp only[sI,HE,afH,ab];rw[show(ipR (p.2.2.2.1,p.2.2.2.2.1,p.2.2.2.2.2.1,p.2.2.2.2.2.2.2.2.1,p.2.2.2.2.2.2.1,p.2.2.2.2.2.2.2.1,(D1 p.2.2.2.2.2.2.1 p.2.2.2.2.2.2.2.1 p.2.2.2.2.2.2.2.2).1))=ipP p from rfl,ahg _ (by omega),ab,ahe];cases eu p<;>rfl
theorem H6 (p:aU):gY p=some (eS p):=by have hl:=TK p;unfold gY eS;simp only[pN,Hi,aeJ,ab];rw[show(ipR (p.2.2.2.1,p.2.2.2.2.1,p.2.2.2.2.2.1,p.2.2.2.2.2.2.2.2.1,p.2.2.2.2.2.2.1,p.2.2.2.2.2.2.2.1,(D1 p.2.2.2.2.2.2.1 p.2.2.2.2.2.2.2.1 p.2.2.2.2.2.2.2.2).1))=ipP p from rfl,agN _ (by omega),ab,agK];cases eu p<;>rfl
theorem Eo (h:eu p=true):(eS p).2=true:=by grind[TK,Mx,eu,T3,eS,agu,Vg,B0,bO]
theorem ye (p:aU):(eS p).1.length<=378:=by grind[TK,T3,eS,agu,Vg,ad1]
def fcs (c:Int):Bytes:=aM [gx c,gx (fdiv c (2^(rL 8))),gx (fdiv c (2^(rL 16))),gx (fdiv c (2^(rL 24)))]
def F4 (s:Bytes):Bytes:=s++fcs (adL s)
theorem agw (c:Int):(fcs c).length=4:=rfl
theorem aaR (s:Bytes)(h:s.length<=10^9):xJ s=some (F4 s):=by unfold xJ;rw[ahc s h,ab,mI,mI,mI];exact aQ (by show s.length+4<=_;omega)
theorem aau (s:Bytes)(h:s.length<=10^9):wG s=some (F4 s):=by unfold wG;rw[agI s h,ab,mI,mI,mI];exact aQ (by show s.length+4<=_;omega)
def jN (p:aU):Bool:=eu p&&decide ((p.2.2.2.2.2.2.2.2.2.2.2.2.2.2.2.length:Int)<=128)
theorem FN (p:aU):mU p=some (jN p):=by grind[mU,sI,ab,jN]
theorem E7 (p:aU):mK p=some (jN p):=by grind[mK,pN,ab,jN]
def G5 (p:aU):Bytes×Bool:=bif jN p then(F4 (eS p).1,true) else([],false)
theorem ac0 (p:aU):uU p=some (G5 p):=by grind[ye,uU,FN,Ik,aaR,ab,G5]
theorem abP (p:aU):uy p=some (G5 p):=by grind[ye,uy,E7,H6,aau,ab,G5,jN,Eo]
theorem abv (p:aU):(G5 p).1.length<=382:=by grind[ye,G5,F4,agw]
def Pv (p:aU)(z:Int)(k:Nat):aU:=
 (p.1,p.2.1,p.2.2.1,p.2.2.2.1,tmod (ak (p.2.2.2.2.1+(k:Int))) 65536,p.2.2.2.2.2.1,p.2.2.2.2.2.2.1,p.2.2.2.2.2.2.2.1,p.2.2.2.2.2.2.2.2.1,p.2.2.2.2.2.2.2.2.2.1,p.2.2.2.2.2.2.2.2.2.2.1,
   tmod (ak (p.2.2.2.2.2.2.2.2.2.2.2.1+((k:Int)*z))) 4294967296,p.2.2.2.2.2.2.2.2.2.2.2.2.1,
   (bif decide (((k:Int)+1)*z<(p.2.2.2.2.2.2.2.2.2.2.2.2.2.2.2.length:Int)) then ak (toNat (fR p.2.2.2.2.2.2.2.2.2.2.2.2.2.1&&&~~~ fR 9)) else p.2.2.2.2.2.2.2.2.2.2.2.2.2.1),
   p.2.2.2.2.2.2.2.2.2.2.2.2.2.2.1,(p.2.2.2.2.2.2.2.2.2.2.2.2.2.2.2.take (min ((k+1)*z.toNat) p.2.2.2.2.2.2.2.2.2.2.2.2.2.2.2.length)).drop (k*z.toNat))
def jO (n z:Nat):Nat:=(n+z-1)/z
def D3 (p:aU)(z:Int):aq aU:=bif eu p&&dI z 1 128 then
    (bif (p.2.2.2.2.2.2.2.2.1 !=6)||decide ((p.2.2.2.2.2.2.2.2.2.2.2.2.2.2.2.length:Int)<=z) then [p] else(range (jO p.2.2.2.2.2.2.2.2.2.2.2.2.2.2.2.length z.toNat)).map (Pv p z)) else []
theorem L5 {n z k:Nat}(hz:0<z:=by omega):k<jO n z↔k*z<n:=by grind[jO,Nat.lt_div_iff_mul_lt]
theorem yA (h:eu p=true):p.2.2.2.2.2.2.2.2.2.2.2.2.2.2.2.length<=320:=by grind[eu,KQ,ON]
theorem SC {b:Bytes}{k z:Nat}(hk:k*z<b.length)(hb:b.length<=320):sub b ((k*z:Nat):Int) ((min ((k+1)*z) b.length:Nat):Int)=some ((b.take (min ((k+1)*z) b.length)).drop (k*z)):=by grind[sub]
theorem ac7 (p:aU)(z:Int):FV p z=some (D3 p z):=by
 unfold FV D3;simp only[sI,cO,ab];cases hs:eu p;rfl;cases hz:dI z 1 128;rfl;have hz':=bO.1 hz;have hb:=yA hs;simp only[ai,ae,dZ,af,ab,cw,cT];cases hq:(p.2.2.2.2.2.2.2.2.1 !=6)||decide ((p.2.2.2.2.2.2.2.2.2.2.2.2.2.2.2.length)<=z)with
 |true=>rfl
 |false=>
  obtain⟨m,rfl⟩:=aJ (show 0<=z by omega);have hN:∀k,k<jO p.2.2.2.2.2.2.2.2.2.2.2.2.2.2.2.length m↔k*m<p.2.2.2.2.2.2.2.2.2.2.2.2.2.2.2.length:=λk=>L5;have Iz:jO p.2.2.2.2.2.2.2.2.2.2.2.2.2.2.2.length m<=320:=by rcases bS 320 (jO p.2.2.2.2.2.2.2.2.2.2.2.2.2.2.2.length m)with h|h;have:=(hN 320).1 h;omega;exact h
  refine cC (λk=>((range k).map (Pv p (m)),(k:Int))) (jO p.2.2.2.2.2.2.2.2.2.2.2.2.2.2.2.length m) (by omega) (λk nx hk=>?_) (λnx=>?_);have hkm:=(hN k).1 hk;have hk1:(k+1)*m=k*m+m:=by rw[cn,dQ]
  have e1:(k:Int)*(m)=((k*m:Nat)):=by push_cast;rfl
  have e2:((k:Int)+1)*(m)=(((k+1)*m:Nat)):=by push_cast;rfl
  simp only[zF];rw[aj (n:=(k)+1) (by omega) (by omega),e1,e2,fQ (by omega),fQ (by omega),jF,af];have e3:(if(((k+1)*m:Nat):Int)<(p.2.2.2.2.2.2.2.2.2.2.2.2.2.2.2.length) then(((k+1)*m:Nat):Int) else(p.2.2.2.2.2.2.2.2.2.2.2.2.2.2.2.length))=((min ((k+1)*m) p.2.2.2.2.2.2.2.2.2.2.2.2.2.2.2.length)):=by split<;>omega
  rw[e3,SC hkm hb,ab,mI,mI];rw[List.range_succ,List.map_append,List.map_singleton];simp only[Pv,e1,e2,ay];cases decide ((((k+1)*m:Nat):Int)<(p.2.2.2.2.2.2.2.2.2.2.2.2.2.2.2.length))with|true=>rw[aQ (by simp;omega)];rfl|false=>simp only[ae];rw[aQ (by simp;omega)];rfl
  have hkm:¬jO p.2.2.2.2.2.2.2.2.2.2.2.2.2.2.2.length m*m<p.2.2.2.2.2.2.2.2.2.2.2.2.2.2.2.length:=λh=>absurd ((hN _).2 h) (nz _);have hub:jO p.2.2.2.2.2.2.2.2.2.2.2.2.2.2.2.length m*m<=320*128:=Nat.mul_le_mul Iz (by omega);have e1:((jO p.2.2.2.2.2.2.2.2.2.2.2.2.2.2.2.length m):Int)*(m)=((jO p.2.2.2.2.2.2.2.2.2.2.2.2.2.2.2.length m*m:Nat)):=by push_cast;rfl
  simp only[zF];rw[e1,fQ (by omega),gr];rfl
theorem abX (p:aU)(z:Int):Fc p z=some (D3 p z):=by
 unfold Fc D3;simp only[pN,dh,ab];cases hs:eu p;rfl;cases hz:dI z 1 128;rfl;have hz':=bO.1 hz;have hb:=yA hs;simp only[ai,ae,dZ,af,ab,cw,cT];cases hq:(p.2.2.2.2.2.2.2.2.1 !=6)||decide ((p.2.2.2.2.2.2.2.2.2.2.2.2.2.2.2.length)<=z)with
 |true=>rfl
 |false=>
  obtain⟨m,rfl⟩:=aJ (show 0<=z by omega);have hN:∀k,k<jO p.2.2.2.2.2.2.2.2.2.2.2.2.2.2.2.length m↔k*m<p.2.2.2.2.2.2.2.2.2.2.2.2.2.2.2.length:=λk=>L5;have Iz:jO p.2.2.2.2.2.2.2.2.2.2.2.2.2.2.2.length m<=320:=by rcases bS 320 (jO p.2.2.2.2.2.2.2.2.2.2.2.2.2.2.2.length m)with h|h;have:=(hN 320).1 h;omega;exact h
  refine cC (λk=>((range k).map (Pv p (m)),(k:Int))) (jO p.2.2.2.2.2.2.2.2.2.2.2.2.2.2.2.length m) (by omega) (λk nx hk=>?_) (λnx=>?_);have hkm:=(hN k).1 hk;have hk1:(k+1)*m=k*m+m:=by rw[cn,dQ]
  have e1:(k:Int)*(m)=((k*m:Nat)):=by push_cast;rfl
  have e2:((k:Int)+1)*(m)=(((k+1)*m:Nat)):=by push_cast;rfl
  have qa:=SC hkm hb;simp only[yR];rw[aj (n:=(k)+1) (by omega) (by omega),e1,e2,fQ (by omega),fQ (by omega),jF,af];rw[List.range_succ,List.map_append,List.map_singleton];simp only[Pv,e1,e2,ay];by_cases hc:(((k+1)*m:Nat):Int)<(p.2.2.2.2.2.2.2.2.2.2.2.2.2.2.2.length);rw[ax hc];rw[show min ((k+1)*m) p.2.2.2.2.2.2.2.2.2.2.2.2.2.2.2.length=(k+1)*m by omega]at qa⊢;rw[qa,ab,mI,mI,aQ (by simp;omega)];rfl;rw[ar hc];rw[show min ((k+1)*m) p.2.2.2.2.2.2.2.2.2.2.2.2.2.2.2.length=p.2.2.2.2.2.2.2.2.2.2.2.2.2.2.2.length by omega]at qa⊢;rw[qa,ab,mI,mI,aQ (by simp;omega)];rfl;have hkm:¬jO p.2.2.2.2.2.2.2.2.2.2.2.2.2.2.2.length m*m<p.2.2.2.2.2.2.2.2.2.2.2.2.2.2.2.length:=λh=>absurd ((hN _).2 h) (nz _);have hub:jO p.2.2.2.2.2.2.2.2.2.2.2.2.2.2.2.length m*m<=320*128:=Nat.mul_le_mul Iz (by omega);have e1:((jO p.2.2.2.2.2.2.2.2.2.2.2.2.2.2.2.length m):Int)*(m)=((jO p.2.2.2.2.2.2.2.2.2.2.2.2.2.2.2.length m*m:Nat)):=by push_cast;rfl
  simp only[yR];rw[e1,fQ (by omega),gr];rfl
theorem JL (p:aU)(z:Int):(D3 p z).length<=320:=by unfold D3;cases hs:eu p&&dI z 1 128;exact dR _;simp only[ah,bO]at hs;have hb:=yA hs.1;cases (p.2.2.2.2.2.2.2.2.1 !=6)||decide ((p.2.2.2.2.2.2.2.2.2.2.2.2.2.2.2.length)<=z)with|true=>simp only[af,bf];omega|false=>simp only[af,ae,cr,List.length_range];rcases bS 320 (jO p.2.2.2.2.2.2.2.2.2.2.2.2.2.2.2.length z.toNat)with h|h;have:=(L5).1 h;omega;exact h
def NZ (acc:bt)(p:aU):bt:=bif (G5 p).2 then acc++[(G5 p).1] else acc
theorem N0 (acc:bt)(p:aU):(NZ acc p).length<=acc.length+1:=by grind[NZ]
def H2 (l:aq aU):bt:=l.foldl NZ []
theorem Mr:∀(l:aq aU)(acc:bt),(l.foldl NZ acc).length<=acc.length+l.length
 |[],acc=>by simp
 |p::l,acc=>by have:=Mr l (NZ acc p);grind[N0]
theorem IG:∀(l:aq aU)(acc:bt),(∀x∈acc,x.length<=382)->∀x∈l.foldl NZ acc,x.length<=382
 |[],acc,h=>h
 |p::l,acc,h=>by refine IG l _ (λx hx=>?_);grind[NZ,abv]
theorem ZE (l:aq aU)(h:l.length<=10^9):zw l=some (H2 l):=by
 unfold zw H2;have:=EG (T:=nY (λ(y3) (_)=>some y3) l) l (λ(s) i=>(s,(i))) (λi s=>s.length<=i) (λp s=> .ok (NZ s p)) (λs=>some s) (by omega) (λi hi s nx hI=>?hs) (λi hi s s' hI hg=>?hn) (λs nx hI=>?hf) [] (by simp)
 case hs=>
  grind[nY,aX,aj,ab,ac0,NZ,aQ]
 all_goals grind[N0,nY,KO]
theorem YF (l:aq aU)(h:l.length<=10^9):yK l=some (H2 l):=by
 unfold yK H2;have:=EG (T:=nD (λ(y3) (_)=>some y3) l (l.length)) l (λ(s) i=>(s,(i))) (λi s=>s.length<=i) (λp s=> .ok (NZ s p)) (λs=>some s) (by omega) (λi hi s nx hI=>?hs) (λi hi s s' hI hg=>?hn) (λs nx hI=>?hf) [] (by simp)
 case hs=>
  grind[nD,aX,aj,ab,abP,NZ,aQ]
 all_goals grind[N0,nD,KO]
def Sq (p:aU)(z:Int):bt:=H2 (D3 p z)
theorem afO (p:aU)(z:Int):uZ p z=some (Sq p z):=by have:=JL p z;simp only[uZ,ac7,ZE _ (show(D3 p z).length<=10^9 by omega),ab];rfl
theorem aeR (p:aU)(z:Int):uD p z=some (Sq p z):=by have:=JL p z;simp only[uD,abX,YF _ (show(D3 p z).length<=10^9 by omega),ab];rfl
theorem acT (p:aU)(z:Int):(Sq p z).length<=320/\∀x∈Sq p z,x.length<=382:=by have:=JL p z;have:=Mr (D3 p z) [];exact⟨by grind[Sq,H2],IG _ [] (by simp)⟩
theorem Ek {a:Int}(h0:0<=a:=by omega)(h:a+2<=(s.length:Int):=by omega):0<=cx s a/\cx s a<=65535:=by grind[eY,cx,fJ]
theorem El {a:Int}(h0:0<=a:=by omega)(h:a+4<=(s.length:Int):=by omega):0<=fg s a/\fg s a<=4294967295:=by grind[eY,fg,fJ]
theorem ae3 {x y:Int}(hx:0<=x/\x<=65535)(hy:0<=y/\y<=4294967295):ak (toNat (fR (ak (x*2^(rL 32)))|||fR y))=x*4294967296+y:=by have e:(2:Int)^(rL 32)=4294967296:=rfl;obtain⟨x,rfl⟩:=aJ hx.1;obtain⟨y,rfl⟩:=aJ hy.1;rw[e,aj (n:=(x:Int)*4294967296) (by omega) (by omega),show(x:Int)*4294967296=((2^32*x:Nat):Int) by omega,JF x 32 y];omega
theorem aaA {x y:Int}(hx:0<=x/\x<=65535)(hy:0<=y/\y<=4294967295):ak (ak (x*2^(rL 32))+y)=x*4294967296+y:=by grind[IntKind.bits,aj]
theorem DN {l:aq α}{n:Int}(h0:0<=n)(h1:n<=(l.length:Int)):sub l 0 n=some (l.take n.toNat):=by grind[sub]
theorem tc {l:aq α}(k:Nat)(h:k<=l.length:=by omega){a:Int}(ha:a=(k:Int):=by omega):sub l a (l.length:Int)=some (l.drop k):=by simp_all[sub]
theorem K8 {l:aq α}(k:Nat){a n:Int}(ha:a=(k:Int))(h0:a<=n)(h1:n<=(l.length:Int)):sub l a n=some ((l.take n.toNat).drop k):=by grind[sub]
def ET (s:Bytes):Bytes×Bool:=bif decide ((s.length:Int)<4) then([],false) else bif F4 (s.take ((s.length:Int)-4).toNat)==s then(s.take ((s.length:Int)-4).toNat,true) else([],false)
theorem ZB (s:Bytes)(h:s.length<=10^9):zn s=some (ET s):=by unfold zn ET;rw[aj (n:=(s.length:Int)-4) (by omega) (by omega)];by_cases h4:(s.length:Int)<4;rw[ax h4];rfl;rw[ar h4,DN (by omega) (by omega)];simp only[ae,ab,aaR _ (show(s.take ((s.length:Int)-4).toNat).length<=10^9 by rw[bm];omega)];cases F4 (s.take ((s.length:Int)-4).toNat)==s<;>rfl
theorem YC (s:Bytes)(h:s.length<=10^9):yG s=some (ET s):=by unfold yG ET;rw[aj (n:=(s.length:Int)-4) (by omega) (by omega)];by_cases h4:(s.length:Int)<4;rw[ax (show(s.length:Int)-4<0 by omega),ax h4];rfl;rw[ar (show¬(s.length:Int)-4<0 by omega),ar h4,DN (by omega) (by omega)];simp only[ae,ab,aau _ (show(s.take ((s.length:Int)-4).toNat).length<=10^9 by rw[bm];omega)];cases F4 (s.take ((s.length:Int)-4).toNat)==s<;>rfl
def agt:Qq:=(0,0,0,0,([]:Bytes))
def IV (s:Bytes)(a:Int):Int:=cx s a*4294967296+fg s (a+2)
def Oj (s:Bytes):Qq:=(IV s 0,IV s 6,cx s 14,cx s 16,s.drop 18)
def Ef (s:Bytes):Qq:=(IV s 0,IV s 6, -1,cx s 12,s.drop 14)
def fP (s:Bytes):Qq×Bool:=bif decide ((s.length:Int)<18) then(agt,false) else
 bif cx s 12==33024 then(bif B0 (Oj s) then(Oj s,true) else(agt,false)) else bif B0 (Ef s) then(Ef s,true) else(agt,false)
theorem Um (s:Bytes)(h:s.length<=10^9):zC s=some (fP s):=by unfold zC fP;by_cases h8:(s.length:Int)<18;rw[ax h8];rfl;rw[ar h8];simp only[ae,sH s _ h,BS s _ h,ab];rw[mI,mI,tc (l:=s) 14 (by omega) (show(14:Int)=((14:Nat):Int) from rfl),ab,tc (l:=s) 18 (by omega) (show(18:Int)=((18:Nat):Int) from rfl)];rw[aaA (Ek (s:=s) (a:=0)) (El (s:=s) (a:=2)),aaA (Ek (s:=s) (a:=6)) (El (s:=s) (a:=8))];simp only[ab,Me];rw[show((cx s 0*4294967296+fg s 2,cx s 6*4294967296+fg s 8,cx s 14,cx s 16,s.drop 18):Qq)=Oj s from rfl,show((cx s 0*4294967296+fg s 2,cx s 6*4294967296+fg s 8, -1,cx s 12,s.drop 14):Qq)=Ef s from rfl];cases cx s 12==33024<;>cases B0 (Oj s)<;>cases B0 (Ef s)<;>rfl
theorem Kn (s:Bytes)(h:s.length<=10^9):tK s=some (fP s):=by
 unfold tK fP;by_cases h4:(s.length:Int)<14;rw[ax h4,ax (show(s.length:Int)<18 by omega)];rfl;rw[ar h4];simp only[ae,yf s _ h,BN s _ h,ab];rw[mI,mI,tc (l:=s) 14 (by omega) (show(14:Int)=((14:Nat):Int) from rfl),ab];rw[ae3 (Ek (s:=s) (a:=0)) (El (s:=s) (a:=2)),ae3 (Ek (s:=s) (a:=6)) (El (s:=s) (a:=8))];simp only[ab,RM];rw[show((cx s 0*4294967296+fg s 2,cx s 6*4294967296+fg s 8, -1,cx s 12,s.drop 14):Qq)=Ef s from rfl];by_cases h8:(s.length:Int)<18;have hB:B0 (Ef s)=false:=by
  unfold B0 Ef;have:dI ((s.drop 14).length:Int) 46 400=false:=by rw[Bool.eq_false_iff,ne_eq,bO,bj];omega
  simp only[this,jI]
 rw[ax h8,ar (show¬(s.length:Int)>=18 by omega),hB];cases cx s 12==33024<;>rfl;rw[ar h8,ax (show(s.length:Int)>=18 by omega),tc (l:=s) 18 (by omega) (show(18:Int)=((18:Nat):Int) from rfl)];simp only[ab];rw[show((cx s 0*4294967296+fg s 2,cx s 6*4294967296+fg s 8,cx s 14,cx s 16,s.drop 18):Qq)=Oj s from rfl];cases cx s 12==33024<;>cases B0 (Oj s)<;>cases B0 (Ef s)<;>rfl
def ip0:Ip:=(0,0,0,0,0,0,([]:Bytes))
def JC (s:Bytes):Ip:=((bI s 1:Int),cx s 4,(bI s 8:Int),(bI s 9:Int),fg s 12,fg s 16,(s.take (cx s 2).toNat).drop 20)
def mw (s:Bytes):Ip×Bool:=bif decide ((s.length:Int)<20)||(decide (cx s 2<20)||decide (cx s 2>(s.length:Int))) then(ip0,false) else
 bif (ipR (JC s)).2&&((ipR (JC s)).1==s.take (cx s 2).toNat) then(JC s,true) else(ip0,false)
theorem WZ (s:Bytes)(h:s.length<=10^9):Bw s=some (mw s):=by
 unfold Bw mw;simp only[sH s _ h,BS s _ h,ab];by_cases h1:(s.length:Int)<20;rw[ax h1];rfl;by_cases h2:cx s 2<20;rw[ar h1,ax h2];rfl;by_cases h3:cx s 2>(s.length:Int);rw[ar h1,ar h2,ax h3];rfl;rw[ar h1,ar h2,ar h3];have b1:=ky (s[1]'(by omega));have b8:=ky (s[8]'(by omega));have b9:=ky (s[9]'(by omega));have i1:idx s 1=some (s[1]'(by omega)):=aX (i:=1) (by omega);have i8:idx s 8=some (s[8]'(by omega)):=aX (i:=8) (by omega);have i9:idx s 9=some (s[9]'(by omega)):=aX (i:=9) (by omega);simp only[ae,ab,bM,i1,i8,i9];rw[K8 (l:=s) 20 (show(20:Int)=((20:Nat):Int) from rfl) (by omega) (by omega),DN (by omega) (by omega),fQ (n:=(s[1]'(by omega)).toNat) (by omega),fQ (n:=(s[8]'(by omega)).toNat) (by omega),fQ (n:=(s[9]'(by omega)).toNat) (by omega)];have e:(((s[1]'(by omega)).toNat:Int),cx s 4,((s[8]'(by omega)).toNat:Int),((s[9]'(by omega)).toNat:Int),fg s 12,fg s 16,(s.take (cx s 2).toNat).drop 20)=JC s:=by grind[JC,bI]
 simp only[ab,e,afH];cases (ipR (JC s)).2<;>cases (ipR (JC s)).1==s.take (cx s 2).toNat<;>rfl
theorem VW (s:Bytes)(h:s.length<=10^9):Bi s=some (mw s):=by
 unfold Bi mw;simp only[yf s _ h,BN s _ h,ab];by_cases h1:(s.length:Int)<20;rw[ax h1];rfl;by_cases h2:cx s 2<20;rw[ar h1,ax h2];rfl;by_cases h3:cx s 2>(s.length:Int);rw[ar h1,ar h2,ax h3];rfl;rw[ar h1,ar h2,ar h3];have b1:=ky (s[1]'(by omega));have b8:=ky (s[8]'(by omega));have b9:=ky (s[9]'(by omega));have i1:idx s 1=some (s[1]'(by omega)):=aX (i:=1) (by omega);have i8:idx s 8=some (s[8]'(by omega)):=aX (i:=8) (by omega);have i9:idx s 9=some (s[9]'(by omega)):=aX (i:=9) (by omega);simp only[ae,ab,bM,i1,i8,i9];rw[K8 (l:=s) 20 (show(20:Int)=((20:Nat):Int) from rfl) (by omega) (by omega),DN (by omega) (by omega),fQ (n:=(s[1]'(by omega)).toNat) (by omega),fQ (n:=(s[8]'(by omega)).toNat) (by omega),fQ (n:=(s[9]'(by omega)).toNat) (by omega)];have e:(((s[1]'(by omega)).toNat:Int),cx s 4,((s[8]'(by omega)).toNat:Int),((s[9]'(by omega)).toNat:Int),fg s 12,fg s 16,(s.take (cx s 2).toNat).drop 20)=JC s:=by grind[JC,bI]
 simp only[ab,e,aeJ];cases (ipR (JC s)).2<;>cases (ipR (JC s)).1==s.take (cx s 2).toNat<;>rfl
def aiN:dE:=(0,0,0,0,0,0,0,([]:Bytes))
def PJ (k:Int)(s:Bytes):dE:=(k,cx s 0,cx s 2,fg s 4,fg s 8,(bI s 13:Int),cx s 14,s.drop 20)
def Ug (k:Int)(s:Bytes):dE:=(k,cx s 0,cx s 2,0,0,0,0,s.drop 8)
def ud (a b k:Int)(s:Bytes):dE×Bool:=
 bif (k==6)&&decide ((s.length:Int)>=20) then(bif (D1 a b (PJ k s)).2&&((D1 a b (PJ k s)).1==s) then(PJ k s,true) else(aiN,false)) else
 bif (k==17)&&decide ((s.length:Int)>=8) then(bif (D1 a b (Ug k s)).2&&((D1 a b (Ug k s)).1==s) then(Ug k s,true) else(aiN,false)) else(aiN,false)
theorem Un (a b k:Int)(s:Bytes)(h:s.length<=10^9):qF a b k s=some (ud a b k s):=by
 unfold qF ud;simp only[sH s _ h,BS s _ h,ab];rw[show(aa (cond (k==6) (some (decide ((s.length:Int)>=20))) (some false)):(Bool->au (dE×Bool))->au (dE×Bool))=λK=>K ((k==6)&&decide ((s.length:Int)>=20)) from by funext K;cases k==6<;>rfl];rw[show(aa (cond (k==17) (some (decide ((s.length:Int)>=8))) (some false)):(Bool->au (dE×Bool))->au (dE×Bool))=λK=>K ((k==17)&&decide ((s.length:Int)>=8)) from by funext K;simp_all];simp only;cases h1:(k==6)&&decide ((s.length:Int)>=20)with
 |true=>
  simp only[ah,bE]at h1;have bb:=ky (s[13]'(by omega));have i:idx s 13=some (s[13]'(by omega)):=aX (i:=13) (by omega);have e:(k,cx s 0,cx s 2,fg s 4,fg s 8,((s[13]'(by omega)).toNat:Int),cx s 14,s.drop 20)=PJ k s:=by grind[PJ,bI]
  simp only[af,i,ab];rw[tc (l:=s) 20 (by omega) (show(20:Int)=((20:Nat):Int) from rfl),fQ (n:=(s[13]'(by omega)).toNat) (by omega)];simp only[ab,e,HE];cases (D1 a b (PJ k s)).2<;>cases (D1 a b (PJ k s)).1==s<;>rfl
 |false=>simp only[ae];cases h2:(k==17)&&decide ((s.length:Int)>=8)with|false=>rfl|true=>simp only[ah,bE]at h2;rw[tc (l:=s) 8 (by omega) (show(8:Int)=((8:Nat):Int) from rfl)];simp only[af,ab,show((k,cx s 0,cx s 2,0,0,0,0,s.drop 8):dE)=Ug k s from rfl,HE];cases (D1 a b (Ug k s)).2<;>cases (D1 a b (Ug k s)).1==s<;>rfl
theorem TE (a b k:Int)(s:Bytes)(h:s.length<=10^9):qo a b k s=some (ud a b k s):=by
 unfold qo ud;simp only[yf s _ h,BN s _ h,ab];rw[show(aa (cond (k==6) (some (decide ((s.length:Int)>=20))) (some false)):(Bool->au (dE×Bool))->au (dE×Bool))=λK=>K ((k==6)&&decide ((s.length:Int)>=20)) from by funext K;cases k==6<;>rfl];rw[show(aa (cond (k==17) (some (decide ((s.length:Int)>=8))) (some false)):(Bool->au (dE×Bool))->au (dE×Bool))=λK=>K ((k==17)&&decide ((s.length:Int)>=8)) from by funext K;simp_all];simp only;cases h1:(k==6)&&decide ((s.length:Int)>=20)with
 |true=>
  simp only[ah,bE]at h1;have bb:=ky (s[13]'(by omega));have i:idx s 13=some (s[13]'(by omega)):=aX (i:=13) (by omega);have e:(k,cx s 0,cx s 2,fg s 4,fg s 8,((s[13]'(by omega)).toNat:Int),cx s 14,s.drop 20)=PJ k s:=by grind[PJ,bI]
  simp only[af,i,ab];rw[tc (l:=s) 20 (by omega) (show(20:Int)=((20:Nat):Int) from rfl),fQ (n:=(s[13]'(by omega)).toNat) (by omega)];simp only[ab,e,Hi];cases (D1 a b (PJ k s)).2<;>cases (D1 a b (PJ k s)).1==s<;>rfl
 |false=>simp only[ae];cases h2:(k==17)&&decide ((s.length:Int)>=8)with|false=>rfl|true=>simp only[ah,bE]at h2;rw[tc (l:=s) 8 (by omega) (show(8:Int)=((8:Nat):Int) from rfl)];simp only[af,ab,show((k,cx s 0,cx s 2,0,0,0,0,s.drop 8):dE)=Ug k s from rfl,Hi];cases (D1 a b (Ug k s)).2<;>cases (D1 a b (Ug k s)).1==s<;>rfl
def pk0:aU:=(0,0,0,0,0,0,0,0,0,0,0,0,0,0,0,([]:Bytes))
def vL (s:Bytes):aU×Int:=
 let e:=fP s
 bif !e.2||(e.1.2.2.2.1 !=2048) then(pk0,2) else
 let i:=mw e.1.2.2.2.2
 bif !i.2 then(pk0,3) else
 let g:=ud i.1.2.2.2.2.1 i.1.2.2.2.2.2.1 i.1.2.2.2.1 i.1.2.2.2.2.2.2
 bif !g.2 then(pk0,4) else
 bif !eu (e.1.1,e.1.2.1,e.1.2.2.1,i.1.1,i.1.2.1,i.1.2.2.1,i.1.2.2.2.2.1,i.1.2.2.2.2.2.1,g.1) then(pk0,5) else
 ((e.1.1,e.1.2.1,e.1.2.2.1,i.1.1,i.1.2.1,i.1.2.2.1,i.1.2.2.2.2.1,i.1.2.2.2.2.2.1,g.1),0)
theorem FA (s:Bytes):(fP s).1.2.2.2.2.length<=s.length:=by grind[fP,agt,Oj,Ef]
theorem MM (s:Bytes):(mw s).1.2.2.2.2.2.2.length<=s.length:=by grind[mw,ip0,JC]
theorem Il (s:Bytes)(h:s.length<=10^9):iE s=some (vL s):=by
 have h1:=FA s;unfold iE vL;rw[Um s h,ab];generalize fP s=e at h1⊢;have h2:=MM e.1.2.2.2.2;simp only;cases e.2;rfl;cases e.1.2.2.2.1 !=2048;case true=>rfl
 simp only[ai,ae,ab,bM,WZ _ (show e.1.2.2.2.2.length<=10^9 by omega)];generalize mw e.1.2.2.2.2=i at h2⊢;cases i.2;rfl;simp only[ai,ae,ab,Un _ _ _ _ (show i.1.2.2.2.2.2.2.length<=10^9 by omega)];generalize ud i.1.2.2.2.2.1 i.1.2.2.2.2.2.1 i.1.2.2.2.1 i.1.2.2.2.2.2.2=g;cases g.2;rfl;simp only[ai,ae,ab,sI];cases eu (e.1.1,e.1.2.1,e.1.2.2.1,i.1.1,i.1.2.1,i.1.2.2.1,i.1.2.2.2.2.1,i.1.2.2.2.2.2.1,g.1)<;>rfl
theorem H7 (s:Bytes)(h:s.length<=10^9):iB s=some (vL s):=by
 have h1:=FA s;unfold iB vL;rw[Kn s h,ab];generalize fP s=e at h1⊢;have h2:=MM e.1.2.2.2.2;simp only;cases e.2;rfl;cases e.1.2.2.2.1 !=2048;case true=>rfl
 simp only[ai,ae,ab,bM,VW _ (show e.1.2.2.2.2.length<=10^9 by omega)];generalize mw e.1.2.2.2.2=i at h2⊢;cases i.2;rfl;simp only[ai,ae,ab,TE _ _ _ _ (show i.1.2.2.2.2.2.2.length<=10^9 by omega)];generalize ud i.1.2.2.2.2.1 i.1.2.2.2.2.2.1 i.1.2.2.2.1 i.1.2.2.2.2.2.2=g;cases g.2;rfl;simp only[ai,ae,ab,pN];cases eu (e.1.1,e.1.2.1,e.1.2.2.1,i.1.1,i.1.2.1,i.1.2.2.1,i.1.2.2.2.2.1,i.1.2.2.2.2.2.1,g.1)<;>rfl
def EC (s:Bytes):aU×Int:=
 let c:=ET s
 bif !c.2 then(pk0,1) else
 let r:=vL c.1
 bif r.2 !=0 then(pk0,r.2) else
 bif !jN r.1 then(pk0,5) else(r.1,0)
theorem Od (s:Bytes):(ET s).1.length<=s.length:=by grind[ET]
theorem ac2 (s:Bytes)(h:s.length<=10^9):xD s=some (EC s):=by
 have h1:=Od s;unfold xD EC;rw[ZB s h,ab];generalize ET s=c at h1⊢;simp only;cases c.2;rfl;simp only[ai,ae,ab,Il _ (show c.1.length<=10^9 by omega)];generalize vL c.1=r;cases r.2 !=0;case true=>rfl
 simp only[ae,ab,FN];cases jN r.1<;>rfl
theorem abS (s:Bytes)(h:s.length<=10^9):wB s=some (EC s):=by
 have h1:=Od s;unfold wB EC;rw[YC s h,ab];generalize ET s=c at h1⊢;simp only;cases c.2;rfl;simp only[ai,ae,ab,H7 _ (show c.1.length<=10^9 by omega)];generalize vL c.1=r;cases r.2 !=0;case true=>rfl
 simp only[ae,ab,E7];cases jN r.1<;>rfl
theorem fT (a:bt)(h:a.length<=1073741824:=by omega):de a=some a:=by simp_all[de,kT,aQ]
theorem hY (a:bt)(h:a.length<=1073741824:=by omega):dq a=some a:=by grind[dq,aQ]
theorem Nk (l:bt)(h:l.length<=10^9):kT l=some l:=by grind[kT,gm]
theorem OV (f:Filter)(h:f.2.2.length<=10^9):uH f=some f:=by grind[uH,ot,ab]
theorem PO (f:Filter)(h:f.2.2.length<=10^9):BF f=some f:=by simp only[BF,gm h,bU]
theorem AB (l:aq Stream)(h:l.length<=10^9:=by omega):kS l=some l:=by grind[kS,gm]
theorem QL (t:aq Slot)(h:t.length<=10^9):wI t=some t:=by grind[wI,gm]
theorem OW (s:gN)(h:s.2.length<=10^9):uI s=some s:=by grind[uI,ot,ab]
theorem QK (s:dY)(h1:s.1.length<=10^9)(h2:s.2.1.length<=10^9)(h3:s.2.2.2.length<=10^9):qt s=some s:=by simp only[qt,gm h1,QL _ h2,OW _ h3,ab,bU]
theorem Q2 (t:aq Slot)(h:t.length<=10^9):BA t=some t:=by grind[BA,gm]
theorem Q1 (s:dY)(h1:s.1.length<=10^9)(h2:s.2.1.length<=10^9)(h3:s.2.2.2.length<=10^9):BC s=some s:=by simp only[BC,gm h1,Q2 _ h2,gm h3,ab,bU]
theorem Sr (l:aq gH)(i:Nat)(hi:i<l.length):l.take i++[(l[i].1,l[i].2.1,l[i].2.2)]=l.take (i+1):=(bg hi).symm
theorem Kj (l:aq gH)(h:l.length<=10^9)(hx:∀x∈l,x.2.2.length<=10^9):tN l=some l:=by unfold tN;refine(cC (λi=>(l.take i,(i:Int))) l.length (by omega) (λi nx hi=>?_) (λnx=>?_));simp only[sr];rw[jF,aX hi,aj (by omega) (by omega)];simp only[af,ab,ot _ (hx _ (bc hi))];rw[aQ (by simp;omega),Sr l i hi];rfl;simp only[sr];rw[gr,cD];rfl
structure XM (t:bA):Prop where
 p:t.2.1.2.2.2.length<=10^9
 w:t.2.2.1.length<=10^9
 x:∀x∈t.2.2.1,x.2.2.length<=10^9
theorem Jy (t:bA)(z:XM t):qY t=some t:=by simp only[qY,vw _ z.p,Kj _ z.w z.x,ab]
theorem CR (t:bA)(z:XM t):jr t=some t:=by have h:=z.w;unfold jr;simp only[yi _ z.p,ab];refine(cC (λi=>((i:Int),t.1,t.2.1,t.2.2.1.take i,t.2.2.2)) t.2.2.1.length (by omega) (λi nx hi=>?_) (λnx=>?_));simp only[vj];rw[jF,aX hi,aj (by omega) (by omega)];simp only[af,ab,gm (z.x _ (bc hi)),bU];rw[aQ (by simp;omega),Sr _ i hi];rfl;simp only[vj];rw[gr,cD];rfl
theorem ahR (z:br 1000000000 cI h):XM h.2.2.1:=⟨z.2.2.1.2.1.2.2.2.1,z.2.2.1.2.2.1.1,λx hx=>(z.2.2.1.2.2.1.2 x hx).2.2.1⟩
theorem jh (h:Host)(z:br 1000000000 cI h):gy h=some h:=by have hp:h.2.2.2.2.1.length<=10^9:=z.2.2.2.2.1.1;have hm:h.1.length<=10^9:=z.1.1;unfold gy;simp only[fT _ (show h.1.length<=1073741824 by omega),wH,gm z.2.1.1,Jy _ (ahR z),gm z.2.2.2.1.1,ab,bU];refine(cC (λi=>((i:Int),h.1,h.2.1,h.2.2.1,h.2.2.2.1,h.2.2.2.2.1.take i,h.2.2.2.2.2)) h.2.2.2.2.1.length (by omega) (λi nx hi=>?_) (λnx=>?_));simp only[sq];rw[jF,aX hi,aj (by omega) (by omega)];simp only[af,ab,vw _ (z.2.2.2.2.1.2 _ (bc hi)).2.2.2.1];rw[aQ (by simp;omega),<-bg hi];rfl;simp only[sq];rw[gr,cD];simp only[ae,gm z.2.2.2.2.2.1.1,gm z.2.2.2.2.2.2.1.1,OV _ z.2.2.2.2.2.2.2.1.2.2.1,QK _ z.2.2.2.2.2.2.2.2.1.1.1 z.2.2.2.2.2.2.2.2.1.2.1.1 z.2.2.2.2.2.2.2.2.1.2.2.2.1,AB _ z.2.2.2.2.2.2.2.2.2.1.1,Nk _ z.2.2.2.2.2.2.2.2.2.2.2.1.1,ot _ z.2.2.2.2.2.2.2.2.2.2.2.2.1.1,ot _ z.2.2.2.2.2.2.2.2.2.2.2.2.2.1.1,ab,bU]
theorem jm (h:Host)(z:br 1000000000 cI h):hU h=some h:=by have hp:h.2.2.2.2.1.length<=10^9:=z.2.2.2.2.1.1;have hm:h.1.length<=10^9:=z.1.1;unfold hU;simp only[hY _ (show h.1.length<=1073741824 by omega),gm z.2.1.1,CR _ (ahR z),gm z.2.2.2.1.1,ab,bU];refine(cC (λi=>((i:Int),h.1,h.2.1,h.2.2.1,h.2.2.2.1,h.2.2.2.2.1.take i,h.2.2.2.2.2)) h.2.2.2.2.1.length (by omega) (λi nx hi=>?_) (λnx=>?_));simp only[vk];rw[jF,aX hi,aj (by omega) (by omega)];simp only[af,ab,yi _ (z.2.2.2.2.1.2 _ (bc hi)).2.2.2.1];rw[aQ (by simp;omega),<-bg hi];rfl;simp only[vk];rw[gr,cD];simp only[ae,gm z.2.2.2.2.2.1.1,gm z.2.2.2.2.2.2.1.1,PO _ z.2.2.2.2.2.2.2.1.2.2.1,Q1 _ z.2.2.2.2.2.2.2.2.1.1.1 z.2.2.2.2.2.2.2.2.1.2.1.1 z.2.2.2.2.2.2.2.2.1.2.2.2.1,gm z.2.2.2.2.2.2.2.2.2.1.1,gm z.2.2.2.2.2.2.2.2.2.2.2.1.1,gm z.2.2.2.2.2.2.2.2.2.2.2.2.1.1,gm z.2.2.2.2.2.2.2.2.2.2.2.2.2.1.1,ab,bU]
theorem aaf:∀l:aq gH,(ch l).length<=qK (.sl kJ) l
 |[]=>by simp[ch]
 |x::l=>by have:=aaf l;grind[ch,qK]
def atF (f:F6)(s:Stream):Bool:=decide (s.1=f)
def Nu (l:aq Stream)(f:F6):Int:=match l.findIdx? (atF f)with|some i=>(i:Int)|none=> -1
theorem afP (l:aq Stream)(f:F6)(h:l.length<=10^9):sS l f=some (Nu l f):=by unfold sS Nu;rw[HX (p:=atF f) (hit:=λi=>some i) (fin:=some (-1)) l (by omega) (λi hi nx=>?hs) (λnx=>?hf)];all_goals grind[tu,aX,aj,ab,atF]
theorem aeS (l:aq Stream)(f:F6)(h:l.length<=10^9):sf l f=some (Nu l f):=by unfold sf Nu;rw[HX (p:=atF f) (hit:=λi=>some i) (fin:=some (-1)) l (by omega) (λi hi nx=>?hs) (λnx=>?hf)];all_goals grind[tj,aX,aj,ab,atF]
def ZS:Stream:=((0,0,0,0,0),0,([]:Bytes),false)
def body (p:aU):Bytes:=p.2.2.2.2.2.2.2.2.2.2.2.2.2.2.2
def udp (p:aU):Bytes:=bW ((body p).length:Int)++body p
def Au (p:aU)(b:Int):Bool:=ak (toNat (fR p.2.2.2.2.2.2.2.2.2.2.2.2.2.1&&&fR b)) !=0
def qN (s:Stream)(p:aU):Int:=(s.2.1-p.2.2.2.2.2.2.2.2.2.2.2.1)%4294967296
def ahr (s:Stream)(p:aU):Stream:=(s.1,(s.2.1+((body p).length:Int)-qN s p)%4294967296,s.2.2.1++(body p).drop (qN s p).toNat,Au p 1)
def BW (l:aq Stream)(p:aU):aq Stream:=
 bif !eu p then l else
 match l.findIdx? (atF (mJ p))with
 |none=>
  bif p.2.2.2.2.2.2.2.2.1==17 then l++[(mJ p,0,udp p,false)] else
  bif Au p 2 then l++[(mJ p,tmod (ak (p.2.2.2.2.2.2.2.2.2.2.2.1+1)) 4294967296,([]:Bytes),false)] else l
 |some i=>
  bif p.2.2.2.2.2.2.2.2.1==17 then l.set i ((l.getD i ZS).1,(l.getD i ZS).2.1,(l.getD i ZS).2.2.1++udp p,(l.getD i ZS).2.2.2) else
  bif Au p 2 then l else
  bif (l.getD i ZS).2.2.2||Au p 4 then l else
  bif decide (qN (l.getD i ZS) p<=((body p).length:Int)) then l.set i (ahr (l.getD i ZS) p) else l
theorem UT (s:Stream)(p:aU):0<=qN s p/\qN s p<4294967296:=by unfold qN;omega
theorem ae6 (x:Int):ak (toNat (fR x&&&fR 4294967295))=x%4294967296:=by have:=Ed x 32;grind[aj]
theorem af8 (x:Int):ak x%4294967296=x%4294967296:=by have:=EK x 32;omega
theorem KS (l:aq α)(x y:α):(l++[x]).set l.length y=l++[y]:=by grind
theorem aar {l:aq α}{i:Nat}(h:i<l.length)(x:α):idx (l.set i x) (i:Int)=some x:=by rw[NJ,List.getElem?_set_self h]
theorem Bc (l:aq α)(x:α):idx (l++[x]) (l.length:Int)=some x:=by grind[NJ]
theorem N6 (h:eu p=true):(body p).length<=320:=yA h
theorem TA (l:aq Stream)(p:aU)(h:br 900000000 (.sl dF) l):Bf l p=some (BW l p):=by
 have hl:l.length<=900000000:=h.1;unfold Bf BW;simp only[AB l,pN,ab,OY,aeS l _ (show l.length<=10^9 by omega),la];cases hs:eu p;rfl;have hb:=N6 hs;have hw:=bu ((body p).length:Int);simp only[ai,ae];rw[show p.2.2.2.2.2.2.2.2.2.2.2.2.2.2.2=body p from rfl];cases hf:l.findIdx? (atF (mJ p))with
 |none=>
  have e1:Nu l (mJ p)= -1:=by rw[Nu,hf]
  simp only[e1,show decide ((-1:Int)<0)=true from rfl,af];cases p.2.2.2.2.2.2.2.2.1==17 with|true=>simp only[af];rw[aQ (by simp;omega),Bc,ab];simp only;rw[aQ (by omega),aQ (by simp only[aw,ej];omega),ab,ay];simp only[ab,Bc,KS,bU];rfl|false=>simp only[ae];rw[show(ak (toNat (fR p.2.2.2.2.2.2.2.2.2.2.2.2.2.1&&&fR 2)) !=0)=Au p 2 from rfl];cases Au p 2 with|true=>simp only[af];rw[mI,aQ (by simp;omega)]|false=>rfl
 |some i=>
  obtain⟨hi,_⟩:=List.findIdx?_eq_some_iff_getElem.1 hf;have hd:(l[i].2.2.1).length<=900000000:=(h.2 _ (bc hi)).2.2.1;have e1:Nu l (mJ p)=(i:Int):=by rw[Nu,hf]
  simp only[e1,ar (show¬(i:Int)<0 by omega),ae,aX hi,ab,fM hi,ay];cases p.2.2.2.2.2.2.2.2.1==17 with
  |true=>simp only[af];rw[aQ (by omega),aQ (by simp only[aw];omega)];rfl
  |false=>
   simp only[ae];rw[show(ak (toNat (fR p.2.2.2.2.2.2.2.2.2.2.2.2.2.1&&&fR 2)) !=0)=Au p 2 from rfl,show(ak (toNat (fR p.2.2.2.2.2.2.2.2.2.2.2.2.2.1&&&fR 4)) !=0)=Au p 4 from rfl,show(ak (toNat (fR p.2.2.2.2.2.2.2.2.2.2.2.2.2.1&&&fR 1)) !=0)=Au p 1 from rfl];cases Au p 2;case true=>rfl
   simp only[ae];rw[show(aa (cond l[i].2.2.2 (some true) (some (Au p 4))):(Bool->au (aq Stream))->au (aq Stream))=λK=>K (l[i].2.2.2||Au p 4) from by funext K;cases l[i].2.2.2<;>rfl];simp only;cases l[i].2.2.2||Au p 4;case true=>rfl
   simp only[ae,LV _ 4294967296,ab,af8];rw[show(l[i].2.1-p.2.2.2.2.2.2.2.2.2.2.2.1)%4294967296=qN l[i] p from rfl];have ha:=UT l[i] p;by_cases hq:qN l[i] p<=((body p).length:Int)
   rw[ax hq,tc (l:=body p) (qN l[i] p).toNat];simp only[af,ab];rw[aQ (by rw[bj];omega)];simp only[aar hi,ab,eo];refine congrArg some (congrArg (l.set i) ?_);simp only[ahr];rw[show(ak (l[i].2.1+((body p).length:Int))-qN l[i] p)%4294967296=(l[i].2.1+((body p).length:Int)-qN l[i] p)%4294967296 from by rw[Int.sub_emod,af8,<-Int.sub_emod]];rw[ar hq];rfl
theorem Uj (l:aq Stream)(p:aU)(h:br 900000000 (.sl dF) l):Bt l p=some (BW l p):=by
 have hl:l.length<=900000000:=h.1;unfold Bt BW;rw[gm (by omega)];simp only[bU,sI,ab,PR,afP l _ (show l.length<=10^9 by omega),ia];cases hs:eu p;rfl;have hb:=N6 hs;have hw:=bu ((body p).length:Int);simp only[ai,ae];rw[show p.2.2.2.2.2.2.2.2.2.2.2.2.2.2.2=body p from rfl];cases hf:l.findIdx? (atF (mJ p))with
 |none=>
  have e1:Nu l (mJ p)= -1:=by rw[Nu,hf]
  simp only[e1,show decide ((-1:Int)<0)=true from rfl,af];cases p.2.2.2.2.2.2.2.2.1==17 with|true=>simp only[af];rw[aQ (by simp;omega),Bc,ab];simp only;rw[aQ (by simp only[ej];omega),aQ (by simp only[aw,ej];omega),ab,ay];simp only[ab,Bc,KS,bU];rfl|false=>simp only[ae];rw[show(ak (toNat (fR p.2.2.2.2.2.2.2.2.2.2.2.2.2.1&&&fR 2)) !=0)=Au p 2 from rfl];cases Au p 2 with|true=>simp only[af];rw[mI,aQ (by simp;omega)]|false=>rfl
 |some i=>
  obtain⟨hi,_⟩:=List.findIdx?_eq_some_iff_getElem.1 hf;have hd:(l[i].2.2.1).length<=900000000:=(h.2 _ (bc hi)).2.2.1;have e1:Nu l (mJ p)=(i:Int):=by rw[Nu,hf]
  simp only[e1,ar (show¬(i:Int)<0 by omega),ae,aX hi,ab,fM hi,ay];cases p.2.2.2.2.2.2.2.2.1==17 with
  |true=>simp only[af];rw[aQ (by omega),aQ (by simp only[aw];omega),aN];rfl
  |false=>
   simp only[ae];rw[show(ak (toNat (fR p.2.2.2.2.2.2.2.2.2.2.2.2.2.1&&&fR 2)) !=0)=Au p 2 from rfl,show(ak (toNat (fR p.2.2.2.2.2.2.2.2.2.2.2.2.2.1&&&fR 4)) !=0)=Au p 4 from rfl,show(ak (toNat (fR p.2.2.2.2.2.2.2.2.2.2.2.2.2.1&&&fR 1)) !=0)=Au p 1 from rfl];cases Au p 2;case true=>rfl
   simp only[ae];rw[show(aa (cond l[i].2.2.2 (some true) (some (Au p 4))):(Bool->au (aq Stream))->au (aq Stream))=λK=>K (l[i].2.2.2||Au p 4) from by funext K;cases l[i].2.2.2<;>rfl];simp only;cases l[i].2.2.2||Au p 4;case true=>rfl
   simp only[ae,ae6,ab,af8];rw[show(l[i].2.1-p.2.2.2.2.2.2.2.2.2.2.2.1)%4294967296=qN l[i] p from rfl];have ha:=UT l[i] p;by_cases hq:qN l[i] p<=((body p).length:Int)
   rw[ax hq,tc (l:=body p) (qN l[i] p).toNat];simp only[af,ab];rw[aQ (by rw[bj];omega)];simp only[aar hi,ab,eo,aF (show¬(4294967296:Nat)=0 by omega)];refine congrArg some (congrArg (l.set i) ?_);simp only[ahr];have e:tmod (ak (ak (l[i].2.1%4294967296+((body p).length:Int))-qN l[i] p)) 4294967296=(l[i].2.1+((body p).length:Int)-qN l[i] p)%4294967296:=by rw[aj (n:=l[i].2.1%4294967296+((body p).length:Int)) (by omega) (by omega),aj (by omega) (by omega),eP (by omega)];omega
   rw[e];rw[ar hq];rfl
theorem S8 {l:aq Stream}{n:Nat}(h:br n (.sl dF) l):br (n+322) (.sl dF) (BW l p):=by
 have h':br (n+322) (.sl dF) l:=h.mono;unfold BW;cases hs:eu p;exact h';have hb:=N6 hs;have hw:=bu ((body p).length:Int);have hu:(udp p).length<=322:=by simp only[udp,aw];omega
 simp only[ai,ae];have app:∀x:Stream,x.2.2.1.length<=n+322->br (n+322) (.sl dF) (l++[x]):=by intro x hx;refine⟨?_,λy hy=>?_⟩;have:l.length<=n:=h.1;simp only[aw,bf];omega;rcases az.1 hy with g|g;exact h'.2 y g;rw[eL.1 g];exact⟨⟨bN,bN,bN,bN,bN⟩,bN,hx,bN⟩
 have put:∀(i:Nat)(x:Stream),x.2.2.1.length<=n+322->br (n+322) (.sl dF) (l.set i x):=by intro i x hx;refine⟨?_,λy hy=>?_⟩;show(l.set i x).length<=_;rw[aH];exact h'.1;rcases List.mem_or_eq_of_mem_set hy with g|rfl;exact h'.2 y g;exact⟨⟨bN,bN,bN,bN,bN⟩,bN,hx,bN⟩
 split;cases p.2.2.2.2.2.2.2.2.1==17 with|true=>exact app _ (show(udp p).length<=_ by omega)|false=>cases Au p 2 with|true=>exact app _ (dR _)|false=>exact h'
 ·rename_i i hf;obtain⟨hi,_⟩:=List.findIdx?_eq_some_iff_getElem.1 hf;have hd:(l[i].2.2.1).length<=n:=(h.2 _ (bc hi)).2.2.1;simp only[fM hi];cases p.2.2.2.2.2.2.2.2.1==17 with
  |true=>exact put _ _ (by simp only[aw];omega)
  |false=>
   cases Au p 2;case true=>exact h'
   cases l[i].2.2.2||Au p 4;case true=>exact h'
   cases decide (qN l[i] p<=((body p).length:Int))with|false=>exact h'|true=>exact put _ _ (by simp only[ahr,aw,bj];omega)
theorem jt {y:Bytes}{i:Nat}(h:i<x.length):bI (x++y) i=bI x i:=by grind[bI]
theorem vu {y:Bytes}{i:Nat}(h:x.length<=i):bI (x++y) i=bI y (i-x.length):=by grind[bI]
theorem U4 {i n:Nat}(h:i<n):bI (x.take n) i=bI x i:=by grind[bI]
theorem oq {i n:Nat}:bI (x.drop n) i=bI x (n+i):=by grind[bI]
theorem aaH {p:Bytes}{i:Nat}(h:i<a\/a+p.length<=i):bI (xo s (a:Int) p) i=bI s i:=by
 unfold xo fJ;by_cases hw:(0:Int)<=a/\(a:Int)+(p.length:Int)<=(s.length:Int)
 rw[ax hw,af,ay];have ht:(s.take a).length=a:=by rw[bm];omega
 rcases h with h|h;rw[jt (by rw[aw];omega),jt (by omega),U4 h];rw[vu (by rw[aw];omega),oq,aw,ht];congr 1;omega;rw[ar hw];rfl
theorem aaG {p:Bytes}{j:Nat}(hw:a+p.length<=s.length)(hj:j<p.length):bI (xo s (a:Int) p) (a+j)=bI p j:=by unfold xo fJ;rw[ax ⟨by omega,by omega⟩,af,ay];grind[jt,vu]
theorem yc:cx s (a:Int)=bif decide (a+2<=s.length) then((bI s a*256+bI s (a+1):Nat):Int) else-1:=by grind[cx,fJ]
theorem G6 (hl:s.length=t.length)(h0:bI s a=bI t a)(h1:bI s (a+1)=bI t (a+1)):cx s (a:Int)=cx t (a:Int):=by grind[yc]
theorem OD {k:Nat}:cx (s.drop k) (a:Int)=cx s ((k+a:Nat):Int):=by rw[yc,yc,oq,oq,bj,show k+(a+1)=k+a+1 by omega,show decide (a+2<=s.length-k)=decide (k+a+2<=s.length) from decide_eq_decide.2 (by omega)]
theorem H3:fg s (a:Int)=bif decide (a+4<=s.length) then(((bI s a*256+bI s (a+1))*65536+(bI s (a+2)*256+bI s (a+3)):Nat):Int) else-1:=by grind[fg,fJ]
theorem OE {k:Nat}:fg (s.drop k) (a:Int)=fg s ((k+a:Nat):Int):=by rw[H3,H3,oq,oq,oq,oq,bj,show k+(a+1)=k+a+1 by omega,show k+(a+2)=k+a+2 by omega,show k+(a+3)=k+a+3 by omega,show decide (a+4<=s.length-k)=decide (k+a+4<=s.length) from decide_eq_decide.2 (by omega)]
theorem Vu (hl:s.length=t.length)(h:∀j,j<4->bI s (a+j)=bI t (a+j)):fg s (a:Int)=fg t (a:Int):=by rw[H3,H3,hl,show bI s a=bI t a from h 0 (by omega),h 1 (by omega),h 2 (by omega),h 3 (by omega)]
def bX (s:Bytes):Nat:=bif cx s 12==33024 then 18 else 14
def iL (s:Bytes):Nat:=bI s (bX s+9)
def Ns (k:Nat):Nat:=bif (k:Int)==6 then 16 else 6
def xO (s:Bytes):Nat:=bX s+10
def rG (s:Bytes):Nat:=bX s+20+Ns (iL s)
theorem Ir (k:Nat):Ns k=16/\k=6\/Ns k=6/\k≠6:=by grind[Ns]
theorem JW (s:Bytes):bX s=18/\(cx s 12==33024)=true\/bX s=14/\(cx s 12==33024)=false:=by grind[bX]
theorem LG (k:Nat)(h:k<256):fu (k:Int)=some (Ns k:Int):=by grind[fu,Ns]
theorem Kt (s:Bytes)(h:s.length<=10^9):re s=some ((xO s:Int),(rG s:Int)):=by
 unfold re;rw[yf s 12 h,ab];have hk:=eY s (bX s+9)
 have core:∀o:Nat,bX s=o->(o=18\/o=14)->(bif decide (ak ((o:Int)+9)<(s.length:Int)) then
  aa (idx s (ak ((o:Int)+9))) λx2=>aa (fu (ak ((UInt8.toNat x2:Int)))) λr3=>some (ak ((o:Int)+10),ak ((ak ((o:Int)+20))+r3))
  else aa (fu 0) λr4=>some (ak ((o:Int)+10),ak ((ak ((o:Int)+20))+r4)))=some ((xO s:Int),(rG s:Int)):=by
  intro o ho h2
  have hs:=Ir (iL s)
  rw[aj (n:=(o:Int)+9) (by omega) (by omega),aj (n:=(o:Int)+10) (by omega) (by omega),aj (n:=(o:Int)+20) (by omega) (by omega)]
  unfold xO rG
  rw[ho]
  by_cases hl:o+9<s.length
  ·obtain⟨x,hx,ex⟩:=ki hl
   rw[jF,af,show(o:Int)+9=((o+9:Nat):Int) by omega,hx,ab,ex,fQ (by rw[<-ho];omega),LG _ (by rw[<-ho];exact hk),ab,show bI s (o+9)=iL s by unfold iL;rw[ho],aj (by omega) (by omega)]
   congr 1
  ·have hz:iL s=0:=by unfold iL;rw[ho];exact Ji
   have h0:fu 0=some (Ns 0:Int):=LG 0 (by omega)
   rw[gr,ae,h0,ab,<-hz,aj (by omega) (by omega)]
   congr 1
 rcases JW s with⟨h1,h2⟩|⟨h1,h2⟩;rw[h2,af];exact core 18 h1 (.inl rfl);rw[h2,ae];exact core 14 h1 (.inr rfl)
theorem PW (s:Bytes)(h:s.length<=10^9):xK s=some (bif decide (s.length<bX s+46) then(-1, -1) else((xO s:Int),(rG s:Int))):=by
 unfold xK;rw[sH s 12 h,ab];have hk:=eY s (bX s+9)
 have core:∀o:Nat,bX s=o->(o=18\/o=14)->(bif decide ((s.length:Int)<ak ((o:Int)+46)) then some ((-1),(-1)) else
  aa (idx s (ak ((o:Int)+9))) λx2=>bif (ak ((UInt8.toNat x2:Int)))==6 then some (ak ((o:Int)+10),ak ((o:Int)+36)) else some (ak ((o:Int)+10),ak ((o:Int)+26)))=some (bif decide (s.length<bX s+46) then(-1, -1) else((xO s:Int),(rG s:Int))):=by
  intro o ho h2
  rw[aj (n:=(o:Int)+9) (by omega) (by omega),aj (n:=(o:Int)+10) (by omega) (by omega),aj (n:=(o:Int)+46) (by omega) (by omega),aj (n:=(o:Int)+36) (by omega) (by omega),aj (n:=(o:Int)+26) (by omega) (by omega),ho]
  by_cases hl:s.length<o+46
  ·rw[ax (show(s.length:Int)<(o:Int)+46 by omega),ax hl];rfl
  ·obtain⟨x,hx,ex⟩:=ki (s:=s) (i:=o+9)
   rw[ar (show¬(s.length:Int)<(o:Int)+46 by omega),ar hl,ae,ae,show(o:Int)+9=((o+9:Nat):Int) by omega,hx,ab,ex,fQ (by rw[<-ho];omega),show bI s (o+9)=iL s by unfold iL;rw[ho]]
   unfold xO rG Ns
   rw[ho]
   cases (iL s:Int)==6 with
   |true=>simp only[af];congr 2
   |false=>simp only[ae];congr 2
 rcases JW s with⟨h1,h2⟩|⟨h1,h2⟩;rw[h2,af];exact core 18 h1 (.inl rfl);rw[h2,ae];exact core 14 h1 (.inr rfl)
theorem aaB {a:Int}(h:dI a 0 281474976710655=true):(XE a).length=6:=by
 have ha:=bO.1 h;have e:XE a=bW (fdiv a (2^(rL 32)))++jd (ak (toNat (fR a&&&fR 4294967295))):=by grind[XE,iQ,ia,mS,ab,bu,dH,aQ]
 grind[IntKind.bits,JQ,Qn,ae6,bO]
theorem MC (h:eu p=true):bX (eS p).1+46<=(eS p).1.length:=by
 have hh:Mx p=true:=by simp only[eu,ah]at h;exact h.1
 have hp:=T3 (ipP p).1;have hi:=Eo h;unfold eS agu Vg at hi⊢;rw[h,af]at hi⊢;cases he:B0 (p.1,p.2.1,p.2.2.1,2048,pad (ipP p).1)with|false=>rw[he]at hi;cases hi|true=>?_
 simp only[af];simp only[Mx,ah]at hh;have m1:=aaB hh.1;have m2:=aaB hh.2.1;have hv:=bO.1 hh.2.2.1;have w1:(bW 33024).length=2:=rfl;have w3:(bW 2048).length=2:=rfl;generalize pad (ipP p).1=bd at hp⊢;unfold Rr;simp only;generalize XE p.1=M1 at m1⊢;generalize XE p.2.1=M2 at m2⊢;by_cases hc:p.2.2.1>=0;have w2:(bW p.2.2.1).length=2:=by rw[JQ,bO.2 (by omega)];rfl
 rw[ax hc,af];have hb:bX (((((M1++M2)++bW 33024)++bW p.2.2.1)++bW 2048)++bd)=18:=by
  unfold bX;have e12:cx (((((M1++M2)++bW 33024)++bW p.2.2.1)++bW 2048)++bd) ((12:Nat):Int)=33024:=by rw[yc,ax (by simp only[aw];omega),af];rw[jt (by simp only[aw];omega),jt (by simp only[aw];omega),jt (by simp only[aw];omega),vu (by simp only[aw];omega)];rw[jt (by simp only[aw];omega),jt (by simp only[aw];omega),jt (by simp only[aw];omega),vu (by simp only[aw];omega)];rw[aw,m1,m2];rfl
  rw[show(12:Int)=((12:Nat):Int) from rfl,e12];rfl
 rw[hb];simp only[aw];omega;rw[ar hc,ae];have hb:bX (((M1++M2)++bW 2048)++bd)=14:=by
  unfold bX;have e12:cx (((M1++M2)++bW 2048)++bd) ((12:Nat):Int)=2048:=by rw[yc,ax (by simp only[aw];omega),af];rw[jt (by simp only[aw];omega),vu (by simp only[aw];omega)];rw[jt (by simp only[aw];omega),vu (by simp only[aw];omega)];rw[aw,m1,m2];rfl
  rw[show(12:Int)=((12:Nat):Int) from rfl,e12];rfl
 rw[hb];simp only[aw];omega
def qx (t:Bytes)(x y:Bytes):Bytes:=xo (xo t (xO t:Int) x) (rG t:Int) y
theorem DJ (t x y:Bytes):(qx t x y).length=t.length:=by grind[qx,Ag]
def iR (p:aU):Bytes×Bool:=bif eu p then(qx (eS p).1 (bW 0) (bW 0),true) else([],false)
theorem VN (h:eu p=false):eS p=([],false):=by grind[eS]
theorem RV (p:aU):mL p=some (iR p):=by have hl:=ye p;have w0:=bu 0;unfold mL iR qx;rw[H6,ab];cases h:eu p with|false=>rw[VN h];rfl|true=>rw[Eo h];simp only[ai,ae,af,Kt _ (show(eS p).1.length<=10^9 by omega),ab,la,E8 _ _ _ (show(eS p).1.length<=10^9 by omega) (show(bW 0).length<=10^9 by omega),E8 _ _ _ (show(xo (eS p).1 (xO (eS p).1:Int) (bW 0)).length<=10^9 by rw[Ag];omega) (show(bW 0).length<=10^9 by omega)]
theorem SB (p:aU):mV p=some (iR p):=by have hl:=ye p;unfold mV iR qx;rw[Ik,ab];cases h:eu p with|false=>rw[VN h];rfl|true=>grind[MC,Eo,PW,ab,ia,FP,bW,Ag]
def F7 (s t:Bytes):Prop:=s.length=t.length/\∀i,i<xO t\/(xO t+2<=i/\i<rG t)\/rG t+2<=i->bI s i=bI t i
theorem Af (t:Bytes):(bX t=14\/bX t=18)/\xO t=bX t+10/\bX t+26<=rG t/\rG t<=bX t+36/\(rG t=bX t+36/\iL t=6\/rG t=bX t+26/\iL t≠6):=by grind[JW,Ir,xO,rG]
theorem I1 (t:Bytes){y:Bytes}(hx:x.length<=2)(hy:y.length<=2):F7 (qx t x y) t:=by have:=Af t;refine⟨DJ t x y,λi hi=>?_⟩;grind[qx,aaH]
theorem F7.body (h:F7 s t):bX s=bX t:=by have:=Af t;unfold bX;have e:cx s ((12:Nat):Int)=cx t ((12:Nat):Int):=G6 h.1 (h.2 _ (by omega)) (h.2 _ (by omega));grind
theorem F7.kind (h:F7 s t):iL s=iL t:=by have:=Af t;unfold iL;rw[h.body,h.2 _ (by omega)]
theorem F7.aiJ (h:F7 s t):xO s=xO t/\rG s=rG t:=by unfold xO rG;rw[h.body,h.kind];exact⟨rfl,rfl⟩
theorem F7.ajF (h:F7 s t):cx s ((bX t+2:Nat):Int)=cx t ((bX t+2:Nat):Int):=by have:=Af t;exact G6 h.1 (h.2 _ (by omega)) (h.2 _ (by omega))
structure TOk (t:Bytes):Prop where
 eth:(fP t).2=true
 bd:(fP t).1.2.2.2.2=t.drop (bX t)
 l1:bX t+46<=t.length
 n1:20+Ns (iL t)+2<=cx t ((bX t+2:Nat):Int)
 n2:cx t ((bX t+2:Nat):Int)<=(t.length:Int)-(bX t:Int)
theorem L4 (h:(fP s).2=true):(fP s).1.2.2.2.2=s.drop (bX s)/\18<=s.length/\46<=s.length-bX s/\s.length-bX s<=400:=by
 unfold fP at h⊢;by_cases h8:(s.length:Int)<18;rw[ax h8]at h;cases h;rw[ar h8]at h⊢;simp only[ae]at h⊢;rcases JW s with⟨h1,h2⟩|⟨h1,h2⟩;rw[h2]at h⊢;simp only[af]at h⊢;cases he:B0 (Oj s)with|false=>rw[he]at h;cases h|true=>rw[h1];simp only[B0,ah,bO,Oj,bj]at he;simp only[af,Oj];refine⟨bN,by omega,by omega,by omega⟩
 rw[h2]at h⊢;simp only[ae]at h⊢;cases he:B0 (Ef s)with|false=>rw[he]at h;cases h|true=>rw[h1];simp only[B0,ah,bO,Ef,bj]at he;simp only[af,Ef];refine⟨bN,by omega,by omega,by omega⟩
theorem afv (h:(vL s).2=0):(fP s).2=true/\(mw (fP s).1.2.2.2.2).2=true/\eu (vL s).1=true/\ (ud (mw (fP s).1.2.2.2.2).1.2.2.2.2.1 (mw (fP s).1.2.2.2.2).1.2.2.2.2.2.1 (mw (fP s).1.2.2.2.2).1.2.2.2.1 (mw (fP s).1.2.2.2.2).1.2.2.2.2.2.2).2=true:=by grind[vL]
theorem afq {b:Bytes}(h:(mw b).2=true):20<=cx b 2/\cx b 2<=(b.length:Int)/\(mw b).1=JC b:=by grind[mw]
theorem acI {a b k:Int}(h:(ud a b k s).2=true):k=6/\20<=s.length\/k=17/\8<=s.length:=by grind[ud]
theorem abn (hl:s.length=t.length)(h:∀i,i<18->bI s i=bI t i)(hs:(fP s).2=true):(fP t).2=true:=by
 have g16:∀a,a+2<=18->cx s ((a:Nat):Int)=cx t ((a:Nat):Int):=λa ha=>G6 hl (h _ (by omega)) (h _ (by omega));have g32:∀a,a+4<=18->fg s ((a:Nat):Int)=fg t ((a:Nat):Int):=λa ha=>Vu hl (λj hj=>h _ (by omega));have e0:IV s 0=IV t 0:=by unfold IV;rw[show(0:Int)=((0:Nat):Int) from rfl,g16 0 (by omega),show((0:Nat):Int)+2=((2:Nat):Int) from rfl,g32 2 (by omega)]
 have e6:IV s 6=IV t 6:=by unfold IV;rw[show(6:Int)=((6:Nat):Int) from rfl,g16 6 (by omega),show((6:Nat):Int)+2=((8:Nat):Int) from rfl,g32 8 (by omega)]
 grind[cx,B0,Oj,Ef,fP]
theorem aiT (ha:F7 s t)(h:(vL s).2=0):TOk t:=by
 have hp:=Af t;obtain⟨h1,h2,_,h4⟩:=afv h;have he:=L4 h1;rw[he.1]at h2 h4;have hi:=afq h2;have hs:=acI h4;rw[hi.2.2]at hs;have e1:(fP t).2=true:=abn ha.1 (λi hi=>ha.2 i (by omega)) h1;have e2:=L4 e1;have en:cx (s.drop (bX s)) 2=cx t ((bX t+2:Nat):Int):=by have:cx (s.drop (bX s)) ((2:Nat):Int)=cx s ((bX s+2:Nat):Int):=OD;rw[show(2:Int)=((2:Nat):Int) from rfl,this,ha.body,ha.ajF]
 have ek:(JC (s.drop (bX s))).2.2.2.1=(iL t:Int):=by show(bI (s.drop (bX s)) 9:Int)=_;rw[oq,<-ha.kind];rfl
 have eg:(JC (s.drop (bX s))).2.2.2.2.2.2.length=(cx t ((bX t+2:Nat):Int)).toNat-20:=by show(((s.drop (bX s)).take (cx (s.drop (bX s)) 2).toNat).drop 20).length=_;grind
 rw[ek,eg]at hs;rw[en]at hi;have hn:=hi.2.1;rw[bj,ha.1,ha.body]at hn;have hk:=Ir (iL t);exact⟨e1,e2.1,by omega,by omega,by omega⟩
theorem adk (h:(iR p).1=t)(hs:eu p=true)(ht:TOk t):cx t (xO t:Int)=0/\cx t (rG t:Int)=0:=by
 unfold iR at h;rw[hs]at h;simp only[af]at h;have w0:(bW 0).length=2:=rfl;have ha:F7 (qx (eS p).1 (bW 0) (bW 0)) (eS p).1:=I1 _ (by omega) (by omega);rw[h]at ha;have hp:=Af t;have C3:=ha.aiJ;have hl:=ht.l1;have AA:=ha.1;have EM:=ht.n1;have C2:=ht.n2;have hk:=Ir (iL t);have hB:rG t+2<=t.length:=by omega
 have b0:bI (bW 0) 0=0:=rfl;have b1:bI (bW 0) 1=0:=rfl;rw[yc,yc,jF,ax hB,af,af];have eB:∀j,j<2->bI t (rG t+j)=bI (bW 0) j:=by intro j hj;rw[<-h];unfold qx;rw[show rG (xo (xo (eS p).1 (xO (eS p).1:Int) (bW 0)) (rG (eS p).1:Int) (bW 0))=rG (eS p).1 from by have:=C3.2;rw[<-h]at this;exact this];simp_all[aaG,Ag]
 have eA:∀j,j<2->bI t (xO t+j)=bI (bW 0) j:=by intro j hj;rw[<-h];unfold qx;rw[show xO (xo (xo (eS p).1 (xO (eS p).1:Int) (bW 0)) (rG (eS p).1:Int) (bW 0))=xO (eS p).1 from by have:=C3.1;rw[<-h]at this;exact this];simp(disch:=omega)[aaH,aaG]
 grind
theorem Oc (s:Bytes):aM (dp s)=s:=by simp_all[aM,dp,List.map_congr_left]
theorem aeV (s t:Bytes):dp (s++t)=dp s++dp t:=List.map_append
theorem Ky (s:Bytes):(dp s).length=s.length:=cr ..
theorem NQ (l:aq α)(i j:Nat)(h:i<=j)(h2:j<=l.length):sub l (i:Int) (j:Int)=some ((l.drop i).take (j-i)):=by grind[sub,List.take_drop]
theorem aa0 (a k:Nat):Int.tdiv (a:Int) (k:Int)=((a/k:Nat):Int):=(Int.ofNat_tdiv a k).symm
theorem Xf (a k:Nat):tmod (a:Int) (k:Int)=((a%k:Nat):Int):=(Int.ofNat_tmod a k).symm
theorem mem_iff:gQ m=true↔(∀x∈m,x.length=128)/\m.length<=64:=by grind[gQ]
theorem Vo:∀{m:bt},(∀x∈m,x.length=128)->m.flatten.length=128*m.length
 |[],_=>rfl
 |x::m,h=>by have:=Vo (m:=m) (λy hy=>h y (by simp[hy]));grind
theorem Rz:∀{m:bt}(_:∀x∈m,x.length=128)(p:Nat)(hp:p<m.length)(o c:Nat),o+c<=128->(m.flatten.drop (128*p+o)).take c=(m[p].drop o).take c
 |x::m,h,0,hp,o,c,ho=>by grind
 |x::m,h,p+1,hp,o,c,ho=>by have hx:=h x (by simp);simp only[List.flatten_cons,List.getElem_cons_succ];rw[show 128*(p+1)+o=x.length+(128*p+o) by omega,List.drop_length_add_append];exact Rz (m:=m) (λy hy=>h y (by simp[hy])) p (by simpa using hp) o c ho
def AW (m:bt)(a n:Nat):Bytes:=(m.flatten.drop a).take n
theorem ED {n:Nat}(h:gQ m=true)(hn:a+n<=128*m.length):(AW m a n).length=n:=by have:=Vo (mem_iff.1 h).1;grind[AW]
theorem afw (m:bt)(a n:Nat):(AW m a n).length<=n:=by simp[AW];omega
theorem Sk (m:bt)(a k c:Nat):AW m a (k+c)=AW m a k++AW m (a+k) c:=by grind[AW,ec]
theorem PB (h:gQ m=true){p:Nat}(hp:p<m.length){o:Nat}(ho:o+c<=128)(ha:a=128*p+o):(m[p].drop o).take c=AW m a c:=by subst ha;exact(Rz (mem_iff.1 h).1 p hp o c ho).symm
def gG (m:bt)(a n:Int):Bool:=gQ m&&decide (0<=n/\0<=a/\a+n<=128*(m.length:Int))
theorem Hj (m:bt)(a n:Int)(h:m.length<=10^9):vC m a n=some (gG m a n):=by unfold vC gG;rw[Jz m h,ab,aj (n:=(m.length:Int)*128) (by omega) (by omega)];cases hm:gQ m with|false=>rfl|true=>simp only[af,bF];by_cases h1:n>=0;by_cases h2:n<=(m.length:Int)*128;rw[aj (n:=(m.length:Int)*128-n) (by omega) (by omega)];by_cases h3:a>=0;simp only[ax h1,ax h2,ax h3,af,ab];exact congrArg some (decide_eq_decide.2 (by omega));simp only[ax h1,ax h2,ar h3,af,ae,ab];exact congrArg some (gr).symm;simp only[ax h1,ar h2,af,ae,ab];exact congrArg some (gr).symm;simp only[ar h1,ae,ab];exact congrArg some (gr).symm
theorem HG (m:bt)(a n:Int)(h:m.length<=10^9):lr m a n=some (gG m a n):=by unfold lr gG;rw[FL m h,ab,aj (n:=128*(m.length:Int)) (by omega) (by omega)];cases hm:gQ m with|false=>rfl|true=>simp only[af,bF];by_cases h1:n>=0;by_cases h3:a>=0;by_cases h2:a<=128*(m.length:Int);rw[aj (n:=128*(m.length:Int)-a) (by omega) (by omega)];simp only[ax h1,ax h2,ax h3,af,ab];exact congrArg some (decide_eq_decide.2 (by omega));simp only[ax h1,ar h2,ax h3,af,ae,ab];exact congrArg some (gr).symm;simp only[ax h1,ar h3,af,ae,ab];exact congrArg some (gr).symm;simp only[ar h1,ae,ab];exact congrArg some (gr).symm
theorem Kq (hm:gQ m=true)(K:Int->ew->au R):∀(n r k a f:Nat),r<=n->n<f->a+k+r<=128*m.length->
 aI (lg K ((k+r:Nat):Int) m) f (((a+k:Nat):Int),dp (AW m a k))=K ((a+k+r:Nat):Int) (dp (AW m a (k+r)))
 |n,r,k,a,0,_,hf,_=>by omega
 |n,0,k,a,f+1,hr,hf,hb=>by grind[aI,lg,Ky,ED]
 |0,r+1,k,a,f+1,hr,hf,hb=>by omega
 |n+1,r+1,k,a,f+1,hr,hf,hb=>by
  have h64:=(mem_iff.1 hm).2;have hl:=ED hm (show a+k<=128*m.length by omega);obtain⟨p,hp⟩:∃p,(a+k)/128=p:=⟨_,rfl⟩
  obtain⟨o,ho⟩:∃o,(a+k)%128=o:=⟨_,rfl⟩
  have hpo:a+k=128*p+o:=by omega
  have ho2:o<128:=by omega
  have C3:p<m.length:=by omega
  obtain⟨c,hc⟩:∃c,min (r+1) (128-o)=c:=⟨_,rfl⟩
  have hpg:=(mem_iff.1 hm).1 _ (bc C3);have e1:Int.tdiv ((a+k:Nat):Int) 128=(p:Int):=by grind
  have e2:tmod ((a+k:Nat):Int) 128=(o:Int):=by grind
  have key:=Kq hm K n (r+1-c) (k+c) a f (by omega) (by omega) (by omega);rw[aI];simp only[lg,Ky,hl,e1,e2];rw[jF,af,mI,aj (n:=(p:Int)) (by omega) (by omega),aX C3,ab,mI];rw[aj (n:=(o:Int)+((k+(r+1):Nat):Int)) (by omega) (by omega),aj (n:=(o:Int)+((k+(r+1):Nat):Int)-(k:Int)) (by omega) (by omega)];rw[show(if(o:Int)+((k+(r+1):Nat):Int)-(k:Int)<128 then(o:Int)+((k+(r+1):Nat):Int)-(k:Int) else 128)=((o+c:Nat):Int) by split<;>omega];rw[NQ _ _ _ (by omega) (by omega),ab,show o+c-o=c by omega,PB hm C3 (show o+c<=128 by omega) hpo];have AA:=ED hm (show a+k+c<=128*m.length by omega);rw[AA,aQ (by omega),aj (by omega) (by omega),<-aeV,<-Sk];grind
theorem aeP (m:bt)(a n:Int)(h:m.length<=10^9):po m a n=some (bif gG m a n then(AW m a.toNat n.toNat,true) else([],false)):=by have xS:=cR;unfold po;rw[Hj m a n h,ab];cases hw:gG m a n with|false=>rfl|true=>simp only[gG,ah,bE]at hw;obtain⟨hm,h1,h2,h3⟩:=hw;have h64:=(mem_iff.1 hm).2;simp only[ai,ae,af];rw[zip,aQ (by omega)];obtain⟨a,rfl⟩:=aJ h2;obtain⟨n,rfl⟩:=aJ h1;have:=Kq hm (λ(y4:Int) (y5:ew)=>some (aM y5,true)) n n 0 a fuel (by omega) (by omega) (by omega);rw[cm,dM]at this;refine Eq.trans this ?_;simp only[Oc,ay]
theorem K1 (hm:gQ m=true)(K:Int->Int->Bytes->au R):∀(n r k a f:Nat),r<=n->n<f->a+k+r<=128*m.length->
 aI (oY K m) f (((a+k:Nat):Int),(r:Int),AW m a k)=K ((a+k+r:Nat):Int) 0 (AW m a (k+r))
 |n,r,k,a,0,_,hf,_=>by omega
 |n,0,k,a,f+1,hr,hf,hb=>by rfl
 |0,r+1,k,a,f+1,hr,hf,hb=>by omega
 |n+1,r+1,k,a,f+1,hr,hf,hb=>by
  have h64:=(mem_iff.1 hm).2;have hl:=ED hm (show a+k<=128*m.length by omega);obtain⟨p,hp⟩:∃p,(a+k)/128=p:=⟨_,rfl⟩
  obtain⟨o,ho⟩:∃o,(a+k)%128=o:=⟨_,rfl⟩
  have hpo:a+k=128*p+o:=by omega
  have ho2:o<128:=by omega
  have C3:p<m.length:=by omega
  obtain⟨c,hc⟩:∃c,min (r+1) (128-o)=c:=⟨_,rfl⟩
  have hpg:=(mem_iff.1 hm).1 _ (bc C3);have e1:Int.tdiv ((a+k:Nat):Int) 128=(p:Int):=by grind
  have e2:tmod ((a+k:Nat):Int) 128=(o:Int):=by grind
  have key:=K1 hm K n (r+1-c) (k+c) a f (by omega) (by omega) (by omega);rw[aI];simp only[oY,e1,e2];rw[jF,af,mI,mI,aj (n:=(p:Int)) (by omega) (by omega),aX C3,ab];rw[aj (n:=128-(o:Int)) (by omega) (by omega)];rw[show(if 128-(o:Int)<((r+1:Nat):Int) then 128-(o:Int) else((r+1:Nat):Int))=(c:Int) by split<;>omega];rw[aj (n:=(o:Int)+(c:Int)) (by omega) (by omega),show(o:Int)+(c:Int)=((o+c:Nat):Int) by omega];rw[NQ _ _ _ (by omega) (by omega),ab,show o+c-o=c by omega,PB hm C3 (show o+c<=128 by omega) hpo];have AA:=ED hm (show a+k+c<=128*m.length by omega);rw[AA,hl,aQ (by omega),aj (n:=((a+k:Nat):Int)+(c:Int)) (by omega) (by omega),aj (n:=((r+1:Nat):Int)-(c:Int)) (by omega) (by omega),<-Sk];grind
theorem afN (m:bt)(a n:Int)(h:m.length<=10^9):pE m a n=some (bif gG m a n then(AW m a.toNat n.toNat,true) else([],false)):=by have xS:=cR;unfold pE;rw[HG m a n h,ab];cases hw:gG m a n with|false=>rfl|true=>simp only[gG,ah,bE]at hw;obtain⟨hm,h1,h2,h3⟩:=hw;have h64:=(mem_iff.1 hm).2;simp only[ai,ae,af];obtain⟨a,rfl⟩:=aJ h2;obtain⟨n,rfl⟩:=aJ h1;have:=K1 hm (λ(y4:Int) (y5:Int) (y6:Bytes)=>some (y6,true)) n n 0 a fuel (by omega) (by omega) (by omega);rw[cm,dM]at this;exact this
def TO (d p:Int)(w:Bool)(x:aA):Bool:=vI d p x&&(x.2.2.2|| !w)
def vJ (l:aq aA)(d p:Int)(w:Bool):Int:=match l.findIdx? (TO d p w)with|some i=>(l.getD i TP).2.2.1|none=> -1
theorem afK (l:aq aA)(d p:Int)(w:Bool)(h:l.length<=10^9):BD l d p w=some (vJ l d p w):=by unfold BD vJ;refine Eq.trans (HX (p:=TO d p w) (hit:=λi=>aa (idx l i) λx=>some x.2.2.1) (fin:=some (-1)) l (by omega) (λi hi nx=>?_) (λnx=>?_)) ?_;simp only[vh];rw[jF,aX hi,aj (by omega) (by omega)];simp only[af,ab,TO,vI];cases l[i].1==d<;>cases l[i].2.1==p<;>cases l[i].2.2.2<;>cases w<;>rfl;simp only[vh];rw[gr];rfl;cases hf:l.findIdx? (TO d p w)with|none=>rfl|some i=>obtain⟨hi,_⟩:=List.findIdx?_eq_some_iff_getElem.1 hf;simp only[aX hi,ab,fM hi]
theorem Pe (h:fG l=true){i:Nat}(hi:i<l.length):LP l[i]=true/\∀j (hj:j<i),vI l[i].1 l[i].2.1 (l[j]'(by omega))=false:=by simp only[fG,ah,aW,dy]at h;have:=h.2 i hi;simp only[TN,ah,aW,dy,fM hi,aP]at this;grind
theorem R4 {d p:Int}{m:aA}:vI d p m=true↔m.1=d/\m.2.1=p:=by simp[vI]
theorem ae5 (h:fG l=true){d p:Int}{i j:Nat}(hi:i<l.length)(hj:j<l.length)(h1:vI d p l[i]=true)(h2:vI d p l[j]=true):i=j:=by grind[R4,Pe]
theorem Po (h:fG l=true)(d p:Int)(w:Bool)(h1:0<=vJ l d p w):vJ l d p w<=63/\0<=p/\p<=1023:=by grind[vJ,TO,List.findIdx?_eq_some_iff_getElem,Pe,R4,LP,bO]
theorem abR (l:aq aA)(d:Int)(a:Nat)(w:Bool)(h:l.length<=10^9)(hm:fG l=true)(ha:a<=9223372036854775807): Ff l d (a:Int) w=some (if 0<=vJ l d ((a/128:Nat):Int) w then vJ l d ((a/128:Nat):Int) w*128+((a%128:Nat):Int) else-1):=by
 have e1:Int.tdiv (a:Int) 128=((a/128:Nat):Int):=aa0 a 128;have e2:tmod (a:Int) 128=((a%128:Nat):Int):=Xf a 128;unfold Ff;rw[gr,ae,mI,e1,e2,aj (by omega) (by omega),VV l _ _ h,ab];generalize ((a/128:Nat):Int)=p;have uw:=Po hm d p w;unfold Wp;cases hf:l.findIdx? (vI d p)with
 |none=>
  have hn:vJ l d p w= -1:=by grind[vJ,TO]
  rw[hn];rfl
 |some i=>
  obtain⟨hi,h2,h3⟩:=List.findIdx?_eq_some_iff_getElem.1 hf;simp only;rw[gr,aX hi];simp only[ae,ab];cases hq:l[i].2.2.2|| !w with
  |true=>
   have hF:vJ l d p w=l[i].2.2.1:=by grind[vJ,List.findIdx?_eq_some_iff_getElem,TO]
   have h4:=(Pe hm hi).1;simp only[LP,ah,bO]at h4
   rw[hF,aG (show 0<=l[i].2.2.1 by omega),show(aa (cond w (some (!l[i].2.2.2)) (some false)) λq3=>cond q3 (some (-1:Int)) _)=_ from by
    have:(cond w (some (!l[i].2.2.2)) (some false))=some false:=by cases w<;>cases hz:l[i].2.2.2<;>rw[hz]at hq<;>first|rfl|cases hq
    rw[this,ab,ae]]
   grind[aj]
  |false=>grind[vJ,List.getElem_of_mem,vI,TO,ae5,ab]
def lN (l:aq aA)(m:bt)(d:Int)(w:Bool):Nat->Nat->Nat->au (aq (Int×Int))
 |0,_,_=>some []
 |n+1,a,r=>if r=0 then some [] else
  if 0<=vJ l d ((a/128:Nat):Int) w/\vJ l d ((a/128:Nat):Int) w<(m.length:Int) then
   (lN l m d w n (a+min (128-a%128) r) (r-min (128-a%128) r)).map (λq=>(vJ l d ((a/128:Nat):Int) w*128+((a%128:Nat):Int),((min (128-a%128) r:Nat):Int))::q)
  else none
theorem UG (hm:gQ m=true){f:Int}(h0:0<=f){o:Nat}(hc:0<c)(ho:o+c<=128):gG m (f*128+(o:Int)) (c:Int)=decide (f<(m.length:Int)):=by grind[gG]
theorem Xt (hm:gQ m=true){f:Int}(h0:0<=f):gG m (f*128) 128=decide (f<(m.length:Int)):=by grind[gG]
theorem Kr (hl:fG l=true)(hL:l.length<=10^9)(hm:gQ m=true)(d:Int)(w:Bool):∀(n a r f:Nat)(acc:aq (Int×Int)),r<=n->n<f->acc.length+n<=1000000->a<=9223372036854775807->
 aI (qZ (λ(y9:Int) (vQ:Int) (BU:aq (Int×Int))=>some (BU,true)) (λ(Jb:Int) (GC:Int) (EN:aq (Int×Int)) (NX:Bool) (SQ:aq (Int×Int))=>some (EN,NX)) l d w ([]:aq (Int×Int)) false m) f ((a:Int),(r:Int),acc)
  =match lN l m d w n a r with|some q=>some (acc++q,true)|none=>some ([],false)
 |n,a,r,0,acc,_,hf,_,_=>by omega
 |0,a,r,f+1,acc,hr,hf,hA,ha=>by rw[aI];simp only[qZ];rw[gr];simp[lN]
 |n+1,a,r,f+1,acc,hr,hf,hA,ha=>by
  have h64:=(mem_iff.1 hm).2;rw[aI];simp only[qZ,lN];by_cases h0:r=0;rw[gr,aG h0];simp;have e2:tmod (a:Int) 128=((a%128:Nat):Int):=Xf a 128;have uw:=Po hl d ((a/128:Nat):Int) w;rw[jF,aF h0,abR l d a w hL hl ha,ab,mI,e2,aj (n:=128-((a%128:Nat):Int)) (by omega) (by omega)];obtain⟨c,hc⟩:∃c,min (128-a%128) r=c:=⟨_,rfl⟩
  rw[hc,show(if 128-((a%128:Nat):Int)<(r:Int) then 128-((a%128:Nat):Int) else(r:Int))=(c:Int) by split<;>omega];generalize hP:vJ l d ((a/128:Nat):Int) w=P at uw⊢;by_cases hP0:0<=P;have uw:=uw hP0;simp only[aG hP0,af];rw[ar (show¬P*128+((a%128:Nat):Int)<0 by omega),Hj m _ _ (by omega),UG hm hP0 (by omega) (by omega)];simp only[ae,ab];by_cases hP1:P<(m.length:Int);rw[ax hP1,aG ⟨hP0,hP1⟩];simp only[ai,ae];rw[aQ (by simp;omega),aj (n:=(a:Int)+(c:Int)) (by omega) (by omega),aj (n:=(r:Int)-(c:Int)) (by omega) (by omega),ar (show¬(a:Int)+(c:Int)<0 by omega)];simp only[ae,ab];have key:=Kr hl hL hm d w n (a+c) (r-c) f (acc++[(P*128+((a%128:Nat):Int),(c:Int))]) (by omega) (by omega) (by simp;omega) (by omega);rw[show((a+c:Nat):Int)=(a:Int)+(c:Int) by omega,show((r-c:Nat):Int)=(r:Int)-(c:Int) by omega]at key;rw[key];cases lN l m d w n (a+c) (r-c)with|none=>rfl|some q=>simp
  rw[ar hP1,mI];rfl;simp only[aF hP0,af];rw[mI,jF];rfl
theorem K2 (hl:fG l=true)(hL:l.length<=10^9)(hm:gQ m=true)(d:Int)(w:Bool):∀(n a r f:Nat)(acc:aq (Int×Int)),r<=n->n<f->acc.length+n<=1000000->a<=9223372036854775807->
 aI (kV (λ(vQ:Int) (BU:Int) (Jb:ew) (GC:ew)=>some (Jb,GC,true)) (λ(EN:Int) (NX:Int) (SQ:ew) (y17:ew) (XH:Bool) (Z4:ew) (y20:ew)=>some (SQ,y17,XH)) l d w ([]:ew) ([]:ew) false m) f ((a:Int),(r:Int),acc.map (·.1),acc.map (·.2))
  =match lN l m d w n a r with|some q=>some ((acc++q).map (·.1),(acc++q).map (·.2),true)|none=>some ([],[],false)
 |n,a,r,0,acc,_,hf,_,_=>by omega
 |0,a,r,f+1,acc,hr,hf,hA,ha=>by rw[aI];simp only[kV];rw[gr];simp[lN]
 |n+1,a,r,f+1,acc,hr,hf,hA,ha=>by
  have h64:=(mem_iff.1 hm).2;rw[aI];simp only[kV,lN];by_cases h0:r=0;rw[gr,aG h0];simp;have e1:Int.tdiv (a:Int) 128=((a/128:Nat):Int):=aa0 a 128;have e2:tmod (a:Int) 128=((a%128:Nat):Int):=Xf a 128;have uw:=Po hl d ((a/128:Nat):Int) w;rw[ax (show(r:Int)>0 by omega),ax (show(a:Int)>=0 by omega),aF h0];simp only[af];rw[mI,e1,e2,aj (n:=((a/128:Nat):Int)) (by omega) (by omega),afK l _ _ w hL,ab,mI,aj (n:=128-((a%128:Nat):Int)) (by omega) (by omega)];obtain⟨c,hc⟩:∃c,min (128-a%128) r=c:=⟨_,rfl⟩
  rw[hc,show(if 128-((a%128:Nat):Int)<(r:Int) then 128-((a%128:Nat):Int) else(r:Int))=(c:Int) by split<;>omega];generalize hP:vJ l d ((a/128:Nat):Int) w=P at uw⊢;by_cases hP0:0<=P;have uw:=uw hP0;rw[ar (show¬P<0 by omega),aj (n:=P*128) (by omega) (by omega),HG m _ _ (by omega),Xt hm hP0];simp only[ae,ab];by_cases hP1:P<(m.length:Int);rw[ax hP1,aG ⟨hP0,hP1⟩];simp only[ai,ae];rw[aQ (by simp;omega),aQ (by simp;omega),aj (n:=P*128+((a%128:Nat):Int)) (by omega) (by omega),aj (n:=(a:Int)+(c:Int)) (by omega) (by omega),aj (n:=(r:Int)-(c:Int)) (by omega) (by omega)];have key:=K2 hl hL hm d w n (a+c) (r-c) f (acc++[(P*128+((a%128:Nat):Int),(c:Int))]) (by omega) (by omega) (by simp;omega) (by omega);rw[show((a+c:Nat):Int)=(a:Int)+(c:Int) by omega,show((r-c:Nat):Int)=(r:Int)-(c:Int) by omega,List.map_append,List.map_append]at key;refine Eq.trans key ?_;cases lN l m d w n (a+c) (r-c)with|none=>rfl|some q=>simp
  rw[ar hP1,mI];rfl;rw[mI,jF];rfl
def oA (l:aq aA)(m:bt)(d a n:Int)(w:Bool):aq (Int×Int)×Bool:=
 bif fG l&&(gQ m&&dI n 0 4096) then
  (bif n==0 then([],true) else bif decide (a<0) then([],false) else match lN l m d w n.toNat a.toNat n.toNat with|some q=>(q,true)|none=>([],false))
 else([],false)
theorem V0 (l:aq aA)(m:bt)(d a n:Int)(w:Bool)(hl:l.length<=10^9)(hm:m.length<=10^9)(ha:a<=9223372036854775807):zU l m d a n w=some (oA l m d a n w):=by
 have xS:=cR;unfold zU oA;simp only[Km l hl,Jz m hm,dh,ab];cases hB:fG l;rfl;cases hM:gQ m;rfl;cases hN:dI n 0 4096;rfl;have hn:=bO.1 hN;simp only[ai,ae,ab,dZ,af];cases h0:n==0;case true=>rfl
 by_cases hA:a<0;rw[ax hA];rfl;rw[ar hA];simp only[ae];obtain⟨a,rfl⟩:=aJ (show 0<=a by omega);obtain⟨n,rfl⟩:=aJ hn.1;rw[Kr hB hl hM d w n a n fuel [] (by omega) (by omega) (by simp;omega) (by omega)];simp only[ay];cases lN l m d w n a n<;>rfl
theorem Sw (l:aq aA)(m:bt)(d a n:Int)(w:Bool)(hl:l.length<=10^9)(hm:m.length<=10^9)(ha:a<=9223372036854775807):uq l m d a n w=some ((oA l m d a n w).1.map (·.1),(oA l m d a n w).1.map (·.2),(oA l m d a n w).2):=by
 have xS:=cR;unfold uq oA;simp only[KZ l hl,FL m hm,cO,ab];cases hB:fG l;rfl;cases hM:gQ m;rfl;cases hN:dI n 0 4096;rfl;have hn:=bO.1 hN;simp only[ai,ae,ab,dZ,af];obtain⟨n,rfl⟩:=aJ hn.1;cases h0:((n:Int)==0)with
 |true=>
  have:n=0:=by simpa using h0
  subst this;obtain⟨f,hf⟩:∃f,fuel=f+1:=⟨fuel-1,by omega⟩
  rw[hf,aI];rfl
 |false=>
  have hn0:n≠0:=by simpa using h0
  by_cases hA:a<0;obtain⟨f,hf⟩:∃f,fuel=f+1:=⟨fuel-1,by omega⟩
  rw[ax hA,hf,aI];simp only[kV];rw[jF,gr];rfl;rw[ar hA];simp only[ae];obtain⟨a,rfl⟩:=aJ (show 0<=a by omega);refine Eq.trans (K2 hB hl hM d w n a n fuel [] (by omega) (by omega) (by simp;omega) (by omega)) ?_;simp only[ay];cases lN l m d w n a n<;>rfl
end
end Go.Pu
