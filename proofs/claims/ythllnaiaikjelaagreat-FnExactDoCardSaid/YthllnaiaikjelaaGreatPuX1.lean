import Derived.Test.YthllnaiaikjelaaGreatDnData
import Derived.Test.YthllnaiaikjelaaGreatPure
namespace Go.Pu
open Go.Dn
open List (range)
open BitVec (toNat)
open Int (fdiv tmod)
set_option linter.unusedSimpArgs false
set_option linter.unusedVariables false
noncomputable section
variable {s:Bytes} {h:Host} {a:Int} {f:Int->au Int} {m:bA} {p:aP} {R X α σ:Type} {l:cI}
/- Plain laws of the partial operations and of loops. -/
theorem aj {n:Int}(h1: -9223372036854775808<=n)(h2:n<=9223372036854775807):ak n=n:=by grind[IntKind.wrap,IntKind.bits,IntKind.signed]
@[simp] theorem ab (a:α)(k:α->au R):aa (some a) k=k a:=rfl
@[simp] theorem apM (k:α->au R):aa none k=none:=rfl
@[simp] theorem akJ (c:Bool)(x y:α)(k:α->au R):aa (cond c (some x) (some y)) k=k (cond c x y):=by cases c<;>rfl
theorem cg (c:Bool)(x y:α):cond c (some x) (some y)=some (cond c x y):=by cases c<;>rfl
theorem aQ {n:Nat}{k:au R}(h:n<=1073741824):room n k=k:=by simp[room,h]
theorem M5 (xs:ar α)(i:Nat):idx xs (i:Int)=xs[i]?:=rfl
theorem aN {xs:ar α}{i:Nat}(h:i<xs.length):idx xs (i:Int)=some xs[i]:=by grind[M5]
def upK (step:Nat->σ->(σ->au R)->au R)(fin:σ->au R)(N:Nat):Nat->Nat->σ->au R
 |0,_,s=>fin s
 |n+1,i,s=>step i s (λs'=>upK step fin N n (i+1) s')
theorem Na {T:(X->au R)->X->au R}(N:Nat)(e:σ->Nat->X)(step:Nat->σ->(σ->au R)->au R)(fin:σ->au R)(hs:∀i s nx,i<N->T nx (e s i)=step i s (λs'=>nx (e s' (i+1))))(hf:∀s nx,T nx (e s N)=fin s): ∀n i s,i<=N->N-i<n->aH T n (e s i)=upK step fin N (N-i) i s:=by
 intro n;induction n with
 |zero=>intro i s _ h;omega
 |succ n ih=>
  intro i s hi hn;rw[aH];rcases bS i N with iG|Fe;rw[hs i s _ iG,show N-i=(N-(i+1))+1 by omega,upK];congr 1;funext s';exact ih (i+1) s' (by omega) (by omega);have:i=N:=by omega
  subst this;rw[hf,hG,upK]
def zv (step:α->σ->(σ->au R)->au R)(fin:σ->au R):ar α->σ->au R
 |[],s=>fin s
 |x::xs,s=>step x s (zv step fin xs)
theorem CD {T:(X->au R)->X->au R}(xs:ar α)(e:σ->Nat->X)(step:α->σ->(σ->au R)->au R)(fin:σ->au R)(hs:∀i (h:i<xs.length) s nx,T nx (e s i)=step xs[i] s (λs'=>nx (e s' (i+1))))(hf:∀s nx,T nx (e s xs.length)=fin s): ∀n i s,i<=xs.length->xs.length-i<n->aH T n (e s i)=zv step fin (xs.drop i) s:=by
 intro n;induction n with
 |zero=>intro i s _ h;omega
 |succ n ih=>
  intro i s hi hn;rw[aH];rcases bS i xs.length with iG|Fe;rw[hs i iG s _,cf iG,zv];congr 1;funext s';exact ih (i+1) s' (by omega) (by omega);have:i=xs.length:=by omega
  subst this;rw[hf,List.drop_length,zv]
def my:(t:CT)->t.D->Nat
 | .int _,_=>0
 | .bool,_=>0
 | .str,s=>s.length
 | .sl e,xs=>xs.length+(xs.map (my e)).sum
 | .pair a b,x=>my a x.1+my b x.2
def bu (n:Nat):(t:CT)->t.D->Prop
 | .int _,_=>True
 | .bool,_=>True
 | .str,s=>s.length<=n
 | .sl e,xs=>xs.length<=n/\∀x∈xs,bu n e x
 | .pair a b,x=>bu n a x.1/\bu n b x.2
theorem OW (f:α->Nat):∀(xs:ar α)(x:α),x∈xs->f x<=(xs.map f).sum
 |y::ys,x,h=>by rcases cp.1 h with rfl|h;simp;have:=OW f ys x h;simp;omega
theorem KC {n:Nat}:∀{t:CT}{x:t.D},my t x<=n->bu n t x
 | .int _,_,_=>trivial
 | .bool,_,_=>trivial
 | .str,_,h=>h
 | .sl e,xs,h=>by simp only[my]at h;exact⟨by omega,λx hx=>KC (by have:=OW (my e) xs x hx;omega)⟩
 | .pair a b,x,h=>by simp only[my]at h;exact⟨KC (by omega),KC (by omega)⟩
theorem bu.mono {n m:Nat}(h:n<=m:=by omega):∀{t:CT}{x:t.D},bu n t x->bu m t x
 | .int _,_,_=>trivial
 | .bool,_,_=>trivial
 | .str,_,k=>aF k h
 | .sl _,_,k=>⟨aF k.1 h,λx hx=>bu.mono h (k.2 x hx)⟩
 | .pair _ _,_,k=>⟨bu.mono h k.1,bu.mono h k.2⟩
def qU:(t:CT)->t.D->Prop
 | .int k,n=>k.min<=n/\n<=k.max
 | .bool,_=>True
 | .str,s=>s.length<=9223372036854775807
 | .sl e,xs=>xs.length<=9223372036854775807/\∀x∈xs,qU e x
 | .pair a b,x=>qU a x.1/\qU b x.2
def mL (l n:Int):Int:=if n<=l then l-n else-1
def T5 {β:Type}(f:α->au β)(k0:ar β->Int->au R)(v0:ar α)(nx:ar β×Int->au R)(x:ar β×Int):au R:=
 cond (decide (x.2<(List.length v0:Int))) (
  aa (idx v0 x.2) λx1=>
  aa (f x1) λr2=>
  aa (idx x.1 x.2) λ_=>
  aa (idx x.1 x.2) λ_=>
  nx (List.set x.1 (Int.toNat x.2) r2,ak (x.2+1))) (
  k0 x.1 x.2)
noncomputable def aaZ {β:Type}(f:α->au β)(z:β)(a0:ar α):au (ar β):=
 if 0<=((List.length a0:Int))/\((List.length a0:Int))<=((List.length a0:Int)) then(
 room (Int.toNat ((List.length a0:Int))) (
 aH (T5 f (λy5 _=>some y5) a0) fuel (List.replicate (Int.toNat ((List.length a0:Int))) z,0))) else none
theorem lF {f:α->au α}{z:α}{a:ar α}(hn:a.length<=1073741824)(hf:∀x∈a,f x=some x):aaZ f z a=some a:=by
 unfold aaZ;have Cg:=dc;rw[zip,aQ (by omega)]
 have key:=Na (T:=T5 f (λy5 _=>some y5) a) a.length (λ(_) i=>(a.take i++List.replicate (a.length-i) z,(i))) (λ_ s k=>k s) (λ_=>some a)
  (λi s nx hi=>by
   have h1:(a.take i).length=i:=by simp;omega
   have hl:i<(a.take i++List.replicate (a.length-i) z).length:=by simp;omega
   simp only[T5];rw[gN];simp only[af,aN hi,ab,hf _ (aE hi),aN hl];congr 1;refine Prod.ext ?_ (aj (by omega) (by omega));simp only[aw];rw[List.set_append_right _ _ (by omega),h1,hG,aR hi,show a.length-i=(a.length-(i+1))+1 by omega,List.replicate_succ,List.set_cons_zero,aW,List.singleton_append])
  (λs nx=>by grind[T5])
  fuel 0 () (by omega) (by omega)
 simp only[List.take_zero,bE,Nat.sub_zero,aw]at key⊢;have e:((0:Nat):Int)=0:=rfl;rw[e]at key;rw[key];have:∀n i,upK (λ_ (s) k=>k s) (λ_=>some a) a.length n i ()=some a:=by intro n;induction n with|zero=>intro i;rfl|succ n ih=>grind[upK]
 exact this _ _
def T4 (f:α->Int->au Int)(k0:Int->Int->au R)(k1:Int->Int->Int->au R)(v0:ar α)(nx:Int×Int->au R)(x:Int×Int):au R:=
 cond (decide (x.2<((List.length v0:Int)))) (
  aa (idx v0 x.2) λx1=>
  aa (f x1 x.1) λr2=>
  cond (decide (r2<0)) (
   k1 r2 (-1) x.2) (
   nx (r2,ak (x.2+1)))) (
  k0 x.1 x.2)
noncomputable def T3 (f:α->Int->au Int)(a0:ar α)(a1:Int):au Int:=
 cond (decide ((ak (a1-((List.length a0:Int))))<0)) (
  some (-1)) (
  aH (T4 f (λy3 _=>some y3) (λ_ y6 _=>some y6) a0) fuel (ak (a1-((List.length a0:Int))),0))
theorem Wj {f:α->Int->au Int}{s:α->Nat}{a:ar α}{l:Int}(h0:0<=l)(h1:l<=1048576)(hm:a.length<=9223372036854775807)(hf:∀x∈a,∀l:Int,0<=l->l<=1048576->∃r,f x l=some r/\((s x:Int)<=l->r=l-s x)/\(¬(s x:Int)<=l->r<0)):T3 f a l=some (mL l ((a.length+(a.map s).sum:Nat):Int)):=by
 unfold T3;have Cg:=dc;rw[aj (by omega) (by omega)];rcases Int.lt_or_le (l-a.length) 0 with azP|aiO;rw[ax azP];simp only[af,mL];rw[nt];rw[fF];simp only[ae];have key:=CD (T:=T4 f (λy3 _=>some y3) (λ_ y6 _=>some y6) a) a (λ(q) i=>(q,(i))) (λx q k=>aa (f x q) λr=>cond (decide (r<0)) (some (-1)) (k r)) (λq=>some q) (λi hi q nx=>by simp only[T4];rw[gN];simp only[af,aN hi,ab];rw[aj (by omega) (by omega)];rfl) (λq nx=>by simp only[T4];rw[fF];rfl) fuel 0 (l-a.length) (by omega) (by omega);have e:((0:Nat):Int)=0:=rfl;rw[e,fI]at key;rw[key];have main:∀(b:ar α)(q:Int),0<=q->q<=1048576->(∀x∈b,x∈a)->zv (λx q k=>aa (f x q) λr=>cond (decide (r<0)) (some (-1)) (k r)) (λq=>some q) b q=some (mL q ((b.map s).sum)):=by intro b;induction b with|nil=>intro q hq _ _;simp[zv,mL,hq]|cons x b ih=>intro q hq hq2 hb;obtain⟨r,hr,hr1,WV⟩:=hf x (hb x (by simp)) q hq hq2;rw[zv,hr,ab];by_cases hle:(s x)<=q;rw[fF];simp only[ae];rw[ih _ (by omega) (by omega) (λy hy=>hb y (by simp[hy]))];simp only[mL,ei,List.sum_cons];congr 1;split<;>split<;>omega;rw[ax (WV hle)];simp only[af,mL,ei,List.sum_cons];rw[nt]
 rw[main a _ (by omega) (by omega) (λx h=>h)];simp only[mL];congr 1;split<;>split<;>omega
def TJ (f:α->α->au Bool)(k0:Int->au R)(k1:Bool->Int->au R)(v0 v1:ar α)(nx:Int->au R)(x:Int):au R:=
 cond (decide (x<((List.length v0:Int)))) (
  aa (idx v0 x) λx1=>
  aa (idx v1 x) λx2=>
  aa (f x1 x2) λr3=>
  cond (!r3) (
   k1 false x) (
   nx (ak (x+1)))) (
  k0 x)
noncomputable def ZG (f:α->α->au Bool)(a0 a1:ar α):au Bool:=
 cond (((List.length a0:Int)) !=((List.length a1:Int))) (
  some false) (
  aH (TJ f (λ_=>some true) (λy5 _=>some y5) a0 a1) fuel 0)
theorem iL {f:α->α->au Bool}{a:ar α}(hm:a.length<=1000000000000)(hf:∀x∈a,f x x=some true):ZG f a a=some true:=by
 unfold ZG;have Cg:=dc;have key:=CD (T:=TJ f (λ_=>some true) (λy5 _=>some y5) a a) a (λ(_) i=>(i)) (λx s k=>aa (f x x) λr=>cond (!r) (some false) (k s)) (λ_=>some true) (λi hi s nx=>by grind[TJ,aN,ab,aj]) (λs nx=>by grind[TJ]) fuel 0 () (by omega) (by omega);have main:∀(b:ar α),(∀x∈b,x∈a)->zv (λx s k=>aa (f x x) λr=>cond (!r) (some false) (k s)) (λ_=>some true) b ()=some true:=by intro b;induction b with|nil=>intro _;rfl|cons x b ih=>grind[zv,ab]
 grind
theorem O6 {z:α}{a:ar α}(hn:a.length<=1073741824):aaZ some z a=some a:=lF hn (λ_ _=>rfl)
theorem JA [BEq α][LawfulBEq α]{a:ar α}(hm:a.length<=1000000000000):ZG (λx y:α=>some (x==y)) a a=some true:=iL hm (λx _=>by simp)
theorem Es {f:α->Nat}:∀{xs:ar α},(∀x∈xs,f x=0)->(xs.map f).sum=0
 |[],_=>rfl
 |x::xs,h=>by have:=Es (xs:=xs) (λy hy=>h y (by simp[hy]));grind
def dh (f:Int->au Int)(n:Nat):Prop:=∀l:Int,0<=l->l<=1048576->f l=some (mL l n)
theorem dh.nil:dh (λl=>some l) 0:=λl h0 _=>by simp[mL,h0]
theorem dh.len {n m:Nat}(hn:n<=9223372036854775807){k:Int->au Int}(h:dh k m): dh (λl=>cond (decide (ak (l-(n:Int))<0)) (some (-1)) (k (ak (l-(n:Int))))) (n+m):=by intro l h0 h1;simp only;rw[aj (by omega) (by omega)];by_cases hl:l-(n)<0;rw[ax hl];simp only[af,mL];rw[nt];rw[aq hl];simp only[ae];rw[h _ (by omega) (by omega)];simp only[mL];congr 1;split<;>split<;>omega
theorem dh.sub {k:Int->au Int}{n m:Nat}(hf:dh f n)(h:dh k m):dh (λl=>aa (f l) λr=>cond (decide (r<0)) (some (-1)) (k r)) (n+m):=by
 intro l h0 h1;simp only;rw[hf l h0 h1,ab];by_cases hl:(n)<=l;have e:mL l n=l-n:=by simp[mL,hl]
 rw[e,fF];simp only[ae];rw[h _ (by omega) (by omega)];simp only[mL];congr 1;split<;>split<;>omega;have e:mL l n= -1:=by simp[mL,hl]
 rw[e];simp only[mL];rw[nt];rfl
theorem dh.cast {n m:Nat}(h:dh f n)(e:n=m):dh f m:=e▸h
theorem dh.list {f:α->Int->au Int}{s:α->Nat}{a:ar α}(hm:a.length<=9223372036854775807)(hf:∀x∈a,dh (f x) (s x)):dh (T3 f a) (a.length+(a.map s).sum):=λ_ h0 h1=>Wj h0 h1 hm (λx hx l h0 h1=>⟨_,hf x hx l h0 h1,λh=>by simp[mL,h],λh=>by simp[mL,h]⟩)
theorem dh.flat {n:Nat}(hn:n<=9223372036854775807):dh (λl=>cond (decide (ak (l-(n:Int))<0)) (some (-1)) (some (ak (l-(n:Int))))) n:=(dh.len hn dh.nil).cast (by omega)
theorem dh.strs {a:ar (ar UInt8)}(hm:qU (.sl .str) a):dh (T3 (λx l=>some (ak (l-(x.length:Int)))) a) (my (.sl .str) a):=λ_ h0 h1=>Wj h0 h1 hm.1 (λx hx l h0 h1=>⟨l-x.length,by have:x.length<=9223372036854775807:=hm.2 x hx;grind[aj],λ_=>rfl,λh=>by grind[my]⟩)
theorem dh.use {n:Nat}(hf:dh f n){l:Int}(h0:0<=l)(h1:l<=1048576){k:Int->au Bool}(hk:(n:Int)<=l->k (l-n)=some true): (aa (f l) λr=>cond (decide (r<0)) (some true) (k r))=some true:=by
 rw[hf l h0 h1,ab];by_cases hl:(n)<=l;have e:mL l n=l-n:=by simp[mL,hl]
 rw[e,fF];exact hk hl;have e:mL l n= -1:=by simp[mL,hl]
 rw[e];rfl
theorem LA {T:(Int->au R)->Int->au R}{fin hit:au R}(p:α->Bool)(a:ar α)(h:a.length<=1000000000000)(hs:∀i (hi:i<a.length) nx,T nx (i:Int)=cond (p a[i]) hit (nx ((i+1:Nat):Int)))(hf:∀nx,T nx (a.length:Int)=fin): aH T fuel 0=cond (a.any p) hit fin:=by
 have Cg:=dc;have key:∀n i,i<=a.length->a.length-i<n->aH T n (i)=cond ((a.drop i).any p) hit fin:=by
  intro n;induction n with
  |zero=>intro i _ h;omega
  |succ n ih=>
   intro i hi hn;rw[aH];rcases bS i a.length with iG|Fe;rw[hs i iG,cf iG,List.any_cons];cases hq:p a[i]with|true=>rfl|false=>exact ih (i+1) (by omega) (by omega)
   have:i=a.length:=by omega
   subst this;rw[hf,List.drop_length];rfl
 exact key fuel 0 (by omega) (by omega)
theorem gR {T:(Int->au R)->Int->au R}{fin hit:au R}(p:Nat->Bool)(N:Nat)(h:N<=1000000000000)(hs:∀i nx,i<N->T nx (i:Int)=cond (!(p i)) hit (nx ((i+1:Nat):Int)))(hf:∀nx,T nx (N:Int)=fin): aH T fuel 0=cond ((range N).all p) fin hit:=by
 have Cg:=dc;have key:∀n i,i<=N->N-i<n->aH T n (i)=cond ((List.range' i (N-i)).all p) fin hit:=by
  intro n;induction n with
  |zero=>intro i _ h;omega
  |succ n ih=>
   intro i hi hn;rw[aH];rcases bS i N with iG|Fe;rw[hs i _ iG,show N-i=(N-(i+1))+1 by omega,List.range'_succ,bV];cases hq:p i with|false=>rfl|true=>exact ih (i+1) (by omega) (by omega)
   have:i=N:=by omega
   subst this;rw[hf,hG];rfl
 have:=key fuel 0 (by omega) (by omega);rw[Nat.sub_zero,<-List.range_eq_range']at this;exact this
theorem vE {T:(Int->au R)->Int->au R}{fin hit:au R}(p:α->Bool)(a:ar α)(h:a.length<=1000000000000)(hs:∀i (hi:i<a.length) nx,T nx (i:Int)=cond (!(p a[i])) hit (nx ((i+1:Nat):Int)))(hf:∀nx,T nx (a.length:Int)=fin): aH T fuel 0=cond (a.all p) fin hit:=by have:=LA (λx=> !(p x)) a h hs hf;grind
theorem MO {T:(X->au R)->X->au R}{fin hit:au R}(e:Nat->X)(p:Nat->Bool)(N:Nat)(h:N<=1000000000000)(hs:∀i nx,i<N->(∀j,j<i->p j=true)->T nx (e i)=cond (!(p i)) hit (nx (e (i+1))))(hf:(∀j,j<N->p j=true)->∀nx,T nx (e N)=fin): aH T fuel (e 0)=cond ((range N).all p) fin hit:=by
 have Cg:=dc;have key:∀n i,i<=N->N-i<n->(∀j,j<i->p j=true)->aH T n (e i)=cond ((List.range' i (N-i)).all p) fin hit:=by
  intro n;induction n with
  |zero=>intro i _ h;omega
  |succ n ih=>
   intro i hi hn hp;rw[aH];rcases bS i N with iG|Fe;rw[hs i _ iG hp,show N-i=(N-(i+1))+1 by omega,List.range'_succ,bV];cases hq:p i with|false=>rfl|true=>refine ih (i+1) (by omega) (by omega) λj hj=>?_;by_cases hji:j=i;rw[hji];exact hq;exact hp j (by omega)
   have:i=N:=by omega
   subst this;rw[hf hp,hG];rfl
 have:=key fuel 0 (by omega) (by omega) (λj hj=>absurd hj (by omega));rw[Nat.sub_zero,<-List.range_eq_range']at this;exact this
theorem F4 {T:(Int->au R)->Int->au R}{fin:au R}{hit:Int->au R}(p:α->Bool)(a:ar α)(h:a.length<=1000000000000)(hs:∀i (hi:i<a.length) nx,T nx (i:Int)=cond (p a[i]) (hit (i:Int)) (nx ((i+1:Nat):Int)))(hf:∀nx,T nx (a.length:Int)=fin): aH T fuel 0=(match a.findIdx? p with|some i=>hit (i:Int)|none=>fin):=by
 have Cg:=dc;have key:∀n i,i<=a.length->a.length-i<n->aH T n (i)=(match (a.drop i).findIdx? p with|some j=>hit ((i+j:Nat))|none=>fin):=by
  intro n;induction n with
  |zero=>intro i _ h;omega
  |succ n ih=>
   intro i hi hn;rw[aH];rcases bS i a.length with iG|Fe;rw[hs i iG,cf iG,List.findIdx?_cons];cases hq:p a[i]with|true=>rfl|false=>have:=ih (i+1) (by omega) (by omega);refine this.trans ?_;cases (a.drop (i+1)).findIdx? p with|none=>rfl|some j=>simp only[dz,bg,cD];congr 2;omega
   have:i=a.length:=by omega
   subst this;rw[hf,List.drop_length];rfl
 have:=key fuel 0 (by omega) (by omega);refine this.trans ?_;rw[fI];cases a.findIdx? p with|none=>rfl|some j=>simp only[cr]
theorem cF (a b:Bool):(bif a then b else false)=(a&&b):=by cases a<;>rfl
theorem cT (a b:Bool):(bif a then true else b)=(a||b):=by cases a<;>rfl
theorem cN (a b:Bool):(bif a then false else b)=(!a&&b):=by cases a<;>rfl
def Tu (g:α->σ->Except (au R) σ)(fin:σ->au R):ar α->σ->au R
 |[],s=>fin s
 |x::xs,s=>match g x s with| .error r=>r| .ok s'=>Tu g fin xs s'
theorem vn {T:(X->au R)->X->au R}(xs:ar α)(e:σ->Nat->X)(Inv:Nat->σ->Prop)(g:α->σ->Except (au R) σ)(fin:σ->au R)(h:xs.length<=1000000000000)(hs:∀i (hi:i<xs.length) s nx,Inv i s->T nx (e s i)=match g xs[i] s with| .error r=>r| .ok s'=>nx (e s' (i+1)))(hn:∀i (hi:i<xs.length) s s',Inv i s->g xs[i] s=.ok s'->Inv (i+1) s')(hf:∀s nx,Inv xs.length s->T nx (e s xs.length)=fin s)(s:σ)(h0:Inv 0 s): aH T fuel (e s 0)=Tu g fin xs s:=by
 have key:∀n i s,i<=xs.length->xs.length-i<n->Inv i s->aH T n (e s i)=Tu g fin (xs.drop i) s:=by
  intro n;induction n with
  |zero=>intro i s _ h;omega
  |succ n ih=>
   intro i s hi Ff hI;rw[aH];rcases bS i xs.length with iG|Fe;rw[hs i iG s _ hI,cf iG,Tu];cases hg:g xs[i] s with|error r=>rfl|ok s'=>exact ih (i+1) s' (by omega) (by omega) (hn i iG s s' hI hg)
   have:i=xs.length:=by omega
   subst this;rw[hf s _ hI,List.drop_length,Tu]
 have Cg:=dc;have:=key fuel 0 s (by omega) (by omega) h0;rwa[fI]at this
theorem Kl (f:σ->α->σ)(fin:σ->au R):∀(xs:ar α)(s:σ),Tu (λx s=> .ok (f s x)) fin xs s=fin (xs.foldl f s)
 |[],_=>rfl
 |x::xs,s=>by exact Kl f fin xs (f s x)
theorem bB {T:(X->au R)->X->au R}{fin:au R}(e:Nat->X)(N:Nat)(h:N<=1000000000000)(hs:∀i nx,i<N->T nx (e i)=nx (e (i+1)))(hf:∀nx,T nx (e N)=fin):aH T fuel (e 0)=fin:=by rw[MO (hit:=fin) e (λ_=>true) N h (λi nx hi _=>by rw[hs i nx hi];rfl) (λ_ nx=>hf nx)];grind
theorem eZ {l:ar α}{k:au R}(h:l.length<=10^9):room (List.length ([]:ar α)+l.length) k=k:=aQ (by grind)
theorem KD (a:cI)(hm:qU (.sl (.int .i64)) a):dh (od a) (my (.sl (.int .i64)) a):=(dh.flat (n:=a.length) hm.1).cast (by simp only[my];rw[Es (λx _=>by simp only[my])];rfl)
theorem KE (a:bp)(hm:qU (.sl .str) a):dh (ql a) (my (.sl .str) a):=dh.strs hm
theorem akw (a:bp)(hm:qU (.sl .str) a):dh (Dr a) (my (.sl .str) a):=
 dh.cast (f:=Dr a) (dh.sub (KE a hm) dh.nil) (by simp only[my];try omega)
theorem ad1 (a:ar aC)(hm:qU (.sl eE) a):dh (EO a) (my (.sl eE) a):=(dh.flat (n:=a.length) hm.1).cast (by simp only[my];rw[Es (λx _=>by simp only[my])];rfl)
theorem ah2 (a:cH)(hm:qU jQ a):dh (zD a) (my jQ a):=
 dh.cast (f:=zD a) (dh.sub (KD a.2.2.2 hm.2.2.2) dh.nil) (by simp only[my];try omega)
theorem ao4 (a:ia)(hm:qU kU a):dh (Ee a) (my kU a):=
 dh.cast (f:=Ee a) (dh.sub (KD a.2.2 hm.2.2) dh.nil) (by simp only[my];try omega)
theorem anD (a:ar ia)(hm:qU (.sl kU) a):dh (J5 a) (my (.sl kU) a):=dh.list (f:=Ee) (s:=my kU) hm.1 (λx hx=>ao4 x (hm.2 x hx))
theorem agO (a:bX)(hm:qU ux a):dh (Bv a) (my ux a):=
 dh.cast (f:=Bv a) (dh.sub (ah2 a.2.1 hm.2.1) (dh.sub (anD a.2.2.1 hm.2.2.1) dh.nil)) (by simp only[my];try omega)
theorem agM (a:ed)(hm:qU IG a):dh (Bu a) (my IG a):=
 dh.cast (f:=Bu a) (dh.len (n:=a.2.2.2.2.2.2.2.length) hm.2.2.2.2.2.2.2 dh.nil) (by simp only[my];try omega)
theorem Y8 (a:aP)(hm:qU E8 a):dh (xM a) (my E8 a):=
 dh.cast (f:=xM a) (dh.sub (agM a.2.2.2.2.2.2.2.2 hm.2.2.2.2.2.2.2.2) dh.nil) (by simp only[my];try omega)
theorem anF (a:kT)(hm:qU Oo a):dh (Fx a) (my Oo a):=
 dh.cast (f:=Fx a) (dh.sub (Y8 a.1 hm.1) dh.nil) (by simp only[my];try omega)
theorem agL (a:bk)(hm:qU dN a):dh (vg a) (my dN a):=
 dh.cast (f:=vg a) (dh.sub (anF a.2.2.2.1 hm.2.2.2.1) dh.nil) (by simp only[my];try omega)
theorem ad2 (a:ar bk)(hm:qU (.sl dN) a):dh (EP a) (my (.sl dN) a):=dh.list (f:=vg) (s:=my dN) hm.1 (λx hx=>agL x (hm.2 x hx))
theorem anB (a:ar cH)(hm:qU (.sl jQ) a):dh (J3 a) (my (.sl jQ) a):=dh.list (f:=zD) (s:=my jQ) hm.1 (λx hx=>ah2 x (hm.2 x hx))
theorem agP (a:ar Vector)(hm:qU (.sl gV) a):dh (GV a) (my (.sl gV) a):=(dh.flat (n:=a.length) hm.1).cast (by simp only[my];rw[Es (λx _=>by simp only[my])];rfl)
theorem anx (a:ar Bool)(hm:qU (.sl .bool) a):dh (J1 a) (my (.sl .bool) a):=(dh.flat (n:=a.length) hm.1).cast (by simp only[my];rw[Es (λx _=>by simp only[my])];rfl)
theorem Y7 (a:Filter)(hm:qU zW a):dh (xL a) (my zW a):=
 dh.cast (f:=xL a) (dh.sub (KD a.2.2 hm.2.2) dh.nil) (by simp only[my];try omega)
theorem anC (a:ar gC)(hm:qU (.sl tr) a):dh (J4 a) (my (.sl tr) a):=(dh.flat (n:=a.length) hm.1).cast (by simp only[my];rw[Es (λx _=>by simp only[my])];rfl)
theorem anE (a:ar Slot)(hm:qU (.sl nj) a):dh (J6 a) (my (.sl nj) a):=(dh.flat (n:=a.length) hm.1).cast (by simp only[my];rw[Es (λx _=>by simp only[my])];rfl)
theorem aaV (a:ar Slot)(hm:qU (.sl nj) a):dh (wy a) (my (.sl nj) a):=
 dh.cast (f:=wy a) (dh.sub (anE a hm) dh.nil) (by simp only[my];try omega)
theorem akx (a:jJ)(hm:qU MN a):dh (Ds a) (my MN a):=
 dh.cast (f:=Ds a) (dh.len (n:=a.1.length) hm.1 (dh.sub (KD a.2 hm.2) dh.nil)) (by simp only[my];try omega)
theorem ad3 (a:fH)(hm:qU pH a):dh (yy a) (my pH a):=
 dh.cast (f:=yy a) (dh.sub (anC a.1 hm.1) (dh.sub (aaV a.2.1 hm.2.1) (dh.sub (akx a.2.2 hm.2.2) dh.nil))) (by simp only[my];try omega)
theorem aky (a:Stream)(hm:qU eu a):dh (xN a) (my eu a):=
 dh.cast (f:=xN a) (dh.len (n:=a.2.2.1.length) hm.2.2.1 dh.nil) (by simp only[my];try omega)
theorem agN (a:ar Stream)(hm:qU (.sl eu) a):dh (GU a) (my (.sl eu) a):=dh.list (f:=xN) (s:=my eu) hm.1 (λx hx=>aky x (hm.2 x hx))
theorem ao3 (a:Host)(hm:qU cR a):dh (Ed a) (my cR a):=
 dh.cast (f:=Ed a) (dh.sub (akw a.1 hm.1) (dh.sub (ad1 a.2.1 hm.2.1) (dh.sub (agO a.2.2.1 hm.2.2.1) (dh.sub (ad2 a.2.2.2.1 hm.2.2.2.1) (dh.sub (anB a.2.2.2.2.1 hm.2.2.2.2.1) (dh.sub (agP a.2.2.2.2.2.1 hm.2.2.2.2.2.1) (dh.sub (anx a.2.2.2.2.2.2.1 hm.2.2.2.2.2.2.1) (dh.sub (Y7 a.2.2.2.2.2.2.2.1 hm.2.2.2.2.2.2.2.1) (dh.sub (ad3 a.2.2.2.2.2.2.2.2.1 hm.2.2.2.2.2.2.2.2.1) (dh.sub (agN a.2.2.2.2.2.2.2.2.2.1 hm.2.2.2.2.2.2.2.2.2.1) (dh.sub (KE a.2.2.2.2.2.2.2.2.2.2.2.1 hm.2.2.2.2.2.2.2.2.2.2.2.1) (dh.sub (KD a.2.2.2.2.2.2.2.2.2.2.2.2.1 hm.2.2.2.2.2.2.2.2.2.2.2.2.1) (dh.sub (KD a.2.2.2.2.2.2.2.2.2.2.2.2.2.1 hm.2.2.2.2.2.2.2.2.2.2.2.2.2.1) dh.nil))))))))))))) (by simp only[my];try omega)
theorem anA (a:ar Host)(hm:qU (.sl cR) a):dh (J2 a) (my (.sl cR) a):=dh.list (f:=Ed) (s:=my cR) hm.1 (λx hx=>ao3 x (hm.2 x hx))
theorem NI (a:ar az)(hm:qU (.sl cz) a):dh (qm a) (my (.sl cz) a):=(dh.flat (n:=a.length) hm.1).cast (by simp only[my];rw[Es (λx _=>by simp only[my])];rfl)
theorem agK (a:bA)(hm:qU fP a):dh (vf a) (my fP a):=
 dh.cast (f:=vf a) (dh.sub (Y7 a.1 hm.1) dh.nil) (by simp only[my];try omega)
theorem ad0 (a:ar bA)(hm:qU (.sl fP) a):dh (EN a) (my (.sl fP) a):=dh.list (f:=vf) (s:=my fP) hm.1 (λx hx=>agK x (hm.2 x hx))
theorem anz (a:bp)(hm:qU (.sl .str) a):dh (Fw a) (my (.sl .str) a):=
 dh.cast (f:=Fw a) (dh.sub (KE a hm) dh.nil) (by simp only[my];try omega)
theorem ao2 (a:cJ)(hm:qU gW a):dh (HN a) (my gW a):=
 dh.cast (f:=HN a) (dh.sub (anA a.1 hm.1) (dh.sub (NI a.2.1 hm.2.1) (dh.sub (ad0 a.2.2.1 hm.2.2.1) (dh.sub (anz a.2.2.2.1 hm.2.2.2.1) (dh.sub (KD a.2.2.2.2.2.1 hm.2.2.2.2.2.1) (dh.sub (KE a.2.2.2.2.2.2 hm.2.2.2.2.2.2) dh.nil)))))) (by simp only[my];try omega)
theorem uk (a:cI)(h:bu 1048576 (.sl (.int .i64)) a):oe a=some a:=O6 (z:=0) (aF h.1 (by omega))
theorem vB (a:bp)(h:bu 1048576 (.sl .str) a):qq a=some a:=O6 (z:=([]:Bytes)) (aF h.1 (by omega))
theorem Zc (a:bp)(h:bu 1048576 (.sl .str) a):xO a=some a:=by first|(simp only[xO,vB _ h,ab];done)|(simp only[xO,vB _ h,ab];rfl)
theorem agT (a:aC)(h:bu 1048576 eE a):Bx a=some a:=rfl
theorem S8 (a:ar aC)(h:bu 1048576 (.sl eE) a):ET a=some a:=lF (f:=Bx) (z:=(0,0,0,false)) (aF h.1 (by omega)) (λx hx=>agT x (h.2 x hx))
theorem T7 (a:cS)(h:bu 1048576 yT a):HR a=some a:=rfl
theorem aa0 (a:cH)(h:bu 1048576 jQ a):vh a=some a:=by first|(simp only[vh,uk _ h.2.2.2,ab];done)|(simp only[vh,uk _ h.2.2.2,ab];rfl)
theorem apc (a:ia)(h:bu 1048576 kU a):zF a=some a:=by first|(simp only[zF,uk _ h.2.2,ab];done)|(simp only[zF,uk _ h.2.2,ab];rfl)
theorem aef (a:ar ia)(h:bu 1048576 (.sl kU) a):Kc a=some a:=lF (f:=zF) (z:=(0,0,([]:cI))) (aF h.1 (by omega)) (λx hx=>apc x (h.2 x hx))
theorem Wt (a:bX)(h:bu 1048576 ux a):vi a=some a:=by first|(simp only[vi,T7 _ h.1,aa0 _ h.2.1,aef _ h.2.2.1,ab];done)|(simp only[vi,T7 _ h.1,aa0 _ h.2.1,aef _ h.2.2.1,ab];rfl)
theorem sc (a:ee)(h:bu 1048576 nG a):lY a=some a:=rfl
theorem Wr (a:ed)(h:bu 1048576 IG a):G2 a=some a:=rfl
theorem Nx (a:aP)(h:bu 1048576 E8 a):sS a=some a:=by first|(simp only[sS,Wr _ h.2.2.2.2.2.2.2.2,ab];done)|(simp only[sS,Wr _ h.2.2.2.2.2.2.2.2,ab];rfl)
theorem aeh (a:kT)(h:bu 1048576 Oo a):Bz a=some a:=by first|(simp only[Bz,Nx _ h.1,ab];done)|(simp only[Bz,Nx _ h.1,ab];rfl)
theorem agU (a:bk)(h:bu 1048576 dN a):qp a=some a:=by first|(simp only[qp,T7 _ h.1,sc _ h.2.1,sc _ h.2.2.1,aeh _ h.2.2.2.1,ab];done)|(simp only[qp,T7 _ h.1,sc _ h.2.1,sc _ h.2.2.1,aeh _ h.2.2.2.1,ab];rfl)
theorem S9 (a:ar bk)(h:bu 1048576 (.sl dN) a):EU a=some a:=lF (f:=qp) (z:=((0,0,0,0),(0,0,0),(0,0,0),((0,0,0,0,0,0,0,0,0,0,0,0,0,0,0,([]:Bytes)),0,0),false,0)) (aF h.1 (by omega)) (λx hx=>agU x (h.2 x hx))
theorem aed (a:ar cH)(h:bu 1048576 (.sl jQ) a):Ka a=some a:=lF (f:=vh) (z:=(0,0,0,([]:cI))) (aF h.1 (by omega)) (λx hx=>aa0 x (h.2 x hx))
theorem akD (a:Vector)(h:bu 1048576 gV a):Dt a=some a:=rfl
theorem Wu (a:ar Vector)(h:bu 1048576 (.sl gV) a):G4 a=some a:=lF (f:=Dt) (z:=(0,0,0,0,false,false)) (aF h.1 (by omega)) (λx hx=>akD x (h.2 x hx))
theorem ad9 (a:ar Bool)(h:bu 1048576 (.sl .bool) a):J7 a=some a:=O6 (z:=false) (aF h.1 (by omega))
theorem Nw (a:Filter)(h:bu 1048576 zW a):sR a=some a:=by first|(simp only[sR,uk _ h.2.2,ab];done)|(simp only[sR,uk _ h.2.2,ab];rfl)
theorem apb (a:gC)(h:bu 1048576 tr a):HS a=some a:=rfl
theorem aee (a:ar gC)(h:bu 1048576 (.sl tr) a):Kb a=some a:=lF (f:=HS) (z:=(0,0,0,0,0,0,0,0,0)) (aF h.1 (by omega)) (λx hx=>apb x (h.2 x hx))
theorem T6 (a:gH)(h:bu 1048576 IE a):HQ a=some a:=rfl
theorem apd (a:Slot)(h:bu 1048576 nj a):zG a=some a:=by first|(simp only[zG,T6 _ h.2.1,ab];done)|(simp only[zG,T6 _ h.2.1,ab];rfl)
theorem aeg (a:ar Slot)(h:bu 1048576 (.sl nj) a):Kd a=some a:=lF (f:=zG) (z:=(0,(0,0,0,0,0),0)) (aF h.1 (by omega)) (λx hx=>apd x (h.2 x hx))
theorem QU (a:ar Slot)(h:bu 1048576 (.sl nj) a):qn a=some a:=by first|(simp only[qn,aeg _ h,ab];done)|(simp only[qn,aeg _ h,ab];rfl)
theorem Zd (a:jJ)(h:bu 1048576 MN a):xP a=some a:=by first|(simp only[xP,uk _ h.2,ab];done)|(simp only[xP,uk _ h.2,ab];rfl)
theorem Ta (a:fH)(h:bu 1048576 pH a):sv a=some a:=by first|(simp only[sv,aee _ h.1,QU _ h.2.1,Zd _ h.2.2,ab];done)|(simp only[sv,aee _ h.1,QU _ h.2.1,Zd _ h.2.2,ab];rfl)
theorem akC (a:Stream)(h:bu 1048576 eu a):sT a=some a:=by first|(simp only[sT,T6 _ h.1,ab];done)|(simp only[sT,T6 _ h.1,ab];rfl)
theorem Ws (a:ar Stream)(h:bu 1048576 (.sl eu) a):G3 a=some a:=lF (f:=sT) (z:=((0,0,0,0,0),0,([]:Bytes),false)) (aF h.1 (by omega)) (λx hx=>akC x (h.2 x hx))
theorem S6 (a:gH)(h:bu 1048576 IE a):ER a=some a:=rfl
theorem apa (a:Host)(h:bu 1048576 cR a):zE a=some a:=by first|(simp only[zE,Zc _ h.1,S8 _ h.2.1,Wt _ h.2.2.1,S9 _ h.2.2.2.1,aed _ h.2.2.2.2.1,Wu _ h.2.2.2.2.2.1,ad9 _ h.2.2.2.2.2.2.1,Nw _ h.2.2.2.2.2.2.2.1,Ta _ h.2.2.2.2.2.2.2.2.1,Ws _ h.2.2.2.2.2.2.2.2.2.1,vB _ h.2.2.2.2.2.2.2.2.2.2.2.1,uk _ h.2.2.2.2.2.2.2.2.2.2.2.2.1,uk _ h.2.2.2.2.2.2.2.2.2.2.2.2.2.1,S6 _ h.2.2.2.2.2.2.2.2.2.2.2.2.2.2,ab];done)|(simp only[zE,Zc _ h.1,S8 _ h.2.1,Wt _ h.2.2.1,S9 _ h.2.2.2.1,aed _ h.2.2.2.2.1,Wu _ h.2.2.2.2.2.1,ad9 _ h.2.2.2.2.2.2.1,Nw _ h.2.2.2.2.2.2.2.1,Ta _ h.2.2.2.2.2.2.2.2.1,Ws _ h.2.2.2.2.2.2.2.2.2.1,vB _ h.2.2.2.2.2.2.2.2.2.2.2.1,uk _ h.2.2.2.2.2.2.2.2.2.2.2.2.1,uk _ h.2.2.2.2.2.2.2.2.2.2.2.2.2.1,S6 _ h.2.2.2.2.2.2.2.2.2.2.2.2.2.2,ab];rfl)
theorem aec (a:ar Host)(h:bu 1048576 (.sl cR) a):J9 a=some a:=lF (f:=zE) (z:=(([]:bp),([]:ar aC),((0,0,0,0),(0,0,0,([]:cI)),([]:ar ia),0),([]:ar bk),([]:ar cH),([]:ar Vector),([]:ar Bool),(0,false,([]:cI)),(([]:ar gC),([]:ar Slot),([]:Bytes),([]:cI)),([]:ar Stream),false,([]:bp),([]:cI),([]:cI),0,0,0,0,0)) (aF h.1 (by omega)) (λx hx=>apa x (h.2 x hx))
theorem Zb (a:ee)(h:bu 1048576 nG a):Il a=some a:=rfl
theorem O7 (a:az)(h:bu 1048576 cz a):il a=some a:=by first|(simp only[il,Zb _ h.2.2.1,ab];done)|(simp only[il,Zb _ h.2.2.1,ab];rfl)
theorem E6 (a:ar az)(h:bu 1048576 (.sl cz) a):qs a=some a:=lF (f:=il) (z:=(0,0,(0,0,0),false,0,0)) (aF h.1 (by omega)) (λx hx=>O7 x (h.2 x hx))
theorem agS (a:bA)(h:bu 1048576 fP a):qo a=some a:=by first|(simp only[qo,Nw _ h.1,ab];done)|(simp only[qo,Nw _ h.1,ab];rfl)
theorem S7 (a:ar bA)(h:bu 1048576 (.sl fP) a):ES a=some a:=lF (f:=qo) (z:=((0,false,([]:cI)),0,0,0)) (aF h.1 (by omega)) (λx hx=>agS x (h.2 x hx))
theorem aeb (a:bp)(h:bu 1048576 (.sl .str) a):Bw a=some a:=by first|(simp only[Bw,vB _ h,ab];done)|(simp only[Bw,vB _ h,ab];rfl)
theorem aea (a:cS)(h:bu 1048576 yT a):J8 a=some a:=rfl
theorem ao9 (a:cJ)(h:bu 1048576 gW a):ra a=some a:=by first|(simp only[ra,aec _ h.1,E6 _ h.2.1,S7 _ h.2.2.1,aeb _ h.2.2.2.1,aea _ h.2.2.2.2.1,uk _ h.2.2.2.2.2.1,vB _ h.2.2.2.2.2.2,ab];done)|(simp only[ra,aec _ h.1,E6 _ h.2.1,S7 _ h.2.2.1,aeb _ h.2.2.2.1,aea _ h.2.2.2.2.1,uk _ h.2.2.2.2.2.1,vB _ h.2.2.2.2.2.2,ab];rfl)
theorem JB (a:cI)(h:bu 1000000000000 (.sl (.int .i64)) a):nZ a a=some true:=JA h.1
theorem JC (a:bp)(h:bu 1000000000000 (.sl .str) a):qg a a=some true:=JA h.1
theorem aiv (a:bp)(h:bu 1000000000000 (.sl .str) a):Dm a a=some true:=by simp[Dm,JC _ h]
theorem aeW (a:aC)(h:bu 1000000000000 eE a):uU a a=some true:=by simp[uU]
theorem abz (a:ar aC)(h:bu 1000000000000 (.sl eE) a):EL a a=some true:=iL (f:=uU) h.1 (λx hx=>aeW x (h.2 x hx))
theorem ahg (a:cS)(h:bu 1000000000000 yT a):D9 a a=some true:=by simp[D9]
theorem ahf (a:cH)(h:bu 1000000000000 jQ a):zC a a=some true:=by simp[zC,JB _ h.2.2.2]
theorem aod (a:ia)(h:bu 1000000000000 kU a):Eb a a=some true:=by simp[Eb,JB _ h.2.2]
theorem alh (a:ar ia)(h:bu 1000000000000 (.sl kU) a):JY a a=some true:=iL (f:=Eb) h.1 (λx hx=>aod x (h.2 x hx))
theorem ae0 (a:bX)(h:bu 1000000000000 ux a):AR a a=some true:=by simp[AR,ahg _ h.1,ahf _ h.2.1,alh _ h.2.2.1]
theorem Gn (a:ee)(h:bu 1000000000000 nG a):jn a a=some true:=by simp[jn]
theorem aeY (a:ed)(h:bu 1000000000000 IG a):AQ a a=some true:=by simp[AQ]
theorem aiw (a:aP)(h:bu 1000000000000 E8 a):Dp a a=some true:=by simp[Dp,aeY _ h.2.2.2.2.2.2.2.2]
theorem alj (a:kT)(h:bu 1000000000000 Oo a):Fv a a=some true:=by simp[Fv,aiw _ h.1]
theorem aeX (a:bk)(h:bu 1000000000000 dN a):uV a a=some true:=by simp[uV,ahg _ h.1,Gn _ h.2.1,Gn _ h.2.2.1,alj _ h.2.2.2.1]
theorem abA (a:ar bk)(h:bu 1000000000000 (.sl dN) a):EM a a=some true:=iL (f:=uV) h.1 (λx hx=>aeX x (h.2 x hx))
theorem alf (a:ar cH)(h:bu 1000000000000 (.sl jQ) a):JW a a=some true:=iL (f:=zC) h.1 (λx hx=>ahf x (h.2 x hx))
theorem aiz (a:Vector)(h:bu 1000000000000 gV a):xJ a a=some true:=by simp[xJ]
theorem ae1 (a:ar Vector)(h:bu 1000000000000 (.sl gV) a):GO a a=some true:=iL (f:=xJ) h.1 (λx hx=>aiz x (h.2 x hx))
theorem alb (a:ar Bool)(h:bu 1000000000000 (.sl .bool) a):JU a a=some true:=JA h.1
theorem XL (a:Filter)(h:bu 1000000000000 zW a):xH a a=some true:=by simp[xH,JB _ h.2.2]
theorem aoc (a:gC)(h:bu 1000000000000 tr a):Ea a a=some true:=by simp[Ea]
theorem alg (a:ar gC)(h:bu 1000000000000 (.sl tr) a):JX a a=some true:=iL (f:=Ea) h.1 (λx hx=>aoc x (h.2 x hx))
theorem ahe (a:gH)(h:bu 1000000000000 IE a):D7 a a=some true:=by simp[D7]
theorem aoe (a:Slot)(h:bu 1000000000000 nj a):Ec a a=some true:=by simp[Ec,ahe _ h.2.1]
theorem ali (a:ar Slot)(h:bu 1000000000000 (.sl nj) a):JZ a a=some true:=iL (f:=Ec) h.1 (λx hx=>aoe x (h.2 x hx))
theorem ZH (a:ar Slot)(h:bu 1000000000000 (.sl nj) a):wk a a=some true:=by simp[wk,ali _ h]
theorem aix (a:jJ)(h:bu 1000000000000 MN a):Dq a a=some true:=by simp[Dq,JB _ h.2]
theorem abB (a:fH)(h:bu 1000000000000 pH a):yx a a=some true:=by simp[yx,alg _ h.1,ZH _ h.2.1,aix _ h.2.2]
theorem aiy (a:Stream)(h:bu 1000000000000 eu a):xI a a=some true:=by simp[xI,ahe _ h.1]
theorem aeZ (a:ar Stream)(h:bu 1000000000000 (.sl eu) a):GN a a=some true:=iL (f:=xI) h.1 (λx hx=>aiy x (h.2 x hx))
theorem abx (a:gH)(h:bu 1000000000000 IE a):yw a a=some true:=by simp[yw]
theorem aob (a:Host)(h:bu 1000000000000 cR a):D8 a a=some true:=by simp[D8,aiv _ h.1,abz _ h.2.1,ae0 _ h.2.2.1,abA _ h.2.2.2.1,alf _ h.2.2.2.2.1,ae1 _ h.2.2.2.2.2.1,alb _ h.2.2.2.2.2.2.1,XL _ h.2.2.2.2.2.2.2.1,abB _ h.2.2.2.2.2.2.2.2.1,aeZ _ h.2.2.2.2.2.2.2.2.2.1,JC _ h.2.2.2.2.2.2.2.2.2.2.2.1,JB _ h.2.2.2.2.2.2.2.2.2.2.2.2.1,JB _ h.2.2.2.2.2.2.2.2.2.2.2.2.2.1,abx _ h.2.2.2.2.2.2.2.2.2.2.2.2.2.2]
theorem ale (a:ar Host)(h:bu 1000000000000 (.sl cR) a):JV a a=some true:=iL (f:=D8) h.1 (λx hx=>aob x (h.2 x hx))
theorem aiu (a:ee)(h:bu 1000000000000 nG a):Dl a a=some true:=by simp[Dl]
theorem OD (a:az)(h:bu 1000000000000 cz a):jo a a=some true:=by simp[jo,aiu _ h.2.2.1]
theorem Nz (a:ar az)(h:bu 1000000000000 (.sl cz) a):qh a a=some true:=iL (f:=jo) h.1 (λx hx=>OD x (h.2 x hx))
theorem aeV (a:bA)(h:bu 1000000000000 fP a):uT a a=some true:=by simp[uT,XL _ h.1]
theorem aby (a:ar bA)(h:bu 1000000000000 (.sl fP) a):EK a a=some true:=iL (f:=uT) h.1 (λx hx=>aeV x (h.2 x hx))
theorem ald (a:bp)(h:bu 1000000000000 (.sl .str) a):Fu a a=some true:=by simp[Fu,JC _ h]
theorem alc (a:cS)(h:bu 1000000000000 yT a):Ft a a=some true:=by simp[Ft]
theorem ahd (a:cJ)(h:bu 1000000000000 gW a):uS a a=some true:=by simp[uS,ale _ h.1,Nz _ h.2.1,aby _ h.2.2.1,ald _ h.2.2.2.1,alc _ h.2.2.2.2.1,JB _ h.2.2.2.2.2.1,JC _ h.2.2.2.2.2.2]
theorem aqD (a:Act)(hm:qU aib a):dh (J0 a) (my aib a):=
 dh.cast (f:=J0 a) (dh.sub (Y8 a.2.1 hm.2.1) (dh.len (n:=a.2.2.2.2.1.length) hm.2.2.2.2.1 dh.nil)) (by simp only[my];try omega)
theorem agJ (a:lR)(hm:qU zV a):dh (Bt a) (my zV a):=
 dh.cast (f:=Bt a) (dh.sub (aqD a.2.2.1 hm.2.2.1) (dh.len (n:=a.2.2.2.2.1.length) hm.2.2.2.2.1 dh.nil)) (by simp only[my];try omega)
theorem anL (a:Act)(h:bu 1048576 aib a):GW a=some a:=by first|(simp only[GW,Nx _ h.2.1,ab];done)|(simp only[GW,Nx _ h.2.1,ab];rfl)
theorem Wq (a:ee)(h:bu 1048576 nG a):GZ a=some a:=rfl
theorem agR (a:lR)(h:bu 1048576 zV a):mK a=some a:=by first|(simp only[mK,anL _ h.2.2.1,Wq _ h.2.2.2.1,ab];done)|(simp only[mK,anL _ h.2.2.1,Wq _ h.2.2.2.1,ab];rfl)
def dp (a lo hi:Int):Bool:=decide (lo<=a)&&decide (a<=hi)
theorem bq {lo hi:Int}:dp a lo hi=true↔lo<=a/\a<=hi:=by simp[dp]
theorem cj (a b c:Int):aI a b c=some (dp a b c):=by grind[aI,ab,dp]
theorem cq (a b c:Int):aB a b c=some (dp a b c):=cj a b c
theorem dv {l:ar α}{i:Nat}(h:i<l.length)(d:α):l.getD i d=l[i]:=by grind
def On (l:cI)(i:Nat):Bool:=dp (l.getD i 0) 0 4095&& !(decide (0<i)&&decide (l.getD i 0<=l.getD (i-1) 0))
def ie (f:Filter):Bool:=(range f.2.2.length).all (On f.2.2)&&(dp f.1 0 281474976710654&&decide ((f.2.2.length:Int)<=8))
theorem za (f:Filter)(h:f.2.2.length<=10^9):gx f=some (ie f):=by
 unfold gx;rw[gR (fin:=some (dp f.1 0 281474976710654&&decide ((f.2.2.length:Int)<=8))) (On f.2.2) f.2.2.length (by omega) (λi nx hi=>?hs) (λnx=>?hf)]
 case hs=>
  simp only[wG]
  rw[gN,aN hi,aj (n:=(i)+1) (by omega) (by omega)]
  simp only[af,ab,cj,On,dv hi]
  by_cases h0:0<i
  ·have e:ak ((i)-1)=((i-1:Nat)):=by rw[aj (by omega) (by omega)];omega
   have hp:i-1<f.2.2.length:=by omega
   rw[e,aN hp,ax (show(i:Int)>0 by omega),ax h0,dv hp]
   simp only[af,ab,bj]
   cases dp f.2.2[i] 0 4095<;>cases decide (f.2.2[i]<=f.2.2[i-1])<;>rfl
  ·rw[aq (show¬(i:Int)>0 by omega),aq h0]
   cases dp f.2.2[i] 0 4095<;>rfl
 case hf=>
  simp only[wG]
  rw[fF]
  simp only[ae,cj,ab,cg]
  cases dp f.1 0 281474976710654<;>rfl
 unfold ie;cases (range f.2.2.length).all (On f.2.2)<;>rfl
theorem uI (f:Filter)(h:f.2.2.length<=10^9):iJ f=some (ie f):=by
 unfold iJ;rw[gR (fin:=some (dp f.1 0 281474976710654&&decide ((f.2.2.length:Int)<=8))) (On f.2.2) f.2.2.length (by omega) (λi nx hi=>?hs) (λnx=>?hf)]
 case hs=>
  simp only[vK]
  rw[gN,aN hi,aj (n:=(i)+1) (by omega) (by omega)]
  simp only[af,ab,cq,On,dv hi]
  by_cases h0:0<i
  ·have e:ak ((i)-1)=((i-1:Nat)):=by rw[aj (by omega) (by omega)];omega
   have hp:i-1<f.2.2.length:=by omega
   rw[e,aN hp,ax (show(i:Int)>0 by omega),ax h0,dv hp]
   simp only[af,ab,bj,ge_iff_le]
   cases dp f.2.2[i] 0 4095<;>cases decide (f.2.2[i]<=f.2.2[i-1])<;>rfl
  ·rw[aq (show¬(i:Int)>0 by omega),aq h0]
   cases dp f.2.2[i] 0 4095<;>rfl
 case hf=>
  simp only[vK]
  rw[fF]
  simp only[ae,cq,ab,cg]
  cases dp f.1 0 281474976710654<;>rfl
 unfold ie;cases (range f.2.2.length).all (On f.2.2)<;>rfl
def Jb (r:gC):Bool:=(oC r).getD false
theorem V9 (r:gC):oC r=some (Jb r):=by simp_all[oC,cj,cg,Jb]
theorem amj (r:gC):HI r=some (Jb r):=V9 r
theorem adl {r:gC}(h:Jb r=true):r.2.2.2.2.2.2.2.1=0\/r.2.2.2.2.2.2.2.2=0:=by
 by_cases h0:r.2.2.2.2.2.2.2.1=0;exact .inl h0;by_cases h1:r.2.2.2.2.2.2.2.2=0;exact .inr h1;exfalso;have e0:(r.2.2.2.2.2.2.2.1==0)=false:=by simp[h0]
 have e1:(r.2.2.2.2.2.2.2.2==0)=false:=by simp[h1]
 revert h;unfold Jb;simp only[oC,cj,ab,cg,e0,e1,ae,fT];have z:∀c:Bool,(bif c then false else false)=false:=by intro c;cases c<;>rfl
 simp only[z];intro h;cases h
def Hf (l:ar gC):Bool:=l.all Jb&&decide ((l.length:Int)<=12)
theorem Np (l:ar gC)(h:l.length<=10^9):BW l=some (Hf l):=by unfold BW;rw[vE (hit:=some false) (fin:=some (decide ((l.length:Int)<=12))) Jb l (by omega) (λi hi nx=>?hs) (λnx=>?hf)];all_goals grind[EV,aN,aj,ab,V9,Hf]
theorem Ye (l:ar gC)(h:l.length<=10^9):Fp l=some (Hf l):=by rw[<-Np l h];rfl
theorem azh (x:Int):((BitVec.ofInt 64 x&&&BitVec.ofInt 64 7).toNat:Int)=x%8:=by
 have h7:(BitVec.ofInt 64 7).toNat=2^3-1:=by decide
 rw[BitVec.toNat_and,h7,Nat.and_two_pow_sub_one_eq_mod];grind[BitVec.toNat_ofInt]
theorem aqU (x:Int):((gr x&&&gr 7).toNat:Int)=x%8:=azh x
theorem aoH (x:Int):jB x 8=some (x%8):=by grind[jB,aj]
def NP (f:gH):Int:=(f.1%8+f.2.1%8+f.2.2.1%8+f.2.2.2.1%8+f.2.2.2.2%8)%8
theorem ab6 (f:gH):0<=NP f/\NP f<8:=by unfold NP;omega
theorem apD {n:Int}(h:0<=n):tmod n 8=n%8:=ft h
theorem ani (f:gH):DE f=some (NP f):=by
 unfold DE;generalize hL:[f.1,f.2.1,f.2.2.1,f.2.2.2.1,f.2.2.2.2]=L;have hlen:L.length=5:=by rw[<-hL];rfl
 have Cg:=dc;have key:=CD (T:=qL (λ(y2) (y3)=>if 8=0 then none else(some (tmod y2 8))) L) L (λ(s) i=>(s,(i))) (λx s k=>k (ak (s+ak (x%8)))) (λs=>some (tmod s 8)) (λi hi s nx=>by simp only[qL];rw[gN,aN hi,aj (by omega) (by omega)];grind[ab,aqU]) (λs nx=>by grind[qL]) fuel 0 0 (by omega) (by omega);refine key.trans ?_;rw[<-hL];simp(disch:=omega)[zv,aj,apD,NP]
theorem al9 (f:gH):Da f=some (NP f):=by
 unfold Da;generalize hL:[f.1,f.2.1,f.2.2.1,f.2.2.2.1,f.2.2.2.2]=L;have hlen:L.length=5:=by rw[<-hL];rfl
 have Cg:=dc;have key:=CD (T:=pX (λ(y2) (y3)=>if 8=0 then none else(some (tmod y2 8))) L (L.length)) L (λ(s) i=>(s,(i))) (λx s k=>k (ak (s+(x%8)))) (λs=>some (tmod s 8)) (λi hi s nx=>by grind[pX,aN,aj,ab,aoH]) (λs nx=>by grind[pX]) fuel 0 0 (by omega) (by omega);refine key.trans ?_;rw[<-hL];simp(disch:=omega)[zv,aj,apD,NP]
def gF (t:ar Slot)(i:Nat):Slot:=t.getD i (0,(0,0,0,0,0),0)
theorem CJ {t:ar Slot}{i:Nat}(h:i<t.length):gF t i=t[i]:=dv h _
def ni (f:gH)(k:Nat):Nat:=((NP f).toNat+k)%8
theorem Q0 (f:gH)(k:Nat):ni f k<8:=Nat.mod_lt _ (by omega)
theorem aem (f:gH)(k:Nat)(h:k<8):tmod (ak (NP f+(k:Int))) 8=(ni f k:Int):=by have:=ab6 f;grind[aj,ni]
def sK (s:Slot)(f:gH):Bool:=(s.1==1)&&decide (s.2.1=f)
theorem ZN (p q:gH):((p.1==q.1)&&((p.2.1==q.2.1)&&((p.2.2.1==q.2.2.1)&&((p.2.2.2.1==q.2.2.2.1)&&((p.2.2.2.2==q.2.2.2.2)&&true)))))=decide (p=q):=by grind
def walk (t:ar Slot)(f:gH):Nat->Nat->Int
 |0,_=> -1
 |n+1,k=>if(gF t (ni f k)).1=0 then-1 else if sK (gF t (ni f k)) f then(ni f k:Int) else walk t f n (k+1)
theorem adG (t:ar Slot)(f:gH)(ht:t.length=8):FQ t f=some (walk t f 8 0):=by
 have Cg:=dc
 have key:=Na (T:=yK (λ(y6)=>some (-1)) (λ(y7) (y8)=>some y7) 0 t f) 8 (λ(_) i=>(i))
  (λi s k=>if(gF t (ni f i)).1=0 then some (-1) else if sK (gF t (ni f i)) f then some (ni f i) else k s) (λ_=>some (-1))
  (λi s nx hi=>by
   have hw:ni f i<t.length:=by have:=Q0 f i;omega
   simp only[yK,ani];rw[gN,aj (by omega) (by omega)];simp only[af,ab,aem f i hi,aN hw,CJ hw,ZN,sK,cg,ab];by_cases h0:t[ni f i].1=0;simp[h0];have e0:(t[ni f i].1==0)=false:=by simp[h0]
   rw[e0,aK h0];cases (t[ni f i].1==1)<;>cases decide (t[ni f i].2.1=f)<;>rfl)
  (λs nx=>by rfl)
  fuel 0 () (by omega) (by omega)
 refine key.trans ?_;have main:∀n i,upK (R:=Int) (λi (s) k=>if(gF t (ni f i)).1=0 then some (-1) else if sK (gF t (ni f i)) f then some (ni f i) else k s) (λ_=>some (-1)) 8 n i ()=some (walk t f n i):=by intro n;induction n with|zero=>intro i;rfl|succ n ih=>intro i;rw[upK,walk];split;rfl;split;rfl;exact ih (i+1)
 exact main 8 0
def ED (f:gH):ar Slot->Int->Int
 |[],_=> -1
 |s::r,i=>if sK s f then i else ED f r (i+1)
theorem acy (t:ar Slot)(f:gH)(h:t.length<=10^9):HJ t f=some (ED f t 0):=by
 have Cg:=dc;have key:∀n i,i<=t.length->t.length-i<n->aH (AO (λ(y3)=>some (-1)) (λ(y4) (y5)=>some y4) 0 t ((List.length t)) f) n (i)=some (ED f (t.drop i) i):=by
  intro n;induction n with
  |zero=>intro i _ h;omega
  |succ n ih=>
   intro i hi hn;rw[aH];simp only[AO];rcases bS i t.length with iG|Fe;rw[gN,aN iG,cf iG,ED,aj (by omega) (by omega)];simp only[af,ab,ZN,cg];have e:(bif t[i].1==1 then decide (t[i].2.1=f) else false)=sK t[i] f:=by unfold sK;cases (t[i].1==1)<;>rfl
   rw[e];cases sK t[i] f with|true=>rfl|false=>exact ih (i+1) (by omega) (by omega)
   have:i=t.length:=by omega
   subst this;rw[fF,List.drop_length];rfl
 exact key fuel 0 (by omega) (by omega)
theorem aoC (f:gH):OT f=some ((range 8).map λk=>(ni f k:Int)):=by have Cg:=dc;have key:=Na (T:=Dk (λ(y2) (y3)=>some y2) f) 8 (λ(_) i=>((range i).map (λk=>(ni f k)),(i))) (λ_ s k=>k s) (λ_=>some ((range 8).map λk=>(ni f k))) (λi s nx hi=>by grind[Dk,al9,aj,ab,aem,aQ,List.range_succ]) (λs nx=>by rfl) fuel 0 () (by omega) (by omega);exact key
def clear (t:ar Slot)(f:gH)(i:Nat):Nat->Nat->Bool
 |0,_=>true
 |n+1,k=>if ni f k=i then true else if(gF t (ni f k)).1=0 then false else clear t f i n (k+1)
theorem aiU (k0:Int->au R)(k1:Bool->Int->au R)(hit fin:au R)(h0:∀x,k0 x=fin)(h1:∀x,k1 false x=hit)(v2:Bool)(i:Nat)(T8:ar Slot)(Xs v14:Int)(t:ar Slot)(f:gH)(ht:t.length=8): aH (qb k0 k1 v2 (i:Int) T8 Xs v14 ((range 8).map λk=>(ni f k:Int)) (((range 8).map λk=>(ni f k:Int)).length:Int) t) fuel 0=cond (clear t f i 8 0) fin hit:=by
 have Cg:=dc;have hl:((range 8).map λk=>(ni f k:Int)).length=8:=by simp
 have key:=Na (T:=qb k0 k1 v2 (i) T8 Xs v14 ((range 8).map λk=>(ni f k)) (((range 8).map λk=>(ni f k:Int)).length) t) 8 (λ(_) i=>(i))
  (λk s c=>if ni f k=i then fin else if(gF t (ni f k)).1=0 then hit else c s) (λ_=>fin)
  (λk s nx hk=>by
   have hw:ni f k<t.length:=by have:=Q0 f k;omega
   simp only[qb];rw[gN,aN (show k<((range 8).map λk=>(ni f k:Int)).length by omega),aj (by omega) (by omega)];simp only[af,ab,List.getElem_map,List.getElem_range,aN hw,CJ hw,h0,h1];by_cases e1:ni f k=i;subst e1;simp;have:((ni f k:Int)==(i))=false:=by simp;omega
   rw[this,aK e1];by_cases e2:t[ni f k].1=0;simp[e2];have:(t[ni f k].1==0)=false:=by simp[e2]
   rw[this,aK e2];rfl)
  (λs nx=>by exact h0 _)
  fuel 0 () (by omega) (by omega)
 refine key.trans ?_;have main:∀n k,upK (λk (s) c=>if ni f k=i then fin else if(gF t (ni f k)).1=0 then hit else c s) (λ_=>fin) 8 n k ()=cond (clear t f i n k) fin hit:=by intro n;induction n with|zero=>intro k;rfl|succ n ih=>intro k;rw[upK,clear];split;rfl;split;rfl;exact ih (k+1)
 exact main 8 0
def abP:gH:=(0,0,0,0,0)
theorem abQ (p:gH):((p.1==0)&&((p.2.1==0)&&((p.2.2.1==0)&&((p.2.2.2.1==0)&&((p.2.2.2.2==0)&&true)))))=decide (p=abP):=ZN p abP
def YP (s:Slot):Bool:=dp s.1 0 2&&dp s.2.2 0 3&&((s.1==1)||(s.2.2==0)&&decide (s.2.1=abP))
def qA (t:ar Slot)(i:Nat):Bool:=YP (gF t i)&&(!((gF t i).1==1)||(walk t (gF t i).2.1 8 0==(i:Int)))
def zy (t:ar Slot)(i:Nat):Bool:=YP (gF t i)&&(!((gF t i).1==1)||(ED (gF t i).2.1 t 0==(i:Int))&&clear t (gF t i).2.1 i 8 0)
def Cc (t:ar Slot):Bool:=(t.length==8)&&(range 8).all (qA t)
theorem YW (t:ar Slot):BZ t=some (Cc t):=by
 unfold BZ Cc;by_cases ht:t.length=8
 ·have e:((t.length:Int) !=8)=false:=by rw[ht];rfl
  have e2:(t.length==8)=true:=by rw[ht];rfl
  rw[e,e2];rw[gR (qA t) 8 (by omega) (λi nx hi=>?hs) (λnx=>?hf)]
  case hs=>
   have hl:i<t.length:=by omega
   simp only[yI]
   rw[gN,aN hl,aj (by omega) (by omega)]
   simp only[af,ab,cj,cg,abQ,adG t _ ht,qA,CJ hl,YP,bne]
   cases dp t[i].1 0 2<;>cases dp t[i].2.2 0 3<;>cases (t[i].1==1)<;>cases (t[i].2.2==0)<;>cases decide (t[i].2.1=abP)<;>first|rfl|(cases (walk t t[i].2.1 8 0==(i))<;>rfl)
  case hf=>
   simp only[yI]
   rw[fF];rfl
  cases (range 8).all (qA t)<;>rfl
 have e:((t.length:Int) !=8)=true:=by simp;omega
 have e2:(t.length==8)=false:=by simp[ht]
 rw[e,e2];rfl
theorem afw (t:ar Slot):vX t=some ((t.length==8)&&(range 8).all (zy t)):=by
 unfold vX;by_cases ht:t.length=8
 ·have e:((t.length:Int) !=8)=false:=by rw[ht];rfl
  have e2:(t.length==8)=true:=by rw[ht];rfl
  rw[e,e2];rw[gR (zy t) 8 (by omega) (λi nx hi=>?hs) (λnx=>?hf)]
  case hs=>
   have hl:i<t.length:=by omega
   simp only[yr]
   rw[gN,aN hl,aj (by omega) (by omega)]
   simp only[af,ab,cq,cg,abQ,acy t _ (show t.length<=10^9 by omega),aoC,zy,CJ hl,YP,bne]
   rw[aiU (λ_=>nx ((i)+1)) (λ(y) (_)=>some y) (some false) (nx ((i)+1)) (λ_=>rfl) (λ_=>rfl) _ _ _ _ _ _ _ ht]
   cases dp t[i].1 0 2<;>cases dp t[i].2.2 0 3<;>cases (t[i].1==1)<;>cases (t[i].2.2==0)<;>cases decide (t[i].2.1=abP)<;>first|rfl|(cases (ED t[i].2.1 t 0==(i))<;>first|rfl|(cases clear t t[i].2.1 i 8 0<;>rfl))
  case hf=>
   simp only[yr]
   rw[fF];rfl
  cases (range 8).all (zy t)<;>rfl
 have e:((t.length:Int) !=8)=true:=by simp;omega
 have e2:(t.length==8)=false:=by simp[ht]
 rw[e,e2];rfl
theorem Zh (t:ar Slot)(f:gH)(i:Nat):∀n k,walk t f n k=(i:Int)->sK (gF t i) f=true/\clear t f i n k=true/\∃j,j<n/\ni f (k+j)=i
 |0,k,h=>by unfold walk at h;omega
 |n+1,k,h=>by
  unfold walk at h;unfold clear;by_cases h0:(gF t (ni f k)).1=0;omega;rw[aK h0]at h;by_cases h1:sK (gF t (ni f k)) f=true;rw[aM h1]at h;have:ni f k=i:=by omega
  subst this;exact⟨h1,by simp,0,by omega,rfl⟩;rw[aK h1]at h;obtain⟨a,b,j,hj,e⟩:=Zh t f i n (k+1) h;refine⟨a,?_,j+1,by omega,by rw[<-e];congr 1;omega⟩;rw[aK h0,b];split<;>rfl
theorem ah9 (t:ar Slot)(f:gH)(i:Nat)(hu:sK (gF t i) f=true)(apy:∀j,j<8->sK (gF t j) f=true->j=i):∀n k,clear t f i n k=true->(∃j,j<n/\ni f (k+j)=i)->walk t f n k=(i:Int)
 |0,k,_,h=>by omega
 |n+1,k,hc,⟨j,hj,e⟩=>by unfold walk;unfold clear at hc;by_cases h1:ni f k=i;rw[h1,aK,aM hu];intro h0;unfold sK at hu;rw[h0]at hu;simp at hu;rw[aK h1]at hc;by_cases h0:(gF t (ni f k)).1=0;rw[aM h0]at hc;cases hc;rw[aK h0]at hc;rw[aK h0,aK (λX4=>h1 (apy _ (Q0 f k) X4))];refine ah9 t f i hu apy n (k+1) hc ?_;cases j with|zero=>exact absurd e h1|succ j=>exact⟨j,by omega,by rw[<-e];congr 1;omega⟩
theorem apf (f:gH)(i:Nat)(hi:i<8):∃j,j<8/\ni f (0+j)=i:=by have:=ab6 f;refine⟨(i+8-(NP f).toNat)%8,by omega,?_⟩;unfold ni;omega
theorem LM (f:gH):∀(t:ar Slot)(m:Nat),(∃j,j<t.length/\sK (gF t j) f=true)->∃j,j<t.length/\sK (gF t j) f=true/\ED f t m=((m+j:Nat):Int)
 |[],_,h=>by obtain⟨j,hj,_⟩:=h;simp at hj
 |s::r,m,⟨j,hj,e⟩=>by
  unfold ED;by_cases hs:sK s f=true;rw[aM hs];exact⟨0,by simp,by simpa[gF]using hs,by simp⟩;rw[aK hs];cases j with
  |zero=>exact absurd (by simpa[gF]using e) hs
  |succ j=>
   obtain⟨j',h1,h2,h3⟩:=LM f r (m+1) ⟨j,by simpa using hj,by simpa[gF]using e⟩;refine⟨j'+1,by simpa using h1,by simpa[gF]using h2,?_⟩;have:((m:Int)+1)=((m+1:Nat)):=by omega
   rw[this,h3];congr 1;omega
theorem agh (t:ar Slot)(ht:t.length=8):(range 8).all (zy t)=(range 8).all (qA t):=by
 rw[dQ,aO,aO];simp only[bU];constructor;intro h i hi;have hI:=h i hi;unfold zy at hI;unfold qA;simp only[ah,dy,aU,bn]at hI⊢;refine⟨hI.1,?_⟩;rcases hI.2 with h1|⟨h1,h2⟩;exact .inl h1;by_cases hu:((gF t i).1==1)=true;right;have X4:sK (gF t i) (gF t i).2.1=true:=by unfold sK;rw[hu];simp
 refine ah9 t _ i X4 (λj hj huj=>?_) 8 0 h2 (apf _ i hi);have hJ:=h j hj;unfold zy at hJ;unfold sK at huj;simp only[ah,bI]at huj;simp only[ah,dy,aU,bn]at hJ;rcases hJ.2 with h3|⟨h3,_⟩;rw[huj.1]at h3;cases h3;rw[huj.2]at h3;omega;exact .inl (by simpa using hu);intro h i hi;have hI:=h i hi;unfold qA at hI;unfold zy;simp only[ah,dy,aU,bn]at hI⊢;refine⟨hI.1,?_⟩;rcases hI.2 with h1|h1;exact .inl h1;right;obtain⟨hu,hc,_⟩:=Zh t _ i 8 0 h1;refine⟨?_,hc⟩;obtain⟨j,hj,huj,e⟩:=LM (gF t i).2.1 t 0 ⟨i,by omega,hu⟩;have hJ:=h j (by omega);unfold qA at hJ;unfold sK at huj;simp only[ah,bI]at huj;simp only[ah,dy,aU,bn]at hJ;rcases hJ.2 with h3|h3;rw[huj.1]at h3;cases h3;rw[huj.2,h1]at h3;have e':ED (gF t i).2.1 t 0=((0+j)):=e;omega
theorem Yi (t:ar Slot):vX t=some (Cc t):=by
 rw[afw,Cc];by_cases ht:t.length=8;rw[agh t ht];have e2:(t.length==8)=false:=by simp[ht]
 rw[e2];rfl
def ahR (n:Int):Bool:=(n==1)||(n==2)||(n==4)||(n==8)||(n==16)
theorem afI (n:Int):FO n=some (ahR n):=by grind[FO,ab,ahR]
def FX (s:jJ)(q:Int):Bool:=dp q 1 4&&((s.1.length:Int)==16)&&ahR s.2.length&&s.2.all λx=>dp x 0 (q-1)
theorem O1 (s:jJ)(q:Int)(h:s.2.length<=10^9):yd s q=some (FX s q):=by
 unfold yd FX;simp only[cj,afI,ab,cg,bne];by_cases hq:dp q 1 4=true
 ·rw[vE (λx=>dp x 0 (q-1)) s.2 (by omega) (λi hi nx=>?hs) (λnx=>?hf)]
  case hs=>
   rw[bq]at hq
   simp only[wP]
   rw[gN,aN hi,aj (by omega) (by omega),aj (by omega) (by omega)]
   simp only[af,ab,cj];rfl
  case hf=>
   simp only[wP]
   rw[fF];rfl
  rw[hq];cases ((s.1.length:Int)==16)<;>cases ahR s.2.length<;>cases s.2.all (λx=>dp x 0 (q-1))<;>rfl
 have hq':dp q 1 4=false:=by simpa using hq
 rw[hq'];rfl
theorem Vk (s:jJ)(q:Int)(h:s.2.length<=10^9):Dh s q=some (FX s q):=by rw[<-O1 s q h];rfl
def jb (s:fH)(q:Int):Bool:=Hf s.1&&Cc s.2.1&&FX s.2.2 q&&s.1.all (λr=> !(decide (r.2.2.2.2.2.2.2.2>=q)))&&s.2.1.all (λx=> !(decide (x.2.2>=q)))
theorem QJ (s:fH)(q:Int)(h1:s.1.length<=10^9)(h2:s.2.1.length<=10^9)(h3:s.2.2.2.length<=10^9):sI s q=some (jb s q):=by
 unfold sI jb;simp only[Np _ h1,YW,O1 _ _ h3,ab,cg];rw[vE (hit:=some false) (fin:=cond (s.2.1.all (λx=> !(decide (x.2.2>=q)))) (some true) (some false)) (λr:gC=> !(decide (r.2.2.2.2.2.2.2.2>=q))) s.1 (by omega) (λi hi nx=>?hs) (λnx=>?hf)]
 case hs=>
  grind[rV,aN,aj,ab]
 case hf=>
  simp only[rV]
  rw[fF]
  simp only[ae]
  rw[vE (λx:Slot=> !(decide (x.2.2>=q))) s.2.1 (by omega) (λi hi nx=>?hs) (λnx=>?hf)]
  all_goals grind[zb,aN,aj,ab]
 grind
theorem P5 (s:fH)(q:Int)(h1:s.1.length<=10^9)(h2:s.2.1.length<=10^9)(h3:s.2.2.2.length<=10^9):sr s q=some (jb s q):=by
 unfold sr jb;simp only[Ye _ h1,Yi,Vk _ _ h3,ab,cg];rw[vE (λr:gC=> !((r.2.2.2.2.2.2.2.1==0)&&decide (r.2.2.2.2.2.2.2.2>=q))) s.1 (by omega) (λi hi nx=>?hs) (λnx=>?hf)]
 case hs=>
  simp only[rA]
  rw[gN,aN hi,aj (by omega) (by omega)]
  simp only[af,ab,ln,cg]
  cases (s.1[i].2.2.2.2.2.2.2.1==0)<;>rfl
 case hf=>
  simp only[rA]
  rw[fF]
  simp only[ae]
  rw[vE (λx:Slot=> !((x.1==1)&&decide (x.2.2>=q))) s.2.1 (by omega) (λi hi nx=>?hs) (λnx=>?hf)]
  case hs=>
   simp only[pj]
   rw[gN,aN hi,aj (by omega) (by omega)]
   simp only[af,ab,ln,cg]
   cases (s.2.1[i].1==1)<;>rfl
  case hf=>
   simp only[pj]
   rw[fF];rfl
 cases hr:Hf s.1 with
 |false=>rfl
 |true=>
  cases ht:Cc s.2.1 with
  |false=>rfl
  |true=>
   cases hs:FX s.2.2 q with
   |false=>rfl
   |true=>
    have hq:1<=q:=by unfold FX at hs;simp only[ah,bq]at hs;exact hs.1.1.1.1
    have e1:s.1.all (λr=> !((r.2.2.2.2.2.2.2.1==0)&&decide (r.2.2.2.2.2.2.2.2>=q)))=s.1.all (λr=> !(decide (r.2.2.2.2.2.2.2.2>=q))):=by unfold Hf at hr;simp only[ah,aO]at hr;rw[dQ,aO,aO];refine forall_congr' λr=>forall_congr' λhm=>?_;rcases adl (hr.1 r hm)with h0|h0;rw[h0];simp;rw[h0];simp only[aq (show¬(0)>=q by omega),kV]
    have e2:s.2.1.all (λx=> !((x.1==1)&&decide (x.2.2>=q)))=s.2.1.all (λx=> !(decide (x.2.2>=q))):=by unfold Cc at ht;simp only[ah,aO,bU,bn]at ht;rw[dQ,aO,aO];refine forall_congr' λx=>forall_congr' λhm=>?_;obtain⟨i,hi,rfl⟩:=List.mem_iff_getElem.1 hm;have hsl:=ht.2 i (by omega);unfold qA YP at hsl;rw[CJ hi]at hsl;simp only[ah,dy,bn]at hsl;rcases hsl.1.2 with h0|⟨h0,_⟩;rw[h0];simp;rw[h0];simp only[aq (show¬(0)>=q by omega),kV]
    rw[e1,e2];cases s.1.all (λr=> !(decide (r.2.2.2.2.2.2.2.2>=q)))<;>cases s.2.1.all (λx=> !(decide (x.2.2>=q)))<;>rfl
theorem gq {n:Nat}(h:n<9223372036854775808):ak (n:Int)=(n:Int):=aj (by omega) (by omega)
theorem Q1 {n:Nat}(h:n<4294967296:=by omega):IntKind.wrap .u32 (n:Int)=(n:Int):=by grind[IntKind.wrap,IntKind.bits,IntKind.signed]
theorem lV (b:UInt8):b.toNat<256:=b.toNat_lt
def cv (v:Int):Bytes:=(ch v).getD []
theorem iS (v:Int):ch v=some (cv v):=by grind[cv,ch,cj,ab]
theorem mC (v:Int):cG v=some (cv v):=iS v
theorem Pb (v:Int):(cv v).length=bif dp v 0 65535 then 2 else 0:=by have h:=iS v;simp only[ch,cj,ab]at h;cases hb:dp v 0 65535<;>rw[hb]at h<;>(rw[<-cX h];rfl)
theorem bO (v:Int):(cv v).length<=2:=by grind[Pb]
def gP (v:Int):Bytes:=(eR v).getD []
theorem lE (v:Int):eR v=some (gP v):=by grind[gP,eR,cj,ab]
theorem yX (v:Int):fR v=some (gP v):=lE v
theorem WB (v:Int):(gP v).length=bif dp v 0 4294967295 then 4 else 0:=by have h:=lE v;simp only[eR,cj,ab]at h;cases hb:dp v 0 4294967295<;>rw[hb]at h<;>(rw[<-cX h];rfl)
theorem dB (v:Int):(gP v).length<=4:=by grind[WB]
def bZ (s:Bytes)(i:Nat):Nat:=(s.getD i 0).toNat
theorem fu (s:Bytes)(i:Nat):bZ s i<256:=lV _
theorem lJ {i:Nat}(h:i<s.length:=by omega):∃x,idx s (i:Int)=some x/\x.toNat=bZ s i:=⟨s[i],aN h,by rw[bZ,dv h]⟩
def fO (s:Bytes)(a n:Int):Bool:=decide (0<=a/\a+n<=(s.length:Int))
theorem My (s:Bytes)(a n:Int)(h:s.length<=10^9)(hn:0<=n):qR s a n=some (fO s a n):=by
 unfold qR fO;by_cases h0:0<=a;by_cases h1:a<=(s.length:Int)
 rw[ax (show a>=0 from h0),ax h1,aj (by omega) (by omega)];simp only[af,ab];congr 1;rw[decide_eq_decide];omega;rw[ax (show a>=0 from h0),aq h1,aq (show¬(0<=a/\a+n<=(s.length:Int)) by omega)];rfl;rw[aq (show¬a>=0 from h0),aq (show¬(0<=a/\a+n<=(s.length:Int)) by omega)];rfl
def cM (s:Bytes)(a:Int):Int:=bif fO s a 2 then((bZ s a.toNat*256+bZ s (a.toNat+1):Nat):Int) else-1
def dX (s:Bytes)(a:Int):Int:=bif fO s a 4 then(((bZ s a.toNat*256+bZ s (a.toNat+1))*65536+(bZ s (a.toNat+2)*256+bZ s (a.toNat+3)):Nat):Int) else-1
theorem wC (s:Bytes)(a:Int)(h:s.length<=10^9):eH s a=some (cM s a):=by unfold eH cM;rw[My s a 2 h (by omega),ab];cases hw:fO s a 2 with|false=>rfl|true=>simp only[fO,bI]at hw;obtain⟨n,rfl⟩:=aD hw.1;obtain⟨x,hx,ex⟩:=lJ (s:=s) (i:=n);obtain⟨y,hy,ey⟩:=lJ (s:=s) (i:=n+1);have hxl:=fu s n;have hyl:=fu s (n+1);rw[aj (n:=(n:Int)+1) (by omega) (by omega),hx,show(n:Int)+1=((n+1:Nat):Int) by omega,hy];simp only[ai,ae,ab,aw,af];rw[nt,ex,ey,gq (by omega),gq (by omega)];have e8:vD 8=8:=rfl;rw[e8,aj (n:=((bZ s n:Nat):Int)*2^8) (by omega) (by omega),aj (by omega) (by omega)];congr 1;all_goals omega
theorem CK (s:Bytes)(a:Int)(h:s.length<=10^9):gG s a=some (dX s a):=by
 unfold gG dX;rw[My s a 4 h (by omega),ab];cases hw:fO s a 4 with
 |false=>rfl
 |true=>
  simp only[fO,bI]at hw;obtain⟨n,rfl⟩:=aD hw.1;have w1:fO s (n:Int) 2=true:=by grind[fO]
  have w2:fO s ((n:Int)+2) 2=true:=by grind[fO]
  have b0:=fu s n;have b1:=fu s (n+1);have b2:=fu s (n+2);have b3:=fu s (n+3);rw[aj (n:=(n:Int)+2) (by omega) (by omega),wC s _ h,wC s _ h];simp only[ai,ae,ab,af,cM,w1,w2,aw];rw[nt,show((n:Int)+2).toNat=n+2 by omega,show n+2+1=n+3 by omega];have e8:vD 16=16:=rfl;rw[e8,aj (n:=((bZ s n*256+bZ s (n+1):Nat):Int)*2^16) (by omega) (by omega),aj (by omega) (by omega)];congr 1;all_goals omega
theorem az7 (a b:Nat)(ha:a<9223372036854775808)(hb:b<9223372036854775808):toNat (gr (a:Int)|||gr (b:Int))=a|||b:=by show(BitVec.ofInt 64 (a:Int)|||BitVec.ofInt 64 (b:Int)).toNat=_;grind
theorem apm (a b:Nat)(ha:a<9223372036854775808:=by omega)(hb:b<9223372036854775808:=by omega):toNat (gr (a:Int)&&&gr (b:Int))=a&&&b:=by show(BitVec.ofInt 64 (a:Int)&&&BitVec.ofInt 64 (b:Int)).toNat=_;grind
theorem aia (a b:Nat)(ha:a<9223372036854775808)(hb:b<9223372036854775808):toNat (gr (a:Int)^^^gr (b:Int))=a^^^b:=by show(BitVec.ofInt 64 (a:Int)^^^BitVec.ofInt 64 (b:Int)).toNat=_;grind
theorem aqT (a b:Nat)(ha:a<4294967296)(hb:b<4294967296):toNat (BitVec.ofInt (IntKind.bits .u32) (a:Int)&&&BitVec.ofInt (IntKind.bits .u32) (b:Int))=a&&&b:=by show(BitVec.ofInt 32 (a:Int)&&&BitVec.ofInt 32 (b:Int)).toNat=_;grind
theorem apF (a b:Nat)(ha:a<4294967296)(hb:b<4294967296):toNat (BitVec.ofInt (IntKind.bits .u32) (a:Int)^^^BitVec.ofInt (IntKind.bits .u32) (b:Int))=a^^^b:=by show(BitVec.ofInt 32 (a:Int)^^^BitVec.ofInt 32 (b:Int)).toNat=_;grind
theorem OX (x k y:Nat)(hy:y<2^k:=by omega)(h:2^k*x+y<9223372036854775808:=by omega):ak (toNat (gr ((2^k*x:Nat):Int)|||gr (y:Int)):Int)=((2^k*x+y:Nat):Int):=by rw[az7 _ _ (by omega) (by omega),<-Nat.two_pow_add_eq_or_of_lt hy];exact gq h
theorem S5 (s:Bytes)(a n:Int):(cond (decide (a<0)) (some true) (some (decide (a>(s.length:Int)-n))))=some (!fO s a n):=by grind[fO]
theorem Cw (s:Bytes)(a:Int)(h:s.length<=10^9):fE s a=some (cM s a):=by unfold fE cM;rw[aj (n:=(s.length:Int)-2) (by omega) (by omega)];rw[S5,ab];cases hw:fO s a 2 with|false=>rfl|true=>simp only[fO,bI]at hw;obtain⟨n,rfl⟩:=aD hw.1;obtain⟨x,hx,ex⟩:=lJ (s:=s) (i:=n);obtain⟨y,hy,ey⟩:=lJ (s:=s) (i:=n+1);have hxl:=fu s n;have hyl:=fu s (n+1);rw[aj (n:=(n:Int)+1) (by omega) (by omega),hx,show(n:Int)+1=((n+1:Nat):Int) by omega,hy];simp only[ai,ae,af,ab,aw];rw[nt,ex,ey,gq (n:=bZ s n) (by omega),gq (n:=bZ s (n+1)) (by omega)];have e8:vD 8=8:=rfl;rw[e8,show((bZ s n:Nat):Int)*2^8=((2^8*bZ s n:Nat):Int) by omega,gq (n:=2^8*bZ s n) (by omega),OX (bZ s n) 8 (bZ s (n+1))];congr 1;all_goals omega
theorem Cx (s:Bytes)(a:Int)(h:s.length<=10^9):iB s a=some (dX s a):=by
 unfold iB dX;rw[aj (n:=(s.length:Int)-4) (by omega) (by omega)];rw[S5,ab];cases hw:fO s a 4 with
 |false=>rfl
 |true=>
  simp only[fO,bI]at hw;obtain⟨n,rfl⟩:=aD hw.1;obtain⟨x0,h0,e0⟩:=lJ (s:=s) (i:=n);obtain⟨x1,h1,e1⟩:=lJ (s:=s) (i:=n+1);obtain⟨x2,h2,e2⟩:=lJ (s:=s) (i:=n+2);obtain⟨x3,h3,e3⟩:=lJ (s:=s) (i:=n+3);have b0:=fu s n;have b1:=fu s (n+1);have b2:=fu s (n+2);have b3:=fu s (n+3)
  rw[aj (n:=(n:Int)+1) (by omega) (by omega),aj (n:=(n:Int)+2) (by omega) (by omega),aj (n:=(n:Int)+3) (by omega) (by omega),h0,show(n:Int)+1=((n+1:Nat):Int) by omega,h1,
   show(n:Int)+2=((n+2:Nat):Int) by omega,h2,show(n:Int)+3=((n+3:Nat):Int) by omega,h3]
  simp only[ai,ae,af,ab,aw];rw[nt,nt,nt,e0,e1,e2,e3];generalize bZ s n=p0 at*;generalize bZ s (n+1)=p1 at*;generalize bZ s (n+2)=p2 at*;generalize bZ s (n+3)=p3 at*;have f24:vD 24=24:=rfl;have f16:vD 16=16:=rfl;have f8:vD 8=8:=rfl
  rw[gq (n:=p0) (by omega),gq (n:=p1) (by omega),gq (n:=p2) (by omega),gq (n:=p3) (by omega),f24,f16,f8,
   show((p0:Nat):Int)*2^24=((2^24*p0:Nat):Int) by omega,show((p1:Nat):Int)*2^16=((2^16*p1:Nat):Int) by omega,show((p2:Nat):Int)*2^8=((2^8*p2:Nat):Int) by omega,
   gq (n:=2^24*p0) (by omega),gq (n:=2^16*p1) (by omega),gq (n:=2^8*p2) (by omega),OX p0 24 (2^16*p1),
   show 2^24*p0+2^16*p1=2^16*(2^8*p0+p1) by omega,OX _ 16 (2^8*p2),
   show 2^16*(2^8*p0+p1)+2^8*p2=2^8*(2^8*(2^8*p0+p1)+p2) by omega,OX _ 8 p3]
  congr 1;all_goals omega
def Oz (c:Nat):Nat:=if c%2=1 then(c/2)^^^3988292384 else c/2
def zP:Nat->Nat->Nat
 |0,c=>c
 |n+1,c=>Oz (zP n c)
def azj (c:Nat)(s:Bytes):Nat:=s.foldl (λc b=>zP 8 (c^^^b.toNat)) c
def XE (s:Bytes):Int:=4294967295-(azj 4294967295 s:Int)
theorem Iz {a b:Nat}(ha:a<4294967296)(hb:b<4294967296):a^^^b<4294967296:=Nat.xor_lt_two_pow (n:=32) ha hb
theorem aip {c:Nat}(h:c<4294967296):Oz c<4294967296:=by grind[Oz,Iz]
theorem Pr {c:Nat}(h:c<4294967296):∀n,zP n c<4294967296
 |0=>h
 |n+1=>aip (Pr h n)
theorem anf (k0:Int->Int->au R)(k:Int->au R)(hk:∀x y,k0 x y=k x)(v0:Bytes)(v4:Int)(c:Nat)(h:c<4294967296):aH (ta k0 v0 v4) fuel ((c:Int),0)=k (zP 8 c:Int):=by
 have Cg:=dc
 have key:=Na (T:=ta k0 v0 v4) 8 (λ(_:Unit) i=>((zP i c:Int),(i:Int))) (λ_ s nx=>nx s) (λ_=>k (zP 8 c:Int))
  (λi s nx hi=>by
   have hc:=Pr h i;simp only[ta];have a1:=apm (zP i c) 1;have x1:=aia (zP i c/2) 3988292384 (by omega) (by omega);simp only[df]at a1
   rw[gN,af,a1,Nat.and_one_is_mod,
    show vD 1=1 from rfl,show fdiv ((zP i c:Nat):Int) (2^1)=((zP i c/2:Nat):Int) from by rw[Int.fdiv_eq_ediv_of_nonneg _ (by omega)];rfl,
    show(3988292384:Int)=((3988292384:Nat):Int) from rfl,x1,
    gq (n:=zP i c%2) (by omega),gq (n:=(zP i c/2)^^^3988292384) (by have:=Iz (a:=zP i c/2) (b:=3988292384) (by omega) (by omega);omega),nt,nt,aj (n:=(i:Int)+1) (by omega) (by omega)]
   show _=nx ((Oz (zP i c):Int),((i+1:Nat):Int));unfold Oz;by_cases hp:zP i c%2=1;rw[hp,aM rfl];rfl;have h0:zP i c%2=0:=by omega
   rw[h0,nt];rfl)
  (λs nx=>by simp only[ta];rw[fF,ae,hk])
  fuel 0 () (by omega) (by omega)
 refine key.trans ?_;rfl
theorem al6 (k0:Int->Int->au R)(k:Int->au R)(hk:∀x y,k0 x y=k x)(v0:Bytes)(v4:Int)(c:Nat)(h:c<4294967296):aH (sO k0 v0 v4) fuel ((c:Int),0)=k (zP 8 c:Int):=by
 have Cg:=dc
 have key:=Na (T:=sO k0 v0 v4) 8 (λ(_:Unit) i=>((zP i c:Int),(i:Int))) (λ_ s nx=>nx s) (λ_=>k (zP 8 c:Int))
  (λi s nx hi=>by
   have hc:=Pr h i;simp only[sO];have a1:=aqT (zP i c) 1 (by omega) (by omega);have x1:=apF (zP i c/2) 3988292384 (by omega) (by omega);simp only[df]at a1
   rw[gN,af,a1,Nat.and_one_is_mod,
    show min (Int.toNat 1) (IntKind.bits .u32)=1 from rfl,show fdiv ((zP i c:Nat):Int) (2^1)=((zP i c/2:Nat):Int) from by rw[Int.fdiv_eq_ediv_of_nonneg _ (by omega)];rfl,
    show(3988292384:Int)=((3988292384:Nat):Int) from rfl,x1,
    Q1 (n:=zP i c%2),Q1 (n:=(zP i c/2)^^^3988292384) (Iz (by omega) (by omega)),nt,aj (n:=(i:Int)+1) (by omega) (by omega)]
   show _=nx ((Oz (zP i c):Int),((i+1:Nat):Int));unfold Oz;by_cases hp:zP i c%2=1;rw[hp,aM rfl];rfl;have h0:zP i c%2=0:=by omega
   rw[h0,nt];rfl)
  (λs nx=>by simp only[sO];rw[fF,ae,hk])
  fuel 0 () (by omega) (by omega)
 refine key.trans ?_;rfl
theorem ahV (s:Bytes)(h:s.length<=10^9):Hj s=some (XE s):=by
 unfold Hj;have:=vn (T:=xY (λ(y4:Int) (_:Int)=>some (ak (4294967295-y4))) s) s (λ(c:Nat) i=>((c:Int),(i:Int))) (λ_ c=>c<4294967296) (λb c=> .ok (zP 8 (c^^^b.toNat))) (λc=>some (4294967295-(c:Int))) (by omega) (λi hi c nx hI=>?hs) (λi hi c c' hI hg=>?hn) (λc nx hI=>?hf) 4294967295 (by omega)
 case hs=>
  have hb:=lV s[i]
  simp only[xY]
  rw[gN,aN hi,af,ab,gq (n:=s[i].toNat) (by omega),aia c s[i].toNat (by omega) (by omega)]
  have hx:=Iz hI (show s[i].toNat<4294967296 by omega)
  rw[gq (by omega),anf _ (λy=>nx (y,(i:Int)+1)) (λx y=>by grind[aj]) _ _ _ hx];rfl
 case hn=>
  grind[Pr,Iz,lV]
 case hf=>
  grind[xY,aj]
 rw[Kl]at this;exact this
theorem not_xor (c:Nat)(h:c<4294967296):toNat (BitVec.ofInt (IntKind.bits .u32) (IntKind.max .u32)^^^BitVec.ofInt (IntKind.bits .u32) (c:Int))=4294967295-c:=by show(BitVec.ofInt 32 4294967295^^^BitVec.ofInt 32 (c:Int)).toNat=_;rw[show BitVec.ofInt 32 4294967295=BitVec.allOnes 32 by decide,BitVec.ofInt_natCast,BitVec.allOnes_xor,BitVec.toNat_not,BitVec.toNat_ofNat,Nat.mod_eq_of_lt (show c<2^32 by omega)]
theorem ahs (s:Bytes)(h:s.length<=10^9):GG s=some (XE s):=by
 unfold GG;have:=vn (T:=xx (λ(y4:Int) (_:Int)=>some (ak (IntKind.wrap .u32 (toNat (BitVec.ofInt (IntKind.bits .u32) (IntKind.max .u32)^^^BitVec.ofInt (IntKind.bits .u32) y4))))) s) s (λ(c:Nat) i=>((c:Int),(i:Int))) (λ_ c=>c<4294967296) (λb c=> .ok (zP 8 (c^^^b.toNat))) (λc=>some (4294967295-(c:Int))) (by omega) (λi hi c nx hI=>?hs) (λi hi c c' hI hg=>?hn) (λc nx hI=>?hf) 4294967295 (by omega)
 case hs=>
  have hb:=lV s[i]
  simp only[xx]
  rw[gN,aN hi,af,ab,Q1 (n:=s[i].toNat),apF c s[i].toNat (by omega) (by omega)]
  have hx:=Iz hI (show s[i].toNat<4294967296 by omega)
  rw[Q1 hx,al6 _ (λy=>nx (y,(i:Int)+1)) (λx y=>by grind[aj]) _ _ _ hx];rfl
 case hn=>
  grind[Pr,Iz,lV]
 case hf=>
  simp only[xx]
  rw[fF,ae,not_xor c hI,Q1,gq (by omega)]
  congr 1
  all_goals omega
 rw[Kl]at this;exact this
def hasB (l:cI)(v:Int):Bool:=l.any (·==v)
theorem PE {v:Int}:hasB l v=true↔v∈l:=by grind[hasB]
theorem Kt (l:cI)(v:Int)(h:l.length<=10^9):ja l v=some (hasB l v):=by
 unfold ja hasB;rw[LA (hit:=some true) (fin:=some false) (λx:Int=>x==v) l (by omega) (λi hi nx=>?hs) (λnx=>?hf)]
 case hs=>
  simp(disch:=omega)[B7,ax,aN,aj]
 all_goals grind[B7]
theorem HG (l:cI)(v:Int)(h:l.length<=10^9):gB l v=some (hasB l v):=by
 unfold gB hasB;rw[LA (hit:=some true) (fin:=some false) (λx:Int=>x==v) l (by omega) (λi hi nx=>?hs) (λnx=>?hf)]
 case hs=>
  simp(disch:=omega)[AJ,ax,aN,aj]
 all_goals grind[AJ]
def ins (v:Int):cI->cI
 |[]=>[v]
 |x::l=>bif decide (v<x) then v::x::l else x::ins v l
theorem TP (v:Int):∀l,(ins v l).length=l.length+1
 |[]=>rfl
 |x::l=>by rw[ins];cases decide (v<x)with|true=>rfl|false=>simp only[ae,bH,TP v l]
theorem ahE (v x:Int):∀l,x∈ins v l↔x=v\/x∈l
 |[]=>by simp[ins]
 |y::l=>by rw[ins];cases decide (v<y)with|true=>simp|false=>simp only[ae,cp,ahE v x l];grind
theorem afB (v:Int):∀l:cI,v∉l->l.take (l.findIdx (λx=> !decide (x<v)))++[v]++l.drop (l.findIdx (λx=> !decide (x<v)))=ins v l
 |[],_=>rfl
 |x::l,h=>by rw[ins,List.findIdx_cons];have hx:v≠x:=λe=>h (by simp[e]);have hl:v∉l:=λe=>h (by simp[e]);by_cases c:x<v;rw[ax c,aq (show¬v<x by omega)];have:=afB v l hl;simpa using this;rw[aq c,ax (show v<x by omega)];rfl
def EA (l:cI)(v:Int):cI:=bif hasB l v then l else ins v l
theorem Ug (l:cI)(v:Int):(EA l v).length<=l.length+1:=by unfold EA;cases hasB l v with|true=>simp|false=>simp only[ae,TP];omega
theorem amA {v x:Int}(h:x∈l):x∈EA l v:=by unfold EA;cases hasB l v with|true=>exact h|false=>exact(ahE v x l).2 (.inr h)
theorem aif {v:Int}(h:v∈l):EA l v=l:=by grind[EA,PE]
theorem Jj:∀(vs l:cI),(vs.foldl EA l).length<=l.length+vs.length
 |[],l=>by simp
 |v::vs,l=>by have:=Jj vs (EA l v);grind[Ug]
theorem RG:∀(vs:cI){l:cI}{x:Int},x∈l->x∈vs.foldl EA l
 |[],_,_,h=>h
 |v::vs,l,x,h=>RG vs (l:=EA l v) (amA h)
theorem abJ (p:α->Bool)(k:Int->au R)(l:ar α):(match l.findIdx? p with|some i=>k (i:Int)|none=>k (l.length:Int))=k (l.findIdx p:Int):=by grind
theorem Wi (l:ar α)(j:Nat)(h:j<=l.length):sub l 0 (j:Int)=some (l.take j):=by grind[sub]
theorem Jh (l:ar α)(j:Nat)(h:j<=l.length):sub l (j:Int) (l.length:Int)=some (l.drop j):=by simp_all[sub]
theorem YY (a vs:cI)(h:a.length+vs.length<=10^9):yg a vs=some (vs.foldl EA a):=by
 unfold yg;rw[aQ (by grind)];rw[bE];have:=vn (T:=qS (λ(uq:cI) (_:Int)=>some uq) vs) vs (λ(s:cI) i=>(s,(i:Int))) (λi s=>s.length<=a.length+i) (λv s=> .ok (EA s v)) (λs=>some s) (by omega) (λi hi s nx hI=>?hs) (λi hi s s' hI hg=>?hn) (λs nx hI=>?hf) a (by simp)
 case hs=>
  simp only[qS]
  rw[gN,aN hi,aj (n:=(i:Int)+1) (by omega) (by omega)]
  simp only[af,ab,Kt s vs[i] (by omega)]
  unfold EA
  cases hh:hasB s vs[i]with
  |true=>rfl
  |false=>
   have hm:vs[i]∉s:=λe=>by grind[PE]
   simp only[ae]
   rw[F4 (hit:=λy6=>aa (sub s 0 y6) λx7=>room (List.length ([]:cI)+List.length x7) (room (List.length (([]:cI)++x7)+List.length ([vs[i]])) (aa (sub s y6 (s.length:Int)) λx9=>room (List.length ((([]:cI)++x7)++([vs[i]]))+List.length x9) (nx (((([]:cI)++x7)++([vs[i]]))++x9,(i:Int)+1)))))
    (fin:=aa (sub s 0 (s.length:Int)) λx7=>room (List.length ([]:cI)+List.length x7) (room (List.length (([]:cI)++x7)+List.length ([vs[i]])) (aa (sub s (s.length:Int) (s.length:Int)) λx9=>room (List.length ((([]:cI)++x7)++([vs[i]]))+List.length x9) (nx (((([]:cI)++x7)++([vs[i]]))++x9,(i:Int)+1)))))
    (λx=> !decide (x<vs[i])) s (by omega) (λj hj nx'=>?hs2) (λnx'=>?Jn)]
   case hs2=>
    grind[xa,aN,aj,ab]
   case Jn=>
    simp_all[xa]
   refine Eq.trans (abJ (λx=> !decide (x<vs[i])) (λy6=>aa (sub s 0 y6) λx7=>room (List.length ([]:cI)+List.length x7) (room (List.length (([]:cI)++x7)+List.length ([vs[i]])) (aa (sub s y6 (s.length:Int)) λx9=>room (List.length ((([]:cI)++x7)++([vs[i]]))+List.length x9) (nx (((([]:cI)++x7)++([vs[i]]))++x9,(i:Int)+1))))) s) ?_
   have hle:s.findIdx (λx=> !decide (x<vs[i]))<=s.length:=List.findIdx_le_length
   have e:=afB vs[i] s hm
   generalize s.findIdx (λx=> !decide (x<vs[i]))=j at*
   grind[Wi,Jh,ab,aQ]
 all_goals grind[Ug,qS,Kl]
theorem ahp (l:cI)(v:Int)(h:l.length<=10^9):lu l v=some (ins v l):=by
 unfold lu
 have hgo:∀(l:cI)(acc:cI)(d:Bool),acc.length+l.length+(bif d then 0 else 1)<=1073741824->
  zv (λ(x:Int) (s:cI×Bool) (k:cI×Bool->au cI)=>cond (cond (!s.2) (decide (v<x)) false) (room (List.length s.1+List.length ([v])) (room (List.length (s.1++([v]))+List.length ([x])) (k ((s.1++([v]))++([x]),true)))) (room (List.length s.1+List.length ([x])) (k (s.1++([x]),s.2))))
   (λs=>cond (!s.2) (room (List.length s.1+List.length ([v])) (some (s.1++([v])))) (some s.1)) l (acc,d)=some (acc++bif d then l else ins v l):=by
  intro l
  induction l with
  |nil=>
   intro acc d hl
   rw[zv]
   simp only[ef]at hl
   cases d with
   |true=>simp
   |false=>
    simp only[bz,af,ae]at hl⊢
    rw[aQ (by simp;omega)];rfl
  |cons x l ih=>
   grind[zv,aQ,ins]
 have Cg:=dc;have key:=CD (T:=mI (λ(y3:cI) (y4:Bool) (_:Int)=>cond (!y4) (room (List.length y3+List.length ([v])) (some (y3++([v])))) (some y3)) v l (l.length:Int)) l (λ(s:cI×Bool) i=>(s.1,s.2,(i:Int))) (λ(x:Int) (s:cI×Bool) (k:cI×Bool->au cI)=>cond (cond (!s.2) (decide (v<x)) false) (room (List.length s.1+List.length ([v])) (room (List.length (s.1++([v]))+List.length ([x])) (k ((s.1++([v]))++([x]),true)))) (room (List.length s.1+List.length ([x])) (k (s.1++([x]),s.2)))) (λs=>cond (!s.2) (room (List.length s.1+List.length ([v])) (some (s.1++([v])))) (some s.1)) (λi hi s nx=>by grind[mI,aN,aj,ab]) (λs nx=>by grind[mI]) fuel 0 (([]:cI),false) (by omega) (by omega);grind
def oW:Port:=(0,[],0,false)
def TU (p:Port):Bool:=ie (p.1,false,p.2.1)&&hasB p.2.1 p.2.2.1
def VL (l:ar Port)(i:Nat):Bool:=TU (l.getD i oW)&&(range i).all (λj=> !((j !=0)&&((l.getD j oW).1==(l.getD i oW).1)))
def lB (l:ar Port):Bool:=dp (l.length:Int) 1 8&&(range l.length).all (VL l)
theorem af8 (i:Nat)(q:Nat->Bool):(range (i-1)).all (λj=> !(q (j+1)))=(range i).all (λj=> !((j !=0)&&q j)):=by
 rw[dQ,aO,aO];simp only[bU];constructor;intro h j hj;cases j with|zero=>rfl|succ j=>have:=h j (by omega);simpa using this
 intro h j hj;have:=h (j+1) (by omega);simpa using this
theorem Nn (l:ar Port)(h:l.length<=10^9)(hv:∀p∈l,p.2.1.length<=10^9):oB l=some (lB l):=by
 unfold oB lB;rw[gR (hit:=some false) (fin:=some true) (VL l) l.length (by omega) (λi nx hi=>?hs) (λnx=>?hf)]
 case hs=>
  have hvi:=hv _ (aE hi)
  simp only[yD]
  rw[gN,aN hi,aj (by omega) (by omega)]
  simp only[af,ab,za (l[i].1,false,l[i].2.1) hvi,Kt _ _ hvi]
  have e1:(1:Int)=(((0:Nat)+1:Nat):Int):=rfl
  rw[e1,MO (hit:=some false) (fin:=nx ((i:Int)+1)) (λj=>((j+1:Nat):Int)) (λj=> !((l.getD (j+1) oW).1==l[i].1)) (i-1) (by omega) (λj nx' hj hp=>?hs2) (λhp nx'=>?Jn)]
  case hs2=>
   have hjl:j+1<l.length:=by omega
   simp only[yE]
   rw[gN,aN hjl,aN hi,aj (by omega) (by omega)]
   simp_all
  case Jn=>
   grind[yE]
  rw[af8 i (λj=>(l.getD j oW).1==l[i].1)]
  simp only[VL,TU,dv hi]
  grind
 all_goals grind[yD,cj,ab]
def JE (p:Nat->Bool):ec->Int
 |[]=> -1
 |j::r=>bif p j then(j:Int) else JE p r
theorem abK (p:Nat->Bool):∀n s i,s<=i->i<s+n->p i=true->(JE p (List.range' s n)==(i:Int))=(List.range' s (i-s)).all (λj=> !(p j))
 |0,s,i,h1,h2,_=>by omega
 |n+1,s,i,h1,h2,hp=>by
  rw[List.range'_succ,JE];rcases bS s i with iG|Fe;obtain⟨k,hk⟩:∃k,i-s=k+1:=⟨i-s-1,by omega⟩
  rw[hk,List.range'_succ,bV];cases hps:p s with
  |true=>
   simp only[af,ai,gI];have:¬(s:Int)=(i:Int):=by omega
   simpa using this
  |false=>simp only[ae,bz,bj];rw[abK p n (s+1) i (by omega) (by omega) hp,show i-(s+1)=k by omega]
  have:s=i:=by omega
  subst this;rw[hp,hG];simp
theorem VT (p:Nat->Bool)(hit:Nat->au R)(fin:au R)(k:Int->au R)(h1:∀j:Nat,hit j=k (j:Int))(h2:fin=k (-1)):∀l:ec,Tu (λ(j:Nat) (s:Unit)=>bif p j then .error (hit j) else .ok ()) (λ_=>fin) l ()=k (JE p l)
 |[]=>h2
 |j::l=>by rw[Tu,JE];cases p j with|true=>exact h1 j|false=>exact VT p hit fin k h1 h2 l
theorem acD (l:ar Port)(a:Int)(h:l.length<=10^9):xF l a=some (JE (λj=>(j !=0)&&((l.getD j oW).1==a)) (List.range' 0 l.length)):=by
 unfold xF;have:=vn (T:=qe (λ(_:Int)=>some (-1)) (λ(y4:Int) (_:Int)=>some y4) a 0 l (l.length:Int)) (List.range' 0 l.length) (λ(_:Unit) i=>(i:Int)) (λ_ _=>True) (λ(j:Nat) (s:Unit)=>bif (j !=0)&&((l.getD j oW).1==a) then .error (some (j:Int)) else .ok ()) (λ_=>some (-1)) (by simp;omega) (λi hi s nx _=>?hs) (λ_ _ _ _ _ _=>trivial) (λs nx _=>?hf) () trivial
 case hs=>
  grind[qe,aN,aj,ab]
 case hf=>
  grind[qe]
 rw[VT (λj=>(j !=0)&&((l.getD j oW).1==a)) _ _ (λx=>some x) (λ_=>rfl) rfl]at this;exact this
theorem M7 (l:ar Port)(h:l.length<=10^9)(hv:∀p∈l,p.2.1.length<=10^9):nV l=some (lB l):=by
 unfold nV lB;rw[gR (hit:=some false) (fin:=some true) (VL l) l.length (by omega) (λi nx hi=>?hs) (λnx=>?hf)]
 case hs=>
  have hvi:=hv _ (aE hi)
  simp only[yo]
  rw[gN,aN hi,aj (by omega) (by omega)]
  simp only[af,ab,Ij,uI (l[i].1,false,l[i].2.1) hvi,HG _ _ hvi,acD l _ h,cg,bne]
  have e2:((i:Int)==0)=(i==0):=by rw[dQ];simp
  rw[e2]
  simp only[VL,TU,dv hi]
  cases h0:i==0 with
  |true=>
   grind
  |false=>
   have Jo:(i !=0)=true:=by grind
   have fa:=abK (λj=>(j !=0)&&((l.getD j oW).1==l[i].1)) l.length 0 i (by omega) (by omega) (by grind)
   grind[List.range_eq_range']
 all_goals grind[yo,cq,ab]
def xf (m:bA):Bool:=ie m.1&&(dp m.2.1 0 1000000000000&&dp m.2.2.2 0 1000000000000)
theorem adK (m:bA)(h:m.1.2.2.length<=10^9):vw m=some (xf m):=by grind[vw,za,cj,ab,xf]
theorem acq (m:bA)(h:m.1.2.2.length<=10^9):uK m=some (xf m):=by grind[uK,uI,cq,ab,xf]
theorem I3 (h:xf m=true):m.1.2.2.length<=8:=by grind[xf,ie]
def aat (m:bA):Port:=(m.1.1,m.1.2.2.foldl EA [0],0,true)
def Oj (s:cI×ar Port)(m:bA):cI×ar Port:=(m.1.2.2.foldl EA s.1,s.2++[aat m])
def Ki (ms:ar bA):ar Port:=(0,(ms.foldl Oj ([0],[])).1,0,false)::(ms.foldl Oj ([0],[])).2
def gO (ms:ar bA):ar Port×Bool:=bif dp (ms.length:Int) 1 3&&(ms.all xf&&lB (Ki ms)) then(Ki ms,true) else([],false)
theorem VS (p:α->Bool)(f:σ->α->σ)(r:au R)(fin:σ->au R):∀(l:ar α)(s:σ),Tu (λx s=>bif p x then .ok (f s x) else .error r) fin l s=bif l.all p then fin (l.foldl f s) else r
 |[],s=>rfl
 |x::l,s=>by rw[Tu,bV,List.foldl_cons];cases p x with|false=>rfl|true=>simp only[af,bj];exact VS p f r fin l (f s x)
def aa6 (i:Nat)(s:cI×ar Port):Prop:=s.1.length<=1+9*i/\s.2.length=i/\∀p∈s.2,p.2.1.length<=9
theorem aa6.port {i:Nat}{s:cI×ar Port}(h:aa6 i s)(hm:xf m=true)(U:cI)(hU:U.length<=s.1.length+9:=by omega):aa6 (i+1) (U,s.2++[aat m]):=by have hl:=I3 hm;have:=Jj m.1.2.2 [0];refine⟨?_,?_,?_⟩;have:=h.1;simp only;omega;have:=h.2.1;simp;omega;intro p hp;rcases aA.1 hp with hp|hp;exact h.2.2 p hp;simp only[dA]at hp;subst hp;simp only[aat,aY]at this⊢;omega
theorem Mm {i:Nat}{s:cI×ar Port}(h:aa6 i s)(hi:i<=3):((0,s.1,0,false)::s.2:ar Port).length<=10^9/\∀p∈((0,s.1,0,false)::s.2:ar Port),p.2.1.length<=10^9:=by have h1:=h.1;have h2:=h.2.1;refine⟨by grind,λp hp=>?_⟩;rcases cp.1 hp with rfl|hp;simp only;omega;have:=h.2.2 p hp;omega
theorem H8 (ms:ar bA)(h:∀m∈ms,m.1.2.2.length<=10^9):rP ms=some (gO ms):=by
 unfold rP gO;simp only[cj,ab];cases hn:dp (ms.length:Int) 1 3 with
 |false=>rfl
 |true=>
  have Ff:=bq.1 hn;simp only[ai,ae,bj];have:=vn (T:=sG (λ(F1:ar Port) (_:Int)=>aa (oB F1) λOa=>cond (!Oa) (some (([]:ar Port),false)) (some (F1,true))) (λ(Gg:ar Port) (Lt:Bool) (_:ar Port) (_:Int)=>some (Gg,Lt)) ms ([]:ar Port) false) ms (λ(s:cI×ar Port) i=>((0,s.1,0,false)::s.2,(i:Int))) aa6 (λm s=>bif xf m then .ok (Oj s m) else .error (some (([]:ar Port),false))) (λs=>some (bif lB ((0,s.1,0,false)::s.2) then((0,s.1,0,false)::s.2,true) else([],false))) (by omega) (λi hi s nx hI=>?hs) (λi hi s s' hI hg=>?hn) (λs nx hI=>?hf) ([0],[]) ⟨by simp,rfl,by simp⟩
  case hs=>
   simp only[sG]
   have hm:=h _ (aE hi)
   rw[gN,aN hi,aj (n:=(i:Int)+1) (by omega) (by omega)]
   simp only[af,ab,adK _ hm]
   cases Q3:xf ms[i]with
   |false=>rfl
   |true=>
    have hl:=I3 Q3
    have hU:=hI.1
    have hP:=hI.2.1
    have e0:idx ((0,s.1,0,false)::s.2:ar Port) 0=some (0,s.1,0,false):=rfl
    simp only[ai,ae,af,e0,ab]
    rw[YY s.1 _ (by omega),YY [0] _ (by simp;omega)]
    simp only[ab]
    rw[aQ (by simp;omega)]
    rfl
  case hn=>
   cases Q3:xf ms[i]with
   |false=>grind
   |true=>
    rw[Q3]at hg
    cases hg
    have:=Jj ms[i].1.2.2 s.1
    have:=I3 Q3
    exact hI.port Q3 _
  case hf=>
   grind[sG,Mm,Nn,ab]
  rw[VS]at this;grind[Ki]
def Y4 (s:cI×ar Port)(m:bA):cI×ar Port:=(([0]++m.1.2.2).foldl EA s.1,s.2++[aat m])
theorem anu {s:cI×ar Port}(h:(0:Int)∈s.1):Y4 s m=Oj s m:=by grind[Y4,Oj,aif]
theorem Wd:∀(ms:ar bA)(s:cI×ar Port),(0:Int)∈s.1->ms.foldl Y4 s=ms.foldl Oj s
 |[],_,_=>rfl
 |m::ms,s,h=>by rw[List.foldl_cons,List.foldl_cons,anu h];exact Wd ms _ (RG _ h)
theorem adV (ms:ar bA)(h:ms≠[]):ms.foldl Y4 ([],[])=ms.foldl Oj ([0],[]):=by cases ms with|nil=>exact absurd rfl h|cons m ms=>rw[List.foldl_cons,List.foldl_cons];have e:Y4 ([],[]) m=Oj ([0],[]) m:=rfl;rw[e];exact Wd ms _ (RG _ (by simp))
theorem ai0 (k0:cI->cI->Int->au R)(k:cI->cI->au R)(hk:∀a b i,k0 a b i=k a b)(v2:ar Port)(v3:Bool)(v4:ar Port)(v18:ar bA)(v19 v20:Int)(b7:bA)(vs all:cI)(h:all.length+vs.length<=10^9): aH (mq k0 v2 v3 v4 v18 v19 v20 vs (vs.length:Int) b7) fuel (all,([]:cI),0)=k (vs.foldl EA all) (vs.foldl EA []):=by
 have:=vn (T:=mq k0 v2 v3 v4 v18 v19 v20 vs (vs.length:Int) b7) vs (λ(s:cI×cI) i=>(s.1,s.2,(i:Int))) (λi s=>s.1.length<=all.length+i/\s.2.length<=i) (λv s=> .ok (EA s.1 v,EA s.2 v)) (λs=>k s.1 s.2) (by omega) (λi hi s nx hI=>?hs) (λi hi s s' hI hg=>?hn) (λs nx hI=>?hf) (all,[]) ⟨by simp,by simp⟩
 case hs=>
  simp only[mq]
  rw[gN,aN hi,aj (n:=(i:Int)+1) (by omega) (by omega)]
  grind[ab,HG,ahp,EA]
 case hn=>
  grind[Ug]
 case hf=>
  grind[mq]
 rw[Kl]at this;refine Eq.trans this ?_;have e:∀(l:cI)(s:cI×cI),l.foldl (λs v=>(EA s.1 v,EA s.2 v)) s=(l.foldl EA s.1,l.foldl EA s.2):=by intro l;induction l with|nil=>intro s;rfl|cons x l ih=>grind
 rw[e]
theorem HH (ms:ar bA)(h:∀m∈ms,m.1.2.2.length<=10^9):rq ms=some (gO ms):=by
 unfold rq gO;simp only[cq,ab];cases hn:dp (ms.length:Int) 1 3 with
 |false=>rfl
 |true=>
  have Ff:=bq.1 hn;simp only[ai,ae,bj];have:=vn (T:=so (λ(zS:ar Port) (Gg:cI) (_:Int)=>aa (idx zS 0) λLl=>aa (idx zS 0) λPd=>aa (nV (List.set zS (Int.toNat 0) (Pd.1,Gg,Pd.2.2))) λYC=>cond (!YC) (some (([]:ar Port),false)) (some (List.set zS (Int.toNat 0) (Pd.1,Gg,Pd.2.2),true))) (λ(y20:ar Port) (y21:Bool) (_:ar Port) (_:cI) (_:Int)=>some (y20,y21)) ([]:ar Port) false ms (ms.length:Int)) ms (λ(s:cI×ar Port) i=>((0,[],0,false)::s.2,s.1,(i:Int))) aa6 (λm s=>bif xf m then .ok (Y4 s m) else .error (some (([]:ar Port),false))) (λs=>some (bif lB ((0,s.1,0,false)::s.2) then((0,s.1,0,false)::s.2,true) else([],false))) (by omega) (λi hi s nx hI=>?hs) (λi hi s s' hI hg=>?hn) (λs nx hI=>?hf) ([],[]) ⟨by simp,rfl,by simp⟩
  case hs=>
   simp only[so]
   have hm:=h _ (aE hi)
   rw[gN,aN hi,aj (n:=(i:Int)+1) (by omega) (by omega)]
   simp only[af,ab,acq _ hm]
   cases Q3:xf ms[i]with
   |false=>rfl
   |true=>
    have hl:=I3 Q3
    have hU:=hI.1
    have hP:=hI.2.1
    simp only[ai,ae,af]
    rw[aQ (by simp;omega)]
    refine(ai0 _ (λa b=>room (List.length ((0,[],0,false)::s.2:ar Port)+List.length ([(ms[i].1.1,b,0,true)]:ar Port)) (nx (((0,[],0,false)::s.2)++([(ms[i].1.1,b,0,true)]),a,(i:Int)+1))) (λ_ _ _=>rfl) _ _ _ _ _ _ _ ([0]++ms[i].1.2.2) s.1 (by grind)).trans ?_
    rw[aQ (by simp;omega)]
    rfl
  case hn=>
   cases Q3:xf ms[i]with
   |false=>grind
   |true=>
    rw[Q3]at hg
    cases hg
    have hu:=Jj ([0]++ms[i].1.2.2) s.1
    have hl:=I3 Q3
    simp only[ay,aY]at hu
    exact hI.port Q3 _
  case hf=>
   simp only[so]
   rw[fF]
   have hb:=Mm hI (by omega)
   have e0:idx ((0,[],0,false)::s.2:ar Port) 0=some (0,[],0,false):=rfl
   have e1:List.set ((0,[],0,false)::s.2:ar Port) (Int.toNat 0) (0,s.1,0,false)=(0,s.1,0,false)::s.2:=rfl
   grind[ab,M7]
  rw[VS,adV ms (by grind)]at this;grind[Ki]
def eqQ (a b:α):Bool:= @decide (a=b) (Classical.propDecidable _)
theorem Pt {a b:α}:eqQ a b=true↔a=b:=by grind[eqQ]
theorem aeU {a b:α}{x:Bool}(h:x=true↔a=b):x=eqQ a b:=by grind[Pt]
theorem azi [BEq α][LawfulBEq α](a b:α):(a==b)=eqQ a b:=aeU bn
theorem abw {a b:α}(h:a=b):eqQ a b=true:=Pt.2 h
theorem ait {a b:α}(h:¬a=b):eqQ a b=false:=by grind[Pt]
theorem alk {T:(Int->au R)->Int->au R}{fin hit:au R}(p:α->α->Bool)(hp:∀x y,p x y=true↔x=y)(a b:ar α)(hl:a.length=b.length)(h:a.length<=10^9)(hs:∀i (hi:i<a.length) nx,T nx (i:Int)=cond (!(p a[i] (b[i]'(hl▸hi)))) hit (nx ((i+1:Nat):Int)))(hf:∀nx,T nx (a.length:Int)=fin): aH T fuel 0=cond (eqQ a b) fin hit:=by
 have hq:∀i,i<a.length->i<b.length:=λi hi=>hl▸hi;rw[gR (fin:=fin) (hit:=hit) (λi=>eqQ a[i]? b[i]?) a.length (by omega) ?hs hf]
 case hs=>
  intro i nx hi
  rw[hs i hi,al hi,al (hq i hi)]
  have:p a[i] (b[i]'(hq i hi))=eqQ (some a[i]) (some (b[i]'(hq i hi))):=aeU (by rw[hp,bf])
  rw[this]
 congr 1;apply aeU;rw[aO];constructor;intro k;apply cU;intro i;by_cases hi:i<a.length;exact Pt.1 (k i (bU.2 hi));rw[bJ (by omega),bJ (by omega)];rintro rfl i _;exact abw rfl
theorem aof {T:(Int->au Bool)->Int->au Bool}(p:α->α->Bool)(hp:∀x y,p x y=true↔x=y)(a b:ar α)(h:a.length<=10^9)(hs:a.length=b.length->∀i (hi:i<a.length)(uu:i<b.length) nx,T nx (i:Int)=cond (!(p a[i] b[i])) (some false) (nx ((i+1:Nat):Int)))(hf:∀nx,T nx (a.length:Int)=some true): cond ((a.length:Int) !=(b.length:Int)) (some false) (aH T fuel 0)=some (eqQ a b):=by by_cases hl:a.length=b.length;rw[alk p hp a b hl h (λi hi nx=>hs hl i hi (hl▸hi) nx) hf];rw[show((a.length:Int) !=(b.length:Int))=false by simp[hl]];cases eqQ a b<;>rfl;rw[ait (λe=>hl (by rw[e]))];rw[show((a.length:Int) !=(b.length:Int))=true by simp;omega];rfl
theorem ama (a b:cI)(h:a.length<=10^9):wB a b=some (eqQ a b):=by unfold wB;refine aof (λx y=>x==y) (λx y=>bn) a b h (λhl i hi uu nx=>?_) (λnx=>?_);simp only[px];rw[gN,aN hi,aN uu,aj (by omega) (by omega)];rfl;simp only[px];rw[fF];rfl
theorem PX (a b:Filter)(h:a.2.2.length<=10^9):yv a b=some (eqQ a b):=by grind[yv,ama,ab,azi]
def fnZ:az:=(0,0,(0,0,0),false,0,0)
def MR (b:Cl):Bool:=dp b.1 0 10000&&(dp b.2.1 0 100000&&dp b.2.2 0 b.2.1)
def alw (n:Int)(f:az):Bool:=dp f.1 0 7&&(dp f.2.1 1 (ak (n-1))&&(MR f.2.2.1&&(dp f.2.2.2.2.1 0 1000000000000&&dp f.2.2.2.2.2 0 1000000000000)))
def apT (f g:az):Bool:=(g.1==f.1)||(g.2.1==f.2.1)
def fnB (l:ar az)(n:Int)(i:Nat):Bool:=alw n (l.getD i fnZ)&&(range i).all (λj=> !(apT (l.getD i fnZ) (l.getD j fnZ)))
def jV (l:ar az)(ps:ar Port):Bool:=lB ps&&(range l.length).all (fnB l (ps.length:Int))
theorem Ks (b:Cl):sZ b=some (MR b):=by grind[sZ,cj,ab,MR]
theorem OO (b:Cl):xw b=some (MR b):=Ks b
theorem Oe (l:ar az)(ps:ar Port)(h:l.length<=10^9)(h1:ps.length<=10^9)(h2:∀p∈ps,p.2.1.length<=10^9):qK l ps=some (jV l ps):=by
 unfold qK jV;rw[gR (hit:=some false) (fin:=some true) (fnB l (ps.length:Int)) l.length (by omega) (λi nx hi=>?hs) (λnx=>?hf)]
 case hs=>
  simp only[pz]
  rw[gN,aN hi,aj (n:=(i:Int)+1) (by omega) (by omega)]
  simp only[af,ab,cj,Ks,cg,cT]
  rw[gR (hit:=some false) (fin:=nx ((i:Int)+1)) (λj=> !(apT l[i] (l.getD j fnZ))) i (by omega) (λj nx' hj=>?hs2) (λnx'=>?Jn)]
  case hs2=>
   have hjl:j<l.length:=by omega
   simp only[ow]
   rw[gN,aN hjl,aj (n:=(j:Int)+1) (by omega) (by omega)]
   simp only[af,ab,cg,cT,dv hjl,ln];rfl
  all_goals grind[ow,fnB,alw]
 case hf=>
  grind[pz]
 simp only[Nn ps h1 h2,ab];grind
theorem NY (l:ar az)(ps:ar Port)(h:l.length<=10^9)(h1:ps.length<=10^9)(h2:∀p∈ps,p.2.1.length<=10^9):pW l ps=some (jV l ps):=by
 unfold pW jV;rw[gR (hit:=some false) (fin:=some true) (fnB l (ps.length:Int)) l.length (by omega) (λi nx hi=>?hs) (λnx=>?hf)]
 case hs=>
  simp only[pc]
  rw[gN,aN hi,aj (n:=(i:Int)+1) (by omega) (by omega),Wi l i (by omega)]
  simp only[af,ab,cq,OO,cg,cT]
  have hti:(l.take i).length=i:=by simp;omega
  rw[hti,gR (hit:=some false) (fin:=nx ((i:Int)+1)) (λj=> !(apT l[i] (l.getD j fnZ))) i (by omega) (λj nx' hj=>?hs2) (λnx'=>?Jn)]
  case hs2=>
   have hjl:j<l.length:=by omega
   have hjt:j<(l.take i).length:=by omega
   simp only[pe]
   rw[gN,aN hjt,aj (n:=(j:Int)+1) (by omega) (by omega),List.getElem_take]
   simp only[af,ab,cg,cT,dv hjl,ln];rfl
  all_goals grind[pe,fnB,alw]
 case hf=>
  grind[pc]
 simp only[M7 ps h1 h2,ab];grind
def Mn (l:ar az)(i:Nat):Bool:=((l.getD i fnZ).1==(i:Int))&&((l.getD i fnZ).2.1==(i:Int)+1)
theorem afr (l:ar az)(h:l.length<=10^9):AK l=some ((range l.length).all (Mn l)):=by unfold AK;rw[gR (hit:=some false) (fin:=some true) (Mn l) l.length (by omega) (λi nx hi=>?hs) (λnx=>?hf)];all_goals grind[AL,aN,aj,ab,Mn]
theorem aaK (a b:Filter)(h:a.2.2.length<=10^9):zd a b=some (eqQ a b):=PX a b h
theorem US:∀(ms:ar bA)(i:Nat)(s:cI×ar Port),aa6 i s->ms.all xf=true->aa6 (i+ms.length) (ms.foldl Oj s)
 |[],i,s,h,_=>h
 |m::ms,i,s,h,hm=>by rw[bV,ah]at hm;have hu:=Jj m.1.2.2 s.1;have hl:=I3 hm.1;have:=US ms (i+1) (Oj s m) (h.port hm.1 _) hm.2;grind
theorem ac8 {ms:ar bA}(h:(gO ms).2=true):ms.length<=3:=by grind[gO,bq]
theorem Nf (ms:ar bA):(gO ms).1.length<=10^9/\∀p∈(gO ms).1,p.2.1.length<=10^9:=by unfold gO;cases hc:dp (ms.length:Int) 1 3&&(ms.all xf&&lB (Ki ms))with|false=>grind|true=>simp only[ah,bq]at hc;have:=US ms 0 ([0],[]) ⟨by simp,rfl,by simp⟩ hc.2.1;rw[cr]at this;exact Mm this (by omega)
def im (m:bp):Bool:=m.all (λx=>(x.length:Int)==128)&&decide ((m.length:Int)<=64)
theorem Ku (m:bp)(h:m.length<=10^9):tc m=some (im m):=by
 unfold tc im;rw[vE (fin:=some (decide ((m.length:Int)<=64))) (λx:Bytes=>(x.length:Int)==128) m (by omega) (λi hi nx=>?hs) (λnx=>?hf)]
 case hs=>
  simp only[wL]
  rw[gN,aN hi,aj (by omega) (by omega)];rfl
 all_goals grind[wL]
theorem OR (m:bp)(h:m.length<=10^9):xA m=some (im m):=Ku m h
def aag:aC:=(0,0,0,false)
def RE (m:aC):Bool:=dp m.1 0 7&&(dp m.2.1 0 1023&&dp m.2.2.1 0 63)
def zI (d p:Int)(m:aC):Bool:=(m.1==d)&&(m.2.1==p)
def aae (l:ar aC)(i:Nat):Bool:=RE (l.getD i aag)&&(range i).all (λj=> !(zI (l.getD i aag).1 (l.getD i aag).2.1 (l.getD j aag)))
def fN (l:ar aC):Bool:=decide ((l.length:Int)<=96)&&(range l.length).all (aae l)
theorem QE (l:ar aC)(h:l.length<=10^9):sD l=some (fN l):=by
 unfold sD fN;rw[gR (hit:=some false) (fin:=some true) (aae l) l.length (by omega) (λi nx hi=>?hs) (λnx=>?hf)]
 case hs=>
  simp only[rN]
  rw[gN,aN hi,aj (by omega) (by omega)]
  simp only[af,ab,cj,cg]
  rw[gR (hit:=some false) (fin:=nx ((i)+1)) (λj=> !(zI l[i].1 l[i].2.1 (l.getD j aag))) i (by omega) (λj nx hj=>?hs2) (λnx=>?Jn)]
  case hs2=>
   grind[pB,aN,aj,ab,zI]
  all_goals grind[pB,aae,RE]
 all_goals grind[rN]
def ac4 (l:ar aC)(d p:Int):Int:=match l.findIdx? (zI d p)with|some i=>(i:Int)|none=> -1
theorem acr (l:ar aC)(d p:Int)(h:l.length<=10^9):qd l d p=some (ac4 l d p):=by unfold qd ac4;rw[F4 (hit:=λi=>some i) (fin:=some (-1)) (zI d p) l (by omega) (λi hi nx=>?hs) (λnx=>?hf)];all_goals grind[xi,aN,aj,ab,zI]
theorem af2 (l:ar aC)(i:Nat)(hi:i<l.length):(ac4 l l[i].1 l[i].2.1==(i:Int))=(range i).all (λj=> !(zI l[i].1 l[i].2.1 (l.getD j aag))):=by
 have HE:zI l[i].1 l[i].2.1 l[i]=true:=by simp[zI]
 unfold ac4;cases hq:l.findIdx? (zI l[i].1 l[i].2.1)with
 |none=>rw[List.findIdx?_eq_none_iff]at hq;rw[hq l[i] (aE hi)]at HE;cases HE
 |some k=>
  rw[List.findIdx?_eq_some_iff_getElem]at hq;obtain⟨hk,hpk,iG⟩:=hq;rw[dQ,aO];simp only[bU,bn,aU];constructor;intro e j hj;have hjl:j<l.length:=by omega
  rw[dv hjl];have:=iG j (by omega);simpa using this;intro Ln;rcases Nat.lt_trichotomy k i with hki|hki|hki;have:=Ln k hki;rw[dv hk,hpk]at this;cases this;omega;have:=iG i hki;rw[HE]at this;simp at this
theorem PZ (l:ar aC)(h:l.length<=10^9):sn l=some (fN l):=by
 unfold sn fN;rw[gR (hit:=some false) (fin:=some (decide ((l.length:Int)<=96))) (aae l) l.length (by omega) (λi nx hi=>?hs) (λnx=>?hf)]
 case hs=>
  simp only[rn]
  rw[gN,aN hi,aj (by omega) (by omega)]
  grind[ab,cq,acr,af2,aae,RE,dp]
 all_goals grind[rn]
def LP (n:Int)(l:cI)(i:Nat):Bool:=dp (l.getD i 0) 0 (n-1)&& !((l.take i).contains (l.getD i 0))
def fZ (p:cH):Bool:=dp p.1 0 130944&&(dp p.2.1 1 512&&(dp p.2.2.1 0 16&&(range p.2.2.2.length).all (LP p.2.2.1 p.2.2.2)))
def Lh (n:Int)(l:cI):ar Bool:=(range n.toNat).map λk:Nat=>l.contains (k:Int)
theorem YK (n:Int)(l:cI):(Lh n l).length=n.toNat:=by simp[Lh]
theorem Nj (n:Int)(l:cI)(k:Nat)(h:k<(Lh n l).length):(Lh n l)[k]=l.contains (k:Int):=by simp[Lh]
theorem ajZ (n:Int)(l:cI)(k:Nat)(h:k<n.toNat):(Lh n l).set k true=Lh n (l++[(k:Int)]):=by
 apply List.ext_getElem;simp[Lh];intro j h1 h2;rw[List.getElem_set];split;rename_i e;subst e;rw[Nj];simp;rename_i e;rw[Nj,Nj];simp only[List.contains_append];have:([(k:Int)].contains (j))=false:=by simp;omega
 rw[this];simp
theorem ac7 {T:(ar Bool×Int->au Bool)->ar Bool×Int->au Bool}(n:Int)(l:cI)(hl:l.length<=10^9)
 (hs:∀i (hi:i<l.length)(s:ar Bool) nx,T nx (s,(i:Int))=aa (cond (!(dp l[i] 0 (n-1))) (some true) (aa (idx s l[i]) λx=>some x)) λq=>
  cond q (some false) (aa (idx s l[i]) λ_=>aa (idx s l[i]) λ_=>nx (s.set l[i].toNat true,((i+1:Nat):Int)))) (hf:∀s nx,T nx (s,(l.length:Int))=some true):
 aH T fuel (List.replicate n.toNat false,0)=some ((range l.length).all (LP n l)):=by
 have e0:(List.replicate n.toNat false,(0))=(Lh n (l.take 0),((0:Nat):Int)):=by congr 1;simp only[Lh,List.take_zero,List.contains_nil,List.map_const',List.length_range]
 rw[e0,MO (λi=>(Lh n (l.take i),(i:Int))) (LP n l) l.length (by omega) (λi nx hi hp=>?hs) (λ_ nx=>hf _ nx)]
 case hs=>
  rw[hs i hi]
  unfold LP
  rw[dv hi]
  by_cases vC:dp l[i] 0 (n-1)=true
  ·have hb:=vC
   rw[bq]at hb
   obtain⟨k,hk⟩:∃k:Nat,l[i]=(k):=⟨l[i].toNat,by omega⟩
   have hkn:k<(Lh n (l.take i)).length:=by rw[YK];omega
   rw[vC,hk,aN hkn,Nj]
   simp only[ai,ae,ab,bj,ln,aw]
   rw[ajZ _ _ _ (by rw[YK]at hkn;exact hkn),<-hk,<-aR hi]
  ·have alP:dp l[i] 0 (n-1)=false:=by simpa using vC
   rw[alP];rfl
 cases (range l.length).all (LP n l)<;>rfl
theorem xX (p:cH)(h:p.2.2.2.length<=10^9):jG p=some (fZ p):=by
 unfold jG fZ;simp only[cj,ab,cg];by_cases hn:dp p.2.2.1 0 16=true
 ·have hb:=hn;rw[bq]at hb;rw[zip,aQ (by omega),ac7 p.2.2.1 p.2.2.2 h (λi hi s nx=>?hs) (λs nx=>?hf)]
  case hs=>
   simp only[BU]
   rw[gN,aN hi,aj (by omega) (by omega),aj (by omega) (by omega)]
   simp only[af,ab,cj];rfl
  case hf=>
   simp only[BU]
   rw[fF];rfl
  rw[hn];cases dp p.1 0 130944<;>cases dp p.2.1 1 512<;>rfl
 have Ff:dp p.2.2.1 0 16=false:=by simpa using hn
 rw[Ff];cases dp p.1 0 130944<;>cases dp p.2.1 1 512<;>rfl
theorem Aj (p:cH)(h:p.2.2.2.length<=10^9):jA p=some (fZ p):=by
 unfold jA fZ;simp only[cq,ab,cg];by_cases hn:dp p.2.2.1 0 16=true
 ·have hb:=hn;rw[bq]at hb;rw[zip,aQ (by omega),ac7 p.2.2.1 p.2.2.2 h (λi hi s nx=>?hs) (λs nx=>?hf)]
  case hs=>
   simp only[Az]
   rw[gN,aN hi,aj (by omega) (by omega),aj (by omega) (by omega)]
   simp only[af,ab,cq];rfl
  case hf=>
   simp only[Az]
   rw[fF];rfl
  rw[hn];cases dp p.1 0 130944<;>cases dp p.2.1 1 512<;>rfl
 have Ff:dp p.2.2.1 0 16=false:=by simpa using hn
 rw[Ff];cases dp p.1 0 130944<;>cases dp p.2.1 1 512<;>rfl
def mw (n:Int):Bool:=(n==2)||((n==4)||((n==8)||(n==16)))
theorem JT (n:Int):wY n=some (mw n):=by grind[wY,ab,mw]
theorem Mr (n:Int):xG n=some (mw n):=JT n
theorem oO {n:Int}:mw n=true↔n=2\/n=4\/n=8\/n=16:=by simp[mw]
theorem Jk (x:Int)(k:Nat)(hk:k<=64:=by omega):ak x%(2^k:Int)=x%(2^k:Int):=by
 obtain⟨c,hc⟩:∃c:Int,(18446744073709551616)=2^k*c:=⟨2^(64-k),by rw[<-Int.pow_add,show k+(64-k)=64 by omega];rfl⟩
 have:ak x=x\/∃q:Int,ak x=x+18446744073709551616*q:=by right;simp only[ak,gQ,IntKind.wrap,IntKind.bits,IntKind.signed];simp;split;exact⟨-(x/18446744073709551616)-1,by omega⟩;exact⟨-(x/18446744073709551616),by omega⟩
 rcases this with h|⟨q,h⟩;all_goals simp_all[Int.mul_assoc]
theorem IH (x:Int)(k:Nat)(hk:k<63:=by omega):((gr x&&&gr (2^k-1)).toNat:Int)=x%2^k:=by
 have h2:(2)^k<=2^62:=by have:(2)^k<=2^62:=Nat.pow_le_pow_right (by omega) (by omega);exact_mod_cast this
 have hm:(gr (2^k-1)).toNat=2^k-1:=by show(BitVec.ofInt 64 (2^k-1)).toNat=2^k-1;grind
 rw[BitVec.toNat_and,hm,Nat.and_two_pow_sub_one_eq_mod];have hx:0<=x%18446744073709551616:=by omega
 have e:(((x%18446744073709551616).toNat%2^k))=(x%18446744073709551616)%2^k:=by push_cast;rw[Int.toNat_of_nonneg hx]
 refine e.trans ?_;exact Int.emod_emod_of_dvd x ⟨2^(64-k),by rw[<-Int.pow_add,show k+(64-k)=64 by omega];rfl⟩
theorem RJ (x n:Int)(h0:0<n:=by omega)(h1:n<=4611686018427387904:=by omega):jB x n=some (x%n):=by unfold jB;have:=Int.emod_nonneg x (show n≠0 by omega);grind[gD,aj]
def dq (r:kf):Int:=if mw r.2.1 then(r.2.2.2-r.2.2.1)%(2*r.2.1) else 0
theorem Hi (r:kf):kv r=some (dq r):=by
 unfold kv dq;rw[JT,ab];cases hs:mw r.2.1 with
 |false=>rfl
 |true=>
  congr 1;rcases oO.1 hs with h|h|h|h<;>rw[h];have e:ak (ak (2*2)-1)=2^2-1:=by decide
  rw[e,IH _ 2,Jk _ 2,aj (by omega) (by omega)];rfl;have e:ak (ak (2*4)-1)=2^3-1:=by decide
  rw[e,IH _ 3,Jk _ 3,aj (by omega) (by omega)];rfl;have e:ak (ak (2*8)-1)=2^4-1:=by decide
  rw[e,IH _ 4,Jk _ 4,aj (by omega) (by omega)];rfl;have e:ak (ak (2*16)-1)=2^5-1:=by decide
  rw[e,IH _ 5,Jk _ 5,aj (by omega) (by omega)];rfl
theorem GC (r:kf):ko r=some (dq r):=by unfold ko dq;rw[Mr,ab];cases hs:mw r.2.1 with|false=>rfl|true=>have hb:=oO.1 hs;rw[aj (by omega) (by omega)];simp only[RJ _ (2*r.2.1) (show 0<2*r.2.1 by omega),ab];grind[aj]
def fS (r:kf):Bool:=dp r.1 0 130944&&(mw r.2.1&&(dp r.2.2.1 0 (2*r.2.1-1)&&(dp r.2.2.2 0 (2*r.2.1-1)&&decide (dq r<=r.2.1))))
theorem Nk {n:Int}(h:mw n=true):ak (ak (2*n)-1)=2*n-1:=by grind[oO,aj]
theorem En (r:kf):kQ r=some (fS r):=by unfold kQ fS;simp only[cj,JT,Hi,ab,cg,cF];grind[mw,Nk]
theorem D0 (r:kf):kK r=some (fS r):=by unfold kK fS;simp only[cq,Mr,GC,ab,cg,cF];grind[mw,Nk]
theorem CE (p:cH)(h:p.2.2.2.length<=10^9):ky p=some p:=by grind[ky,aQ]
theorem nM (l:cI)(h:l.length<=10^9):gb l=some l:=by grind[gb,aQ]
theorem zn (p:cH)(h:p.2.2.2.length<=10^9):jh p=some p:=by simp_all[jh,nM]
def TS (p:cH)(l:cI):cH:=(p.1,p.2.1,p.2.2.1,p.2.2.2++l)
def PC (p:cH)(l:cI):Bool:=fZ p&&fZ (TS p l)
def UX (p:cH)(l:cI):cH×Bool:=bif PC p l then(TS p l,true) else(p,false)
theorem V6 (p:cH)(l:cI)(h:p.2.2.2.length+l.length<=10^9):ir p l=some (UX p l):=by unfold ir;rw[CE p (by omega),ab,aQ (by omega),xX p (by omega)];rw[xX (p.1,p.2.1,p.2.2.1,p.2.2.2++l) (by simp;omega)];show _=some (bif fZ p&&fZ (p.1,p.2.1,p.2.2.1,p.2.2.2++l) then _ else _);cases fZ p<;>cases fZ (p.1,p.2.1,p.2.2.1,p.2.2.2++l)<;>rfl
theorem Vg (p:cH)(l:cI)(h:p.2.2.2.length+l.length<=10^9):gw p l=some (UX p l):=by unfold gw;rw[zn p (by omega),ab,aQ (by omega),Aj p (by omega)];rw[Aj (p.1,p.2.1,p.2.2.1,p.2.2.2++l) (by simp;omega)];show _=some (bif fZ p&&fZ (p.1,p.2.1,p.2.2.1,p.2.2.2++l) then _ else _);cases fZ p<;>cases fZ (p.1,p.2.1,p.2.2.1,p.2.2.2++l)<;>rfl
theorem aly (p:cH)(l:cI):(UX p l).2=PC p l:=by grind[UX]
def jO (n:Int)(s:ia):Bool:=dp s.2.1 1 n&&dp s.1 0 65535
def cE (l:ar ia):cI:=l.flatMap (·.2.2)
def eI (l:ar ia):Int:=(l.map (·.2.1)).sum
def Tb (t:bX):Bool:=fS t.1&&(fZ t.2.1&&(dp t.2.2.2 0 65535&&(t.2.2.1.all (jO t.1.2.1)&&(PC t.2.1 (cE t.2.2.1)&&decide (eI t.2.2.1<=t.1.2.1)))))
theorem Pq (n:Int):∀l:ar ia,l.all (jO n)=true->0<=eI l
 |[],_=>by simp[eI]
 |x::l,h=>by simp only[bV,ah]at h;have:=Pq n l h.2;grind[jO,bq,eI]
theorem YU (p:cH)(n:Int)(hn:0<=n/\n<=16)(fin:Int×cI->au Bool)(ng:∀s:Int×cI,p.2.2.2.length+s.2.length<=10^9->fin s=some (PC p s.2&&decide (s.1<=n))):
 ∀(l:ar ia)(sum:Int)(acc:cI),0<=sum->sum+16*l.length<=100000000000->p.2.2.2.length+(acc.length+(cE l).length)<=10^9->
 zv (λx (s:Int×cI) k=>cond (!(jO n x)) (some false) (room (s.2.length+x.2.2.length) (k (ak (s.1+x.2.1),s.2++x.2.2)))) fin l (sum,acc)
  =some (l.all (jO n)&&(PC p (acc++cE l)&&decide (sum+eI l<=n)))
 |[],sum,acc,h0,h1,h2=>by simp_all[zv,cE,eI]
 |x::l,sum,acc,h0,h1,h2=>by
  have hb:cE (x::l)=x.2.2++cE l:=by simp[cE]
  rw[hb,ay]at h2;rw[zv,bV];cases hx:jO n x with
  |false=>rfl
  |true=>
   have E2:=hx;unfold jO at E2;simp only[ah,bq]at E2;simp only[bH,de,df]at h1;simp only[ai,ae,bj];rw[aQ (by omega),aj (by omega) (by omega),YU p n hn fin ng l _ _ (by omega) (by omega) (by rw[ay];omega)];rw[hb,aW];have e:sum+x.2.1+eI l=sum+eI (x::l):=by grind[eI]
   rw[e]
theorem Yf (p:cH)(n:Int)(hn:n<=16)(fin:Int×cI->au Bool)(ng:∀s:Int×cI,p.2.2.2.length+s.2.length<=10^9->fin s=some (PC p s.2)):
 ∀(l:ar ia)(left:Int)(acc:cI),0<=left->left<=n->p.2.2.2.length+(acc.length+(cE l).length)<=10^9->
 zv (λx (s:Int×cI) k=>cond (decide (x.2.1<1)||(decide (x.2.1>s.1)|| !(dp x.1 0 65535))) (some false) (room (s.2.length+x.2.2.length) (k (ak (s.1-x.2.1),s.2++x.2.2)))) fin l (left,acc)
  =some (l.all (jO n)&&(PC p (acc++cE l)&&decide (eI l<=left)))
 |[],left,acc,h0,h1,h2=>by rw[zv,ng _ (by exact h2)];simp[cE,eI,h0]
 |x::l,left,acc,h0,h1,h2=>by
  have hb:cE (x::l)=x.2.2++cE l:=by simp[cE]
  have hc:eI (x::l)=x.2.1+eI l:=by simp only[eI,ei,List.sum_cons]
  rw[hb,ay]at h2;rw[zv,bV,hb,hc];by_cases c1:x.2.1<1;have e:jO n x=false:=by unfold jO dp;rw[aq (show¬1<=x.2.1 by omega)];rfl
  rw[e,ax c1];rfl;rw[aq c1];by_cases c2:x.2.1>left;rw[ax c2];cases ha:l.all (jO n)with|false=>simp|true=>have:=Pq n l ha;rw[aq (show¬x.2.1+eI l<=left by omega)];simp
  rw[aq c2];have e:jO n x=dp x.1 0 65535:=by have:dp x.2.1 1 n=true:=bq.2 ⟨by omega,by omega⟩;unfold jO;rw[this];rfl
  rw[e];cases dp x.1 0 65535 with
  |false=>rfl
  |true=>
   simp only[cB,ai,ae,bj];rw[aQ (by omega),aj (by omega) (by omega),Yf p n hn fin ng l _ _ (by omega) (by omega) (by rw[ay];omega),aW];have e:decide (eI l<=left-x.2.1)=decide (x.2.1+eI l<=left):=by simp;omega
   rw[e]
theorem agy (t:bX)(h1:t.2.2.1.length<=10^9)(h2:t.2.1.2.2.2.length+(cE t.2.2.1).length<=10^9):Ge t=some (Tb t):=by
 unfold Ge Tb;simp only[En,xX _ (show t.2.1.2.2.2.length<=10^9 by omega),cj,ab,cg];cases hr:fS t.1 with
 |false=>rfl
 |true=>
  have hn:0<=t.1.2.1/\t.1.2.1<=16:=by grind[fS,oO]
  have Cg:=dc;have key:=CD (T:=B4 (λ(y9) (uq) (_)=>aa (ir t.2.1 uq) λpw=>some (bif pw.2 then decide (y9<=t.1.2.1) else false)) (λ(zS) (_) (_) (_)=>some zS) false t) t.2.2.1 (λ(s) i=>(s.1,s.2,(i))) (λx (s) k=>cond (!(jO t.1.2.1 x)) (some false) (room (s.2.length+x.2.2.length) (k (ak (s.1+x.2.1),s.2++x.2.2)))) (λs=>aa (ir t.2.1 s.2) λpw=>some (pw.2&&decide (s.1<=t.1.2.1))) (λi hi s nx=>by simp(disch:=omega)[B4,ax,aN,aj,cj,jO]) (λs nx=>by grind[B4]) fuel 0 (0,([])) (by omega) (by omega);rw[fI,YU t.2.1 t.1.2.1 hn _ (λs hs=>by grind[V6,ab,aly]) _ _ _ (by omega) (by omega) (by simpa using h2)]at key;grind
theorem afx (t:bX)(h1:t.2.2.1.length<=10^9)(h2:t.2.1.2.2.2.length+(cE t.2.2.1).length<=10^9):F6 t=some (Tb t):=by
 unfold F6 Tb;simp only[D0,Aj _ (show t.2.1.2.2.2.length<=10^9 by omega),cq,ab,cg];cases hr:fS t.1 with
 |false=>rfl
 |true=>
  have hn:0<=t.1.2.1/\t.1.2.1<=16:=by grind[fS,oO]
  have Cg:=dc;have key:=CD (T:=AE (λ(_) (y9) (_)=>aa (gw t.2.1 y9) λsW=>some sW.2) (λ(F1) (_) (_) (_)=>some F1) false t.2.2.1 ((List.length t.2.2.1)) t) t.2.2.1 (λ(s) i=>(s.1,s.2,(i))) (λx (s) k=>cond (decide (x.2.1<1)||(decide (x.2.1>s.1)|| !(dp x.1 0 65535))) (some false) (room (s.2.length+x.2.2.length) (k (ak (s.1-x.2.1),s.2++x.2.2)))) (λs=>aa (gw t.2.1 s.2) λpw=>some pw.2) (λi hi s nx=>by simp(disch:=omega)[AE,ax,aN,aj,cq,cg]) (λs nx=>by grind[AE]) fuel 0 (t.1.2.1,([])) (by omega) (by omega);rw[fI,Yf t.2.1 t.1.2.1 (by omega) _ (λs hs=>by grind[Vg,ab,aly]) _ _ _ (by omega) (by omega) (by simpa using h2)]at key;grind
def Qs (s:ed):Bool:=dp s.2.1 0 65535&&(dp s.2.2.1 0 65535&&(!decide ((List.length s.2.2.2.2.2.2.2:Int)>320)&&
 (bif s.1==17 then(s.2.2.2.1==0)&&((s.2.2.2.2.1==0)&&((s.2.2.2.2.2.1==0)&&(s.2.2.2.2.2.2.1==0)))
  else(s.1==6)&&(dp s.2.2.2.1 0 4294967295&&(dp s.2.2.2.2.1 0 4294967295&&(dp s.2.2.2.2.2.1 0 31&&dp s.2.2.2.2.2.2.1 0 65535))))))
theorem ahX (s:ed):vx s=some (Qs s):=by simp_all[vx,cj,cg,Bool.and_assoc,Qs]
theorem ahv (s:ed):uL s=some (Qs s):=by simp only[uL,cq,ab,cg,cF,cT,cN,Bool.not_or,ln,Bool.and_assoc,Qs];by_cases h:s.1=17;rw[h];rfl;rw[show(s.1==17)=false from by simpa using h];cases s.1==6<;>rfl
def LN (f:Int):Bool:=(f==16)||(f==17)||(f==24)||(f==25)
theorem UN (f:Int)(h:dp f 0 31=true):(ak (toNat (gr f&&&~~~ gr 9))==16)=LN f:=by
 have key:∀k:Fin 32,(ak (toNat (gr (k.val:Int)&&&~~~ gr 9))==16)=LN (k.val:Int):=by decide
 rw[bq]at h;have:=key ⟨f.toNat,by omega⟩;grind
theorem UM (f:Int)(h:dp f 0 31=true):uQ f=some (LN f):=by
 have key:∀k:Fin 32,((ak (toNat (gr (k.val:Int)&&&gr 16)) !=0)&&(ak (toNat (gr (k.val:Int)&&&~~~ gr 25))==0))=LN (k.val:Int):=by decide
 rw[bq]at h;have:=key ⟨f.toNat,by omega⟩;rw[show((f.toNat:Nat):Int)=f by omega]at this;grind[uQ,ab]
theorem R1 {s:ed}(h:Qs s=true)(h6:(s.1==6)=true):dp s.2.2.2.2.2.1 0 31=true:=by grind[Qs]
def LV (p:aP):Bool:=dp p.1 0 281474976710655&&(dp p.2.1 0 281474976710655&&(dp p.2.2.1 (-1) 4095&&(dp p.2.2.2.1 0 255&&(dp p.2.2.2.2.2.1 0 255&&(dp p.2.2.2.2.1 0 65535&&(dp p.2.2.2.2.2.2.1 0 4294967295&&(dp p.2.2.2.2.2.2.2.1 0 4294967295&&Qs p.2.2.2.2.2.2.2.2)))))))
def dK (p:aP):Bool:=LV p&&(decide ((List.length p.2.2.2.2.2.2.2.2.2.2.2.2.2.2.2:Int)<=128)||(p.2.2.2.2.2.2.2.2.1==6)&&LN p.2.2.2.2.2.2.2.2.2.2.2.2.2.1)
theorem U4 (h:LV p=true):Qs p.2.2.2.2.2.2.2.2=true:=by grind[LV]
theorem qB (p:aP):gL p=some (dK p):=by unfold gL dK;simp only[cj,ahX,ab,cg,cF,cT,cN,Bool.not_or,ln];rw[show(dp p.1 0 281474976710655&&(dp p.2.1 0 281474976710655&&(dp p.2.2.1 (-1) 4095&&(dp p.2.2.2.1 0 255&&(dp p.2.2.2.2.2.1 0 255&&(dp p.2.2.2.2.1 0 65535&&(dp p.2.2.2.2.2.2.1 0 4294967295&&(dp p.2.2.2.2.2.2.2.1 0 4294967295&&Qs p.2.2.2.2.2.2.2.2))))))))=LV p from rfl];grind[UN,R1,U4,Bool.or_comm]
theorem ny (p:aP):gk p=some (dK p):=by unfold gk dK;simp only[cq,ahv,ab];grind[LV,UM,R1,ab]
def iC (q:Cl):Bool:=dp q.1 0 130944&&(mw q.2.1&&dp q.2.2 0 (ak ((ak (2*q.2.1))-1)))
theorem R8 (q:Cl):rR q=some (iC q):=by grind[rR,cj,JT,ab,iC]
theorem Rt (q:Cl):ru q=some (iC q):=by grind[ru,cq,Mr,ab,iC]
def akv:kT:=((0,0,0,0,0,0,0,0,0,0,0,0,0,0,0,([]:Bytes)),0,0)
def adZ (p:kT):Bool:=(p.1.1==0)&&((p.1.2.1==0)&&((p.1.2.2.1==0)&&((p.1.2.2.2.1==0)&&((p.1.2.2.2.2.1==0)&&((p.1.2.2.2.2.2.1==0)&&((p.1.2.2.2.2.2.2.1==0)&&((p.1.2.2.2.2.2.2.2.1==0)&&((p.1.2.2.2.2.2.2.2.2.1==0)&&((p.1.2.2.2.2.2.2.2.2.2.1==0)&&((p.1.2.2.2.2.2.2.2.2.2.2.1==0)&&((p.1.2.2.2.2.2.2.2.2.2.2.2.1==0)&&((p.1.2.2.2.2.2.2.2.2.2.2.2.2.1==0)&&((p.1.2.2.2.2.2.2.2.2.2.2.2.2.2.1==0)&&((p.1.2.2.2.2.2.2.2.2.2.2.2.2.2.2.1==0)&&((p.1.2.2.2.2.2.2.2.2.2.2.2.2.2.2.2==([]:Bytes))&&((p.2.1==0)&&((p.2.2==0)&&true)))))))))))))))))
def Qr (r:bk):Bool:=(fS r.1&&(iC r.2.1&&(iC r.2.2.1&&((r.2.1.1==r.2.2.1.1)&&((r.2.1.2.1==r.2.2.1.2.1)&&dp r.2.2.2.2.2 0 1000000000000)))))&&
 (bif r.2.2.2.2.1 then dK r.2.2.2.1.1&&(dp r.2.2.2.1.2.1 0 320&&dp r.2.2.2.1.2.2 1 320) else adZ r.2.2.2.1)
theorem anv (p:kT):adZ p=true↔p=akv:=by grind[adZ,akv]
theorem aaP (r:bk):CP r=some (Qr r):=by unfold CP Qr adZ;simp_all[En,R8,cj,qB,cg,bne]
theorem aaa (r:bk):CA r=some (Qr r):=by unfold CA Qr adZ;simp_all[D0,Rt,cq,ny,cg,bne]
def um (v:Vector):Bool:=(kx v).getD false
theorem CM (v:Vector):kx v=some (um v):=by simp_all[kx,vy,cj,cg,um]
theorem GD (v:Vector):oK v=some (um v):=CM v
theorem RV (l:ar α)(p:α->Bool):(range l.length).all (λi=>l[i]?.all p)=l.all p:=by rw[dQ,aO,aO];constructor;intro h x hx;obtain⟨i,hi,rfl⟩:=List.getElem_of_mem hx;have:=h i (bU.2 hi);rwa[al hi]at this;intro h i hi;rw[al (bU.1 hi)];exact h _ (aE _)
theorem agZ (l:ar α)(p q:α->Bool):l.all (λx=>p x&&q x)=(l.all p&&l.all q):=by grind
def kE (h:Host):cI:=[h.2.2.2.2.2.2.2.2.2.2.2.2.2.2.1,h.2.2.2.2.2.2.2.2.2.2.2.2.2.2.2.1,h.2.2.2.2.2.2.2.2.2.2.2.2.2.2.2.2.1,h.2.2.2.2.2.2.2.2.2.2.2.2.2.2.2.2.2.1,h.2.2.2.2.2.2.2.2.2.2.2.2.2.2.2.2.2.2]
def zH (h:Host):Bool:=dp (h.2.2.2.1.length:Int) 1 2&&(((h.2.2.2.2.1.length:Int)==(h.2.2.2.1.length:Int))&&(((h.2.2.2.2.2.1.length:Int)==(h.2.2.2.1.length:Int))&&((h.2.2.2.2.2.2.1.length:Int)==(h.2.2.2.1.length:Int))))
def YF (h:Host):Bool:=h.2.2.2.1.all Qr&&(h.2.2.2.2.1.all fZ&&h.2.2.2.2.2.1.all um)
def fw (h:Host):Bool:=im h.1&&(fN h.2.1&&(Tb h.2.2.1&&(ie h.2.2.2.2.2.2.2.1&&(zH h&&(jb h.2.2.2.2.2.2.2.2.1 (h.2.2.2.1.length:Int)&&(YF h&&(kE h).all (λx=>dp x 0 1000000000000)))))))
structure Lx (h:Host):Prop where
 a1:h.1.length<=10^9
 a2:h.2.1.length<=10^9
 t1:h.2.2.1.2.2.1.length<=10^9
 t2:h.2.2.1.2.1.2.2.2.length+(cE h.2.2.1.2.2.1).length<=10^9
 f1:h.2.2.2.2.2.2.2.1.2.2.length<=10^9
 s1:h.2.2.2.2.2.2.2.2.1.1.length<=10^9
 s2:h.2.2.2.2.2.2.2.2.1.2.1.length<=10^9
 s3:h.2.2.2.2.2.2.2.2.1.2.2.2.length<=10^9
 p1:∀p∈h.2.2.2.2.1,p.2.2.2.length<=10^9
theorem pq (l:zH h=true):h.2.2.2.1.length<=2/\h.2.2.2.2.1.length=h.2.2.2.1.length/\h.2.2.2.2.2.1.length=h.2.2.2.1.length/\h.2.2.2.2.2.2.1.length=h.2.2.2.1.length:=by grind[zH,bq]
theorem YG {T:(Int->au R)->Int->au R}{fin hit:au R}(l:zH h=true)(hs:∀i (hi:i<h.2.2.2.1.length) nx,T nx (i:Int)=cond (!(Qr h.2.2.2.1[i]&&(fZ (h.2.2.2.2.1[i]'((pq l).2.1▸hi))&&um (h.2.2.2.2.2.1[i]'((pq l).2.2.1▸hi))))) hit (nx ((i+1:Nat):Int)))(hf:∀nx,T nx (h.2.2.2.1.length:Int)=fin):aH T fuel 0=cond (YF h) fin hit:=by
 have hl:=pq l;rw[gR (fin:=fin) (hit:=hit) (λi=>h.2.2.2.1[i]?.all Qr&&(h.2.2.2.2.1[i]?.all fZ&&h.2.2.2.2.2.1[i]?.all um)) h.2.2.2.1.length (by omega) ?hs hf]
 case hs=>
  grind
 rw[agZ,agZ,RV];have e1:=RV h.2.2.2.2.1 fZ;have e2:=RV h.2.2.2.2.2.1 um;rw[hl.2.1]at e1;rw[hl.2.2.1]at e2;rw[e1,e2];rfl
theorem Sm {T:(Int->au R)->Int->au R}{fin hit:au R}(h:Host)(hs:∀i (hi:i<(kE h).length) nx,T nx (i:Int)=cond (!(dp (kE h)[i] 0 1000000000000)) hit (nx ((i+1:Nat):Int)))(hf:∀nx,T nx ((kE h).length:Int)=fin):aH T fuel 0=cond ((kE h).all (λx=>dp x 0 1000000000000)) fin hit:=vE (λx=>dp x 0 1000000000000) (kE h) (by simp[kE]) hs hf
theorem vp (h:Host)(z:Lx h):jF h=some (fw h):=by
 unfold jF fw;simp only[Ku _ z.a1,QE _ z.a2,agy _ z.t1 z.t2,za _ z.f1,QJ _ _ z.s1 z.s2 z.s3,cj,ab,cg];cases im h.1;rfl;cases fN h.2.1;rfl;cases Tb h.2.2.1;rfl;cases ie h.2.2.2.2.2.2.2.1;rfl;simp only[ai,ae,cT,bne];rw[show(!dp (h.2.2.2.1.length:Int) 1 2||(!((h.2.2.2.2.1.length:Int)==(h.2.2.2.1.length:Int))||(!((h.2.2.2.2.2.1.length:Int)==(h.2.2.2.1.length:Int))||(!((h.2.2.2.2.2.2.1.length:Int)==(h.2.2.2.1.length:Int))|| !jb h.2.2.2.2.2.2.2.2.1 (h.2.2.2.1.length:Int)))))= !(zH h&&jb h.2.2.2.2.2.2.2.2.1 (h.2.2.2.1.length:Int)) by unfold zH;simp only[Bool.not_and,Bool.or_assoc]];cases hl:zH h;rfl;cases jb h.2.2.2.2.2.2.2.2.1 (h.2.2.2.1.length:Int);rfl;have hL:=pq hl;simp only[gu,ai,ae,bj];rw[YG (h:=h) (hit:=some false) (fin:=some ((kE h).all (λx=>dp x 0 1000000000000))) hl ?hs ?hf]
 case hs=>
  intro i hi nx
  simp only[BQ]
  rw[gN,aN hi,aN (hL.2.1▸hi),aN (hL.2.2.1▸hi),aj (n:=(i:Int)+1) (by omega) (by omega)]
  simp only[af,ab,aaP,CM,xX _ (z.p1 _ (aE _)),cg,cT,Bool.not_and]
  rfl
 case hf=>
  intro nx
  simp only[BQ]
  rw[fF]
  simp only[ae]
  refine(Sm (fin:=some true) (hit:=some false) h ?_ ?_).trans ?_
  ·intro i hi nx
   simp only[yC]
   have uu:i<5:=hi
   change (bif decide ((i:Int)<5) then aa (idx (kE h) (i:Int)) _ else _)=_
   rw[gN,aN hi,aj (n:=(i:Int)+1) (by omega) (by omega),ab,cj]
   rfl
  ·intro nx
   simp only[yC]
   rw[aq (by simp[kE])];rfl
  ·cases (kE h).all (λx=>dp x 0 1000000000000)<;>rfl
 cases YF h<;>rfl
theorem Ai (h:Host)(z:Lx h):jz h=some (fw h):=by
 unfold jz fw;simp only[OR _ z.a1,PZ _ z.a2,afx _ z.t1 z.t2,uI _ z.f1,P5 _ _ z.s1 z.s2 z.s3,cq,ab,cg];cases im h.1;rfl;cases fN h.2.1;rfl;cases Tb h.2.2.1;rfl;cases ie h.2.2.2.2.2.2.2.1;rfl;simp only[ai,ae,cT,bne];rw[show(!dp (h.2.2.2.1.length:Int) 1 2||(!((h.2.2.2.2.1.length:Int)==(h.2.2.2.1.length:Int))||(!((h.2.2.2.2.2.1.length:Int)==(h.2.2.2.1.length:Int))|| !((h.2.2.2.2.2.2.1.length:Int)==(h.2.2.2.1.length:Int)))))= !(zH h) by unfold zH;simp only[Bool.not_and]];cases hl:zH h;rfl;have hL:=pq hl;simp only[ai,ae,bj];rw[YG (h:=h) (hit:=some false) (fin:=some ((kE h).all (λx=>dp x 0 1000000000000)&&jb h.2.2.2.2.2.2.2.2.1 (h.2.2.2.1.length:Int))) hl ?hs ?hf]
 case hs=>
  intro i hi nx
  simp only[Au]
  rw[gN,aN hi,aN (hL.2.1▸hi),aN (hL.2.2.1▸hi),aj (n:=(i:Int)+1) (by omega) (by omega)]
  simp only[af,ab,aaa,GD,Aj _ (z.p1 _ (aE _)),cg,cT,Bool.not_and]
  rfl
 case hf=>
  intro nx
  simp only[Au]
  rw[fF]
  simp only[ae]
  refine(Sm (fin:=some (jb h.2.2.2.2.2.2.2.2.1 (h.2.2.2.1.length:Int))) (hit:=some false) h ?_ ?_).trans ?_
  ·intro i hi nx
   simp only[ym]
   have uu:i<5:=hi
   change (bif decide ((i:Int)<5) then aa (idx (kE h) (i:Int)) _ else _)=_
   rw[gN,aN hi,aj (n:=(i:Int)+1) (by omega) (by omega),ab,cq]
   rfl
  ·intro nx
   simp only[ym]
   rw[aq (by simp[kE])];rfl
  ·cases (kE h).all (λx=>dp x 0 1000000000000)<;>rfl
 cases YF h<;>cases jb h.2.2.2.2.2.2.2.2.1 (h.2.2.2.1.length:Int)<;>cases (kE h).all (λx=>dp x 0 1000000000000)<;>rfl
def aov (v:Int)(b:Bytes):Bytes:=((gP v++gP (b.length:Int))++b)++gP (XE ((gP v++gP (b.length:Int))++b))
def qu (v:Int)(b:Bytes):Bytes×Bool:=bif dp v 0 1000000&&decide (b.length<=84) then(aov v b,true) else([],false)
theorem anl (v:Int)(b:Bytes)(h:b.length<=10^9):BS v b=some (qu v b):=by have l1:=dB v;have l2:=dB (b.length:Int);unfold BS qu;rw[aj (by omega) (by omega)];simp only[cj,ab];cases dp v 0 1000000 with|false=>rfl|true=>by_cases hb:b.length<=84;have l3:=dB (XE ((gP v++gP (b.length:Int))++b));rw[aq (show¬((b.length:Int)+12>96) by omega),ax hb];simp only[ai,ae,ab,cA,af,lE];rw[aQ (by omega),aQ (by simp only[ay];omega),ahV _ (by simp only[ay];omega)];simp only[ab,lE];rw[aQ (by simp only[ay];omega)];rfl;rw[ax (show((b.length:Int)+12>96) by omega),aq hb];rfl
theorem ame (v:Int)(b:Bytes)(h:b.length<=10^9):Aw v b=some (qu v b):=by have l1:=dB v;have l2:=dB (b.length:Int);unfold Aw qu;rw[aj (by omega) (by omega)];simp only[cq,ab];cases dp v 0 1000000 with|false=>rfl|true=>by_cases hb:b.length<=84;have l3:=dB (XE ((gP v++gP (b.length:Int))++b));rw[aq (show¬(12+(b.length:Int)>96) by omega),ax hb];simp only[ai,ae,ab,cA,af,yX];rw[aQ (by omega),aQ (by simp only[ay];omega),ahs _ (by simp only[ay];omega)];simp only[ab,yX];rw[aQ (by simp only[ay];omega)];rfl;rw[ax (show(12+(b.length:Int)>96) by omega),aq hb];rfl
def anP (s:Bytes)(n:Nat):Int:=bif (qu (dX s 0) ((s.take (8+n)).drop 8)).2&&((qu (dX s 0) ((s.take (8+n)).drop 8)).1==s.take (12+n)) then dX s 0 else-1
def jI (s:Bytes):Int:=if 0<=dX s 4/\dX s 4<=(s.length:Int)-12 then anP s (dX s 4).toNat else-1
theorem abU (s:Bytes)(a:Int): -1<=dX s a/\dX s a<=4294967295:=by grind[dX,fu]
theorem akE {n:Nat}(h:¬n<=84)(hs:n+12<=s.length):anP s n= -1:=by grind[qu,anP]
theorem T0 (s:Bytes)(h:s.length<=10^9):jr s=some (jI s):=by
 unfold jr jI;have hg:=abU s 4;simp only[CK s _ h,cj,ab];rw[aj (n:=dX s 4+12) (by omega) (by omega),aj (n:=8+dX s 4) (by omega) (by omega)];generalize dX s 4=n at hg;by_cases hc:0<=n/\n<=(s.length:Int)-12;rw[aM hc];obtain⟨m,rfl⟩:=aD hc.1;by_cases h84:m<=84;have e1:dp (m:Int) 0 84=true:=bq.2 (by omega);have e2:sub s 8 (8+(m:Int))=some ((s.take (8+m)).drop 8):=by unfold sub;rw[zip];rfl
 have e3:sub s 0 ((m:Int)+12)=some (s.take (12+m)):=by unfold sub;rw[zip,show((m:Int)+12).toNat=12+m by omega];rfl
 rw[e1,aq (show¬((m:Int)+12>(s.length:Int)) by omega),e2,e3];simp only[ai,ae,ab,aw];rw[anl _ _ (by simp only[bl,bm];omega)];unfold anP;simp only[ab];cases (qu (dX s 0) ((s.take (8+m)).drop 8)).2<;>cases ((qu (dX s 0) ((s.take (8+m)).drop 8)).1==s.take (12+m))<;>rfl;have e1:dp (m:Int) 0 84=false:=by rw[Bool.eq_false_iff,ne_eq,bq];omega
 rw[e1,aw,akE h84 (by omega)];rfl;rw[aK hc];by_cases hb:dp n 0 84=true;have:=bq.1 hb;rw[hb,ax (show n+12>(s.length:Int) by omega)];rfl;have ib:dp n 0 84=false:=by simpa using hb
 rw[ib];rfl
theorem P9 (s:Bytes)(h:s.length<=10^9:=by omega):jl s=some (jI s):=by
 unfold jl jI;have hg:=abU s 4;simp only[Cx s _ h,ab];rw[aj (n:=12+dX s 4) (by omega) (by omega),aj (n:=8+dX s 4) (by omega) (by omega),aj (n:=(s.length:Int)-12) (by omega) (by omega)];generalize dX s 4=n at hg;by_cases hc:0<=n/\n<=(s.length:Int)-12;rw[aM hc];obtain⟨m,rfl⟩:=aD hc.1;have e2:sub s 8 (8+(m:Int))=some ((s.take (8+m)).drop 8):=by unfold sub;rw[zip];rfl
 have e3:sub s 0 (12+(m:Int))=some (s.take (12+m)):=by unfold sub;rw[zip,show(12+(m:Int)).toNat=12+m by omega];rfl
 rw[aq (show¬((m:Int)<0) by omega),aq (show¬((m:Int)>(s.length:Int)-12) by omega),e2,e3];simp only[ae,ab,aw];rw[ame _ _ (by simp only[bl,bm];omega)];unfold anP;simp only[ab];cases (qu (dX s 0) ((s.take (8+m)).drop 8)).2<;>cases ((qu (dX s 0) ((s.take (8+m)).drop 8)).1==s.take (12+m))<;>rfl;rw[aK hc];by_cases h0:n<0;rw[ax h0];rfl;rw[aq h0,ax (show n>(s.length:Int)-12 by omega)];rfl
def iQ (f:bp):Bool:=((f.length:Int)==2)&&((((f.getD 0 []).length:Int)==96)&&(((f.getD 1 []).length:Int)==96))
theorem zu {f:bp}(h:iQ f=true):f=[f.getD 0 [],f.getD 1 []]/\(f.getD 0 []).length=96/\(f.getD 1 []).length=96:=by simp only[iQ,ah,bn]at h;match f,h with|[a,b],h=>grind
theorem Nl (f:bp):wH f=some (iQ f):=by unfold wH iQ;match f with|[]=>rfl|[a]=>rfl|[a,b]=>simp_all[idx]|a::b::c::r=>rfl
theorem Rr (f:bp):Ap f=some (iQ f):=Nl f
def pN (f:bp):Int:=bif iQ f then(if jI (f.getD 0 [])<0/\jI (f.getD 1 [])<0 then-1 else if jI (f.getD 1 [])>jI (f.getD 0 []) then 1 else 0) else-1
theorem V2 (f:bp):sY f=some (pN f):=by unfold sY pN;rw[Nl,ab];cases hf:iQ f with|false=>rfl|true=>obtain⟨e,l0,l1⟩:=zu hf;generalize f.getD 0 []=a at*;generalize f.getD 1 []=b at*;subst e;have i0:idx [a,b] 0=some a:=rfl;have i1:idx [a,b] 1=some b:=rfl;grind[ab,T0]
theorem Vd (f:bp):sN f=some (pN f):=by
 unfold sN pN;rw[Rr,ab];cases hf:iQ f with
 |false=>rfl
 |true=>
  obtain⟨e,l0,l1⟩:=zu hf;generalize f.getD 0 []=a at*;generalize f.getD 1 []=b at*;subst e;have i0:idx [a,b] 0=some a:=rfl;have i1:idx [a,b] 1=some b:=rfl;simp only[ai,ae,af,i0,i1,ab,P9 a,P9 b];by_cases r:jI b>jI a;have r':¬jI a>=jI b:=by omega
  by_cases p:jI a<0<;>by_cases q:jI b<0<;>simp[p,q,r,r'];have r':jI a>=jI b:=by omega
  by_cases p:jI a<0<;>by_cases q:jI b<0<;>simp[p,q,r,r']
def Gk (c:kf):Bool:=dp c.1 0 1125899906842624&&(dp c.2.1 0 1048575&&(dp c.2.2.1 0 67108864&&dp c.2.2.2 0 1099511627776))
theorem R4 (c:kf):wE c=some (Gk c):=by grind[wE,cj,ab,Gk]
theorem X7 (c:kf):Ao c=some (Gk c):=R4 c
def Po (c:cJ)(i:Nat):Bool:=(c.1[i]?.all fw)&&eqQ (c.1[i]?.map (·.2.2.2.2.2.2.2.1)) (c.2.2.1[i]?.map (·.1))
def N2 (c:cJ):Bool:=((c.1.length:Int)==(c.2.2.1.length:Int))&&((c.2.1.length:Int)==(c.2.2.1.length:Int))
def ix (c:cJ):Bool:=(gO c.2.2.1).2&&(N2 c&&(jV c.2.1 (gO c.2.2.1).1&&((!decide (pN c.2.2.2.1<0)&&Gk c.2.2.2.2.1)&&((range c.1.length).all (Po c)&&(range c.1.length).all (Mn c.2.1)))))
structure Ua (c:cJ):Prop where
 h0:c.1.length<=10^9
 f0:c.2.1.length<=10^9
 m:∀m∈c.2.2.1,m.1.2.2.length<=10^9
 h1:∀h∈c.1,Lx h
theorem F7 {c:cJ}(h:N2 c=true):c.1.length=c.2.2.1.length/\c.2.1.length=c.2.2.1.length:=by grind[N2]
theorem Jt {c:cJ}(i:Nat)(hi:i<c.1.length)(hj:i<c.2.2.1.length):Po c i=(fw c.1[i]&&eqQ c.1[i].2.2.2.2.2.2.2.1 c.2.2.1[i].1):=by grind[Po,Pt]
theorem Mv (c:cJ)(z:Ua c):rf c=some (ix c):=by
 have hp:=Nf c.2.2.1;unfold rf ix;simp only[H8 _ z.m,Oe _ _ z.f0 hp.1 hp.2,V2,R4,ab,cg,cT,bne];rw[show((!((c.1.length:Int)==(c.2.2.1.length:Int)))||((!((c.2.1.length:Int)==(c.2.2.1.length:Int)))||((!jV c.2.1 (gO c.2.2.1).1)||(decide (pN c.2.2.2.1<0)|| !Gk c.2.2.2.2.1))))= !(N2 c&&(jV c.2.1 (gO c.2.2.1).1&&(!decide (pN c.2.2.2.1<0)&&Gk c.2.2.2.2.1))) by grind[N2]];cases (gO c.2.2.1).2;rfl;cases hl:N2 c;rfl;cases jV c.2.1 (gO c.2.2.1).1;rfl;cases (!decide (pN c.2.2.2.1<0)&&Gk c.2.2.2.2.1);rfl;have hL:=F7 hl;have h0:=z.h0;simp only[ai,cB,gu,ae,bj];rw[gR (hit:=some false) (fin:=some true) (λi=>Po c i&&Mn c.2.1 i) c.2.2.1.length (by omega) (λi nx hi=>?hs) (λnx=>?hf)]
 case hs=>
  have q1:i<c.1.length:=by omega
  have q2:i<c.2.1.length:=by omega
  have hm:=aE q1
  rw[Jt i q1 hi]
  simp only[BM]
  rw[gN,aN q1,aN hi,aN q2,aj (n:=(i:Int)+1) (by omega) (by omega)]
  simp only[af,ab,vp _ (z.h1 _ hm),aaK _ _ (z.h1 _ hm).f1,cg,cT,bne,Mn,dv q2]
  grind
 case hf=>
  grind[BM]
 grind
theorem L5 (c:cJ)(z:Ua c):qY c=some (ix c):=by
 have hp:=Nf c.2.2.1;unfold qY ix;simp only[HH _ z.m,NY _ _ z.f0 hp.1 hp.2,afr _ z.f0,Vd,X7,ab,cg,cT,cF,bne];rw[show((!((c.1.length:Int)==(c.2.2.1.length:Int)))|| !((c.2.1.length:Int)==(c.2.2.1.length:Int)))= !(N2 c) by grind[N2]];cases (gO c.2.2.1).2;rfl;cases hl:N2 c;rfl;have hL:=F7 hl;have h0:=z.h0;simp only[ai,cB,ae,bj];have hd:decide (pN c.2.2.2.1>=0)= !decide (pN c.2.2.2.1<0):=by grind
 rw[hd,gR (hit:=some false) (fin:=some (jV c.2.1 (gO c.2.2.1).1&&((range c.2.1.length).all (Mn c.2.1)&&(!decide (pN c.2.2.2.1<0)&&Gk c.2.2.2.2.1)))) (Po c) c.1.length (by omega) (λi nx hi=>?hs) (λnx=>?hf)]
 case hs=>
  have q1:i<c.2.2.1.length:=by omega
  have hm:=aE hi
  rw[Jt i hi q1]
  simp only[Am]
  rw[gN,aN hi,aN q1,aj (n:=(i:Int)+1) (by omega) (by omega)]
  simp only[af,ab,Ai _ (z.h1 _ hm),PX _ _ (z.h1 _ hm).f1,cg,cT]
  grind
 all_goals grind[Am]
def Ul (s:Bytes)(i:Nat):Nat:=bZ s (i/8)/2^(7-i%8)%2
theorem Pj (s:Bytes)(i:Nat):Ul s i<2:=Nat.mod_lt _ (by omega)
theorem abe (b k:Nat)(hb:b<256)(hk:k<=7):ak (toNat (gr (ak (fdiv (b:Int) ((2^k:Nat):Int)))&&&gr 1))=((b/2^k%2:Nat):Int):=by have e:fdiv (b:Int) ((2^k:Nat):Int)=((b/2^k:Nat):Int):=(Int.ofNat_fdiv b (2^k)).symm;have h1:b/2^k<=b:=Nat.div_le_self _ _;rw[e,gq (n:=b/2^k) (by omega)];have:=apm (b/2^k) 1;grind[gq]
theorem ahq (s:Bytes)(i:Nat)(hi:i/8<s.length:=by omega)(h:s.length<=10^9:=by omega):D4 s (i:Int)=some ((Ul s i:Nat):Int):=by
 have e1:Int.tdiv (i:Int) 8=((i/8:Nat):Int):=(Int.ofNat_tdiv i 8).symm;have e2:tmod (i:Int) 8=((i%8:Nat):Int):=(Int.ofNat_tmod i 8).symm;unfold D4;rw[nt,e1,aj (n:=((i/8:Nat):Int)) (by omega) (by omega),aN hi,ab,nt,e2,aj (n:=7-((i%8:Nat):Int)) (by omega) (by omega),nt];have e3:(2:Int)^(min (Int.toNat (7-((i%8:Nat):Int))) (IntKind.bits .u8))=((2^(7-i%8):Nat):Int):=by grind[Int.toNat,IntKind.bits]
 grind[abe,lV,Ul,bZ]
theorem ahT (s:Bytes)(i:Nat)(hi:i/8<s.length:=by omega)(h:s.length<=10^9:=by omega):Ep s (i:Int)=some ((Ul s i:Nat):Int):=by
 have e1:Int.tdiv (i:Int) 8=((i/8:Nat):Int):=(Int.ofNat_tdiv i 8).symm;have e2:tmod (i:Int) 8=((i%8:Nat):Int):=(Int.ofNat_tmod i 8).symm;have hb:=lV s[i/8];unfold Ep;rw[nt,e1,aj (n:=((i/8:Nat):Int)) (by omega) (by omega),aN hi,ab,nt,e2,aj (n:=7-((i%8:Nat):Int)) (by omega) (by omega),nt,gq (n:=s[i/8].toNat) (by omega)];have e3:(2:Int)^(min (Int.toNat (7-((i%8:Nat):Int))) (IntKind.bits .i64))=((2^(7-i%8):Nat):Int):=by grind[Int.toNat,IntKind.bits]
 have e4:fdiv ((s[i/8].toNat:Nat):Int) ((2^(7-i%8):Nat):Int)=((s[i/8].toNat/2^(7-i%8):Nat):Int):=(Int.ofNat_fdiv _ _).symm;have h1:s[i/8].toNat/2^(7-i%8)<=s[i/8].toNat:=Nat.div_le_self _ _;have key:=abe s[i/8].toNat (7-i%8) hb (by omega);rw[e4,gq (n:=s[i/8].toNat/2^(7-i%8)) (by omega)]at key;simp_all[Ul,bZ]
def win (s:Bytes)(a:Nat):Nat->Nat
 |0=>0
 |j+1=>2*win s a j+Ul s (a+j)
theorem anQ (s:Bytes)(a:Nat):∀j,win s a j<2^j
 |0=>by simp[win]
 |j+1=>by have:=anQ s a j;grind[Pj,win]
theorem Wy (s:Bytes)(a j:Nat)(hj:j<=32):win s a j<4294967296:=iD (anQ s a j) (Nat.pow_le_pow_right (n:=2) (by omega) hj)
def aen (s:Bytes)(a:Int):Int:=bif ((s.length:Int) !=16)|| !dp a 0 96 then-1 else((win s a.toNat 32:Nat):Int)
theorem aoD (s:Bytes)(a:Int):Av s a=some (aen s a):=by
 unfold Av aen;rw[cq];cases hs:(s.length:Int) !=16;case true=>rfl
 cases ha:dp a 0 96;rfl;have h1:=bq.1 ha;have h2:s.length=16:=by simp at hs;omega
 obtain⟨a,rfl⟩:=aD h1.1;simp only[ae,ab,ai,bR,aw];refine bB (λi=>(((win s a i:Nat):Int),((a+i:Nat):Int))) 32 (by omega) (λi nx hi=>?_) (λnx=>?_);have hw:=Wy s a i (by omega);have hb:=Pj s (a+i);simp only[tF];rw[aj (n:=(a:Int)+32) (by omega) (by omega),gN,af,nt,ahq s (a+i),ab,aj (n:=((a+i:Nat):Int)+1) (by omega) (by omega)];have e1:ak (((win s a i:Nat):Int)*2^(vD 1))=((2^1*win s a i:Nat):Int):=by have:(2:Int)^(vD 1)=2:=rfl;rw[this,aj (by omega) (by omega)];omega
 rw[e1,OX _ _ _];rw[show(((a+i:Nat):Int)+1)=((a+(i+1):Nat):Int) by omega];rfl;simp only[tF];rw[aj (n:=(a:Int)+32) (by omega) (by omega),fF];rfl
theorem aoY (s:Bytes)(a:Int):BR s a=some (aen s a):=by
 unfold BR aen;rw[cj];cases hs:(s.length:Int) !=16;case true=>rfl
 cases ha:dp a 0 96;rfl;have h1:=bq.1 ha;have h2:s.length=16:=by simp at hs;omega
 obtain⟨a,rfl⟩:=aD h1.1;simp only[ae,ab,ai,bR,aw];refine bB (λi=>(((win s a i:Nat):Int),(i:Int))) 32 (by omega) (λi nx hi=>?_) (λnx=>?_);have hw:=Wy s a i (by omega);have hb:=Pj s (a+i);simp only[ud];rw[gN,af,aj (n:=(a:Int)+(i:Int)) (by omega) (by omega),show(a:Int)+(i:Int)=((a+i:Nat):Int) by omega,ahT s (a+i),ab,aj (n:=(i:Int)+1) (by omega) (by omega)];rw[aj (n:=2*((win s a i:Nat):Int)) (by omega) (by omega),aj (by omega) (by omega),win];congr 1;simp only[ud];rw[fF];rfl
def NO (s v:Bytes):Nat->Nat
 |0=>0
 |i+1=>if Ul v i=1 then NO s v i^^^win s i 32 else NO s v i
theorem U1 (s v:Bytes):∀i,NO s v i<4294967296
 |0=>by simp[NO]
 |i+1=>by have:=U1 s v i;grind[NO,Iz,Wy]
def HC (s v:Bytes):Int:=bif ((s.length:Int) !=16)||decide ((v.length:Int)>12) then-1 else((NO s v (8*v.length):Nat):Int)
theorem al8 (s v:Bytes):Aq s v=some (HC s v):=by
 unfold Aq HC;cases hs:(s.length:Int) !=16;case true=>rfl
 cases hv:decide ((v.length:Int)>12);case true=>rfl
 have h2:s.length=16:=by simp at hs;omega
 have h3:v.length<=12:=by simp at hv;omega
 simp only[ae,ab,bR];refine bB (λi=>(((NO s v i:Nat):Int),(i:Int))) (8*v.length) (by omega) (λi nx hi=>?_) (λnx=>?_);have hw:=Wy s i 32 (by omega);have hh:=U1 s v i;have hb:=Pj v i;have eW:aen s (i:Int)=((win s i 32:Nat):Int):=by unfold aen;rw[hs,bq.2 (show(0:Int)<=(i:Int)/\(i:Int)<=96 by omega)];rfl
 simp only[tB];rw[aj (n:=8*(v.length:Int)) (by omega) (by omega),gN,af,ahq v i,ab,aoD,ab,eW,aia _ _ (by omega) (by omega),aj (n:=(i:Int)+1) (by omega) (by omega),gq (Nat.lt_trans (Iz hh hw) (by omega)),NO];by_cases h1:Ul v i=1;rw[h1,aM rfl];rfl;rw[aK h1,show(((Ul v i:Nat):Int)==1)=false from by simp;omega];rfl;simp only[tB];rw[aj (n:=8*(v.length:Int)) (by omega) (by omega),fF];rfl
theorem anh (s v:Bytes):BN s v=some (HC s v):=by
 unfold BN HC;cases hs:(s.length:Int) !=16;case true=>rfl
 cases hv:decide ((v.length:Int)>12);case true=>rfl
 have h2:s.length=16:=by simp at hs;omega
 have h3:v.length<=12:=by simp at hv;omega
 simp only[ae,ab,bR];refine bB (λi=>(((NO s v i:Nat):Int),(i:Int))) (8*v.length) (by omega) (λi nx hi=>?_) (λnx=>?_);have hw:=Wy s i 32 (by omega);have hh:=U1 s v i;have hb:=Pj v i;have eW:aen s (i:Int)=((win s i 32:Nat):Int):=by unfold aen;rw[hs,bq.2 (show(0:Int)<=(i:Int)/\(i:Int)<=96 by omega)];rfl
 simp only[ua];rw[aj (n:=8*(v.length:Int)) (by omega) (by omega),gN,af,ahT v i,ab,aoY,ab,eW,aia _ _ (by omega) (by omega),aj (n:=(i:Int)+1) (by omega) (by omega),gq (Nat.lt_trans (Iz hh hw) (by omega)),NO];by_cases h1:Ul v i=1;rw[h1,aM rfl];rfl;rw[aK h1,show(((Ul v i:Nat):Int)==1)=false from by simp;omega];rfl;simp only[ua];rw[aj (n:=8*(v.length:Int)) (by omega) (by omega),fF];rfl
def EF (f:KN):Bytes:=((gP f.2.1++gP f.2.2.1)++cv f.2.2.2.1)++cv f.2.2.2.2
theorem afo (f:KN):Ar f=some (EF f):=by have:=dB f.2.1;have:=dB f.2.2.1;have:=bO f.2.2.2.1;have:=bO f.2.2.2.2;simp only[Ar,yX,mC,ab];rw[aQ (by omega),aQ (by grind),aQ (by grind)];rfl
theorem agr (f:KN):BO f=some (EF f):=by have:=dB f.2.1;have:=dB f.2.2.1;have:=bO f.2.2.2.1;have:=bO f.2.2.2.2;simp only[BO,lE,iS,ab];rw[aQ (by omega),aQ (by grind),aQ (by grind)];rfl
theorem PY (s:Bytes)(f:KN):xy s f=some (HC s (EF f)):=by grind[xy,afo,al8,ab]
theorem QD (s:Bytes)(f:KN):ya s f=some (HC s (EF f)):=by grind[ya,agr,anh,ab]
def Ie (s:jJ)(f:KN):Int:=bif ((s.2.length:Int)==0)||decide (HC s.1 (EF f)<0) then-1 else tmod (HC s.1 (EF f)) (s.2.length:Int)
theorem aiW (s:jJ)(f:KN):Fl s f=some (Ie s f):=by grind[Fl,Ie,PY,ab]
theorem aj6 (s:jJ)(f:KN):FJ s f=some (Ie s f):=by grind[FJ,Ie,QD,ab]
theorem Re (s:jJ)(f:KN)(h:¬Ie s f<0):∃n:Nat,Ie s f=(n:Int)/\n<s.2.length:=by
 unfold Ie at h⊢;cases hc:((s.2.length:Int)==0)||decide (HC s.1 (EF f)<0)with
 |true=>grind
 |false=>
  rw[hc]at h;simp only[dw,cy,dD]at hc;simp only[ae]at h⊢;have h1:0<=HC s.1 (EF f):=by omega
  rw[ft h1]at h⊢;have:=gD (HC s.1 (EF f)) (show(0:Int)<s.2.length by omega);grind[aD]
def Nt (s:jJ)(q:Int)(f:KN):Int:=bif !FX s q||decide (Ie s f<0) then-1 else s.2.getD (Ie s f).toNat 0
theorem acz (s:jJ)(q:Int)(f:KN)(h:s.2.length<=10^9):vT s q f=some (Nt s q f):=by unfold vT Nt;grind[aiW,ab,Vk,Re,iE,aN]
theorem adP (s:jJ)(q:Int)(f:KN)(h:s.2.length<=10^9):wQ s q f=some (Nt s q f):=by unfold wQ Nt;grind[aj6,ab,O1,Re,iE,aN]
theorem Zg (t:ar Slot)(f:KN)(h:∀j,j<8->sK (gF t j) f=false):∀n k,walk t f n k= -1
 |0,_=>rfl
 |n+1,k=>by unfold walk;rw[h _ (Q0 f k),Zg t f h n (k+1)];split<;>rfl
theorem Sp (f:KN):∀(t:ar Slot)(m:Int),(∀s∈t,sK s f=false)->ED f t m= -1
 |[],_,_=>rfl
 |s::r,m,h=>by unfold ED;rw[h s (by simp)];exact Sp f r (m+1) (λx hx=>h x (by simp[hx]))
theorem ae6 (t:ar Slot)(f:KN)(h:Cc t=true):ED f t 0=walk t f 8 0:=by simp only[Cc,ah,bn,aO,bU]at h;obtain⟨h8,hs⟩:=h;by_cases hex:∃j,j<t.length/\sK (gF t j) f=true;obtain⟨j,hj,hu,e⟩:=LM f t 0 hex;have:=hs j (by omega);simp only[qA,ah,dy,aU,bn]at this;simp only[sK,ah,bn,bI]at hu;rcases this.2 with g|g;rw[hu.1]at g;simp at g;rw[hu.2]at g;rw[show((0:Int))=((0:Nat):Int) from rfl,e,g];omega;have hn:∀j,j<t.length->sK (gF t j) f=false:=λj hj=>Bool.eq_false_iff.2 λhu=>hex ⟨j,hj,hu⟩;rw[Zg t f (λj hj=>hn j (by omega)),Sp];intro s yk;obtain⟨j,hj,rfl⟩:=List.getElem_of_mem yk;have:=hn j hj;rwa[CJ hj]at this
def findF (t:ar Slot)(f:KN):Int:=bif Cc t then walk t f 8 0 else-1
theorem Z6 (t:ar Slot)(f:KN)(h:t.length<=10^9):C7 t f=some (findF t f):=by grind[C7,findF,Yi,ab,acy,ae6]
theorem aaL (t:ar Slot)(f:KN):DA t f=some (findF t f):=by grind[DA,findF,YW,ab,Cc,adG]
theorem ah8 (t:ar Slot)(f:KN):∀n k,walk t f n k= -1\/∃m:Nat,walk t f n k=(m:Int)/\m<8
 |0,_=> .inl rfl
 |n+1,k=>by unfold walk;split;exact .inl rfl;split;exact .inr ⟨_,rfl,Q0 f k⟩;exact ah8 t f n (k+1)
theorem UK (t:ar Slot)(f:KN)(h:findF t f>=0):∃m:Nat,findF t f=(m:Int)/\m<t.length:=by
 unfold findF at h⊢;cases ht:Cc t with
 |false=>grind
 |true=>
  rw[ht]at h;simp only[af]at h⊢;have h8:t.length=8:=by grind[Cc]
  rcases ah8 t f 8 0 with g|⟨m,g,hm⟩;all_goals grind
def zX (f:Filter)(p:aP):Bool:=ie f&&(((p.1==f.1)||((p.1==281474976710655)||f.2.1))&&((p.2.2.1== -1)||hasB f.2.2 p.2.2.1))
theorem acd (f:Filter)(p:aP)(h:f.2.2.length<=10^9):Fh f p=some (zX f p):=by grind[Fh,uI,HG,ab,zX]
theorem adx (f:Filter)(p:aP)(h:f.2.2.length<=10^9):FF f p=some (zX f p):=by grind[FF,za,Kt,ab,zX]
def preB (a b n:Int):Bool:=fdiv a (2^(min (Int.toNat (ak (32-n))) (IntKind.bits .i64)))==fdiv b (2^(min (Int.toNat (ak (32-n))) (IntKind.bits .i64)))
theorem YH {r:gC}(h:Jb r=true):0<=r.2.2.2.1/\r.2.2.2.1<=32:=by grind[Jb,oC,cj,ab,dp]
def ak1 (r:gC)(p:aP):Bool:=preB r.2.2.1 p.2.2.2.2.2.2.1 r.2.2.2.1&&(dp p.2.2.2.2.2.2.2.2.2.2.1 r.2.2.2.2.1 r.2.2.2.2.2.1&&((r.2.2.2.2.2.2.1== -2)||(r.2.2.2.2.2.2.1==p.2.2.1)))
def Mh (r:gC)(p:aP):Bool:=Jb r&&(dK p&&(((r.2.1==0)||(r.2.1==p.2.2.2.2.2.2.2.2.1))&&ak1 r p))
theorem aoA (a b n:Int)(h0:0<=n)(h1:n<=32):su a b n=some (preB a b n):=by grind[su,preB,aj]
theorem ai2 (r:gC)(p:aP):vR r p=some (Mh r p):=by unfold vR Mh;rw[amj,ab];grind[YH,ny,aoA,cq,ab,ak1]
theorem aka (r:gC)(p:aP):wN r p=some (Mh r p):=by
 unfold wN Mh;rw[V9,ab];cases hr:Jb r;rfl;have hp:=YH hr;have hw:¬ak (32-r.2.2.2.1)<0:=by grind[aj]
 simp only[qB,EW,aK hw,cj,ab,ak1];rw[show(fdiv r.2.2.1 (2^(min (Int.toNat (ak (32-r.2.2.2.1))) (IntKind.bits .i64)))==fdiv p.2.2.2.2.2.2.1 (2^(min (Int.toNat (ak (32-r.2.2.2.1))) (IntKind.bits .i64))))=preB r.2.2.1 p.2.2.2.2.2.2.1 r.2.2.2.1 from rfl];cases dK p<;>cases r.2.1==0<;>cases r.2.1==p.2.2.2.2.2.2.2.2.1<;>cases preB r.2.2.1 p.2.2.2.2.2.2.1 r.2.2.2.1<;>cases dp p.2.2.2.2.2.2.2.2.2.2.1 r.2.2.2.2.1 r.2.2.2.2.2.1<;>cases r.2.2.2.2.2.2.1== -2<;>rfl
def SU:gC:=(0,0,0,0,0,0,0,0,0)
def EY (l:ar gC)(p:aP):Nat->Int
 |0=> -1
 |i+1=>bif Mh (l.getD i SU) p&&(decide (EY l p i<0)||decide ((l.getD i SU).1<(l.getD (EY l p i).toNat SU).1)) then(i:Int) else EY l p i
theorem Ui (l:ar gC)(p:aP):∀i,EY l p i= -1\/∃n:Nat,EY l p i=(n:Int)/\n<i
 |0=> .inl rfl
 |i+1=>by rw[EY];cases Mh (l.getD i SU) p&&(decide (EY l p i<0)||decide ((l.getD i SU).1<(l.getD (EY l p i).toNat SU).1))with|true=>grind|false=>rcases Ui l p i with h|⟨n,h,hn⟩;all_goals grind
theorem Xw (l:ar gC)(p:aP)(i:Nat)(hi:i<l.length)(nx:Int×Int->au R): (aa (cond (Mh l[i] p) (cond (decide (EY l p i<0)) (some true) (aa (idx l (EY l p i)) λx4=>some (decide (l[i].1<x4.1)))) (some false)) λq5=>cond q5 (nx ((i:Int),((i+1:Nat):Int))) (nx (EY l p i,((i+1:Nat):Int))))=nx (EY l p (i+1),((i+1:Nat):Int)):=by
 rw[EY,dv hi];cases Mh l[i] p;rfl;rcases Ui l p i with h|⟨n,h,hn⟩;rw[h];rfl;have hl:n<l.length:=by omega
 rw[h,aq (show¬(n:Int)<0 by omega),aN hl];simp only[af,ae,ab,aw,dv hl,bj,cB];cases decide (l[i].1<l[n].1)<;>rfl
def LJ (l:ar gC)(p:aP):Int:=bif Hf l then EY l p l.length else-1
theorem UL (l:ar gC)(p:aP)(h:LJ l p>=0):∃n:Nat,LJ l p=(n:Int)/\n<l.length:=by unfold LJ at h⊢;cases hr:Hf l with|false=>grind|true=>rw[hr]at h;simp only[af]at h⊢;rcases Ui l p l.length with g|g;omega;exact g
theorem aiZ (l:ar gC)(p:aP)(h:l.length<=10^9):C8 l p=some (LJ l p):=by unfold C8 LJ;rw[Ye l h,ab];cases Hf l;rfl;simp only[ai,ae,af];refine bB (λi=>(EY l p i,(i:Int))) l.length (by omega) (λi nx hi=>?_) (λnx=>?_);simp only[vL];rw[gN,aN hi,aj (n:=(i:Int)+1) (by omega) (by omega)];simp only[af,ab,ai2];exact Xw l p i hi nx;simp only[vL];rw[fF];rfl
theorem aj8 (l:ar gC)(p:aP)(h:l.length<=10^9):DC l p=some (LJ l p):=by
 have Cg:=dc;unfold DC LJ;cases hr:Hf l with
 |false=>
  obtain⟨f,hf⟩:∃f,fuel=f+1:=⟨fuel-1,by omega⟩
  rw[hf,aH];simp only[qH,Np l h,hr,ab];cases decide ((0:Int)<(l.length:Int))<;>rfl
 |true=>simp only[af];refine bB (λi=>(EY l p i,(i:Int))) l.length (by omega) (λi nx hi=>?_) (λnx=>?_);simp only[qH,Np l h,hr];rw[gN,aN hi,aj (n:=(i:Int)+1) (by omega) (by omega)];simp only[af,ab,aka];exact Xw l p i hi nx;simp only[qH];rw[fF];rfl
def oI (p:aP):KN:=(p.2.2.2.2.2.2.2.2.1,p.2.2.2.2.2.2.1,p.2.2.2.2.2.2.2.1,p.2.2.2.2.2.2.2.2.2.1,p.2.2.2.2.2.2.2.2.2.2.1)
theorem Vf (p:aP):zA p=some (oI p):=rfl
theorem V5 (p:aP):zO p=some (oI p):=rfl
def arJ:Slot:=(0,(0,0,0,0,0),0)
def ze (s:fH)(q:Int)(p:aP):Int:=
 bif !jb s q|| !dK p then-1 else
 bif decide (LJ s.1 p>=0) then(bif (s.1.getD (LJ s.1 p).toNat SU).2.2.2.2.2.2.2.1==1 then-1 else(s.1.getD (LJ s.1 p).toNat SU).2.2.2.2.2.2.2.2) else
 bif decide (findF s.2.1 (oI p)>=0) then(s.2.1.getD (findF s.2.1 (oI p)).toNat arJ).2.2 else Nt s.2.2 q (oI p)
theorem ajb (s:fH)(q:Int)(p:aP)(h1:s.1.length<=10^9)(h2:s.2.1.length<=10^9)(h3:s.2.2.2.length<=10^9):vU s q p=some (ze s q p):=by unfold vU ze;rw[P5 s q h1 h2 h3,ab,ny,ab];cases jb s q;rfl;cases dK p;rfl;simp only[ai,ae,ab,bR,aiZ s.1 p h1,Vf,Z6 s.2.1 _ h2,acz s.2.2 q _ h3];grind[UL,aN,ab,UK]
theorem aki (s:fH)(q:Int)(p:aP)(h1:s.1.length<=10^9)(h2:s.2.1.length<=10^9)(h3:s.2.2.2.length<=10^9):wR s q p=some (ze s q p):=by unfold wR ze;rw[QJ s q h1 h2 h3,ab,qB,ab];cases jb s q;rfl;cases dK p;rfl;simp only[ai,ae,ab,bR,aj8 s.1 p h1,V5,aaL s.2.1 _,adP s.2.2 q _ h3];grind[UL,aN,ab,UK]
def aie (a b:Int):Int:=(rH a b).getD 0
theorem TZ (a b:Int):rH a b=some (aie a b):=by grind[aie,rH,cj,ab]
theorem ace (a b:Int):Fi a b=some (aie a b):=TZ a b
theorem anX {b:Int}(h:0<=a/\a<=65535)(k:0<=b/\b<=65535):0<=aie a b/\aie a b<=65535:=by have e:=TZ a b;simp only[rH,cj,ab,bq.2 h,bq.2 k,ai,ae]at e;rw[aj (n:=a+b) (by omega) (by omega)]at e;by_cases hc:a+b>65535;rw[ax hc,af,aj (by omega) (by omega)]at e;rw[<-cX e];omega;rw[aq hc,ae]at e;rw[<-cX e];omega
def sw (s:Bytes):Nat->Int
 |0=>0
 |j+1=>aie (sw s j) ((bZ s (2*j)*256+bZ s (2*j+1):Nat):Int)
theorem anw (s:Bytes):∀j,0<=sw s j/\sw s j<=65535
 |0=>by simp[sw]
 |j+1=>by have b0:=fu s (2*j);have b1:=fu s (2*j+1);exact anX (anw s j) (by omega)
theorem Ox {i:Nat}(h:s.length<=i:=by omega):bZ s i=0:=by simp_all[bZ]
theorem aoX (s:Bytes)(h:s.length<=10^9):DN s=some (sw s ((s.length+1)/2)):=by
 unfold DN;refine bB (λj=>(sw s j,((2*j:Nat):Int))) ((s.length+1)/2) (by omega) (λj nx hj=>?_) (λnx=>?_);have b0:=fu s (2*j);have b1:=fu s (2*j+1);obtain⟨x,hx,ex⟩:=lJ (s:=s) (i:=2*j);simp only[wT];rw[gN,af,hx,ab,nt,aj (n:=((2*j:Nat):Int)+1) (by omega) (by omega),aj (n:=((2*j:Nat):Int)+2) (by omega) (by omega),ex,gq (by omega)];have e8:vD 8=8:=rfl;have en:((2*j:Nat):Int)+2=((2*(j+1):Nat):Int):=by omega
 rw[e8,aj (n:=((bZ s (2*j):Nat):Int)*2^8) (by omega) (by omega)];by_cases hc:2*j+1<s.length;obtain⟨y,hy,ey⟩:=lJ (s:=s) (i:=2*j+1) hc;rw[gN,af,show((2*j:Nat):Int)+1=((2*j+1:Nat):Int) by omega,hy,ab,ey,gq (n:=bZ s (2*j+1)) (by omega),aj (by omega) (by omega),TZ,ab,en,show((bZ s (2*j):Nat):Int)*2^8+((bZ s (2*j+1):Nat):Int)=((bZ s (2*j)*256+bZ s (2*j+1):Nat):Int) by omega];rfl;have hz:=Ox (s:=s) (i:=2*j+1);rw[fF,ae,TZ,ab,en,show((bZ s (2*j):Nat):Int)*2^8=((bZ s (2*j)*256+bZ s (2*j+1):Nat):Int) by rw[hz];omega];rfl;simp only[wT];rw[fF];rfl
theorem aoB (s:Bytes)(h:s.length<=10^9):Di s=some (sw s ((s.length+1)/2)):=by
 unfold Di;refine bB (λj=>(sw s j,((2*j:Nat):Int))) ((s.length+1)/2) (by omega) (λj nx hj=>?_) (λnx=>?_);have b0:=fu s (2*j);have b1:=fu s (2*j+1);obtain⟨x,hx,ex⟩:=lJ (s:=s) (i:=2*j);simp only[vW];rw[gN,af,hx,ab,nt,aj (n:=((2*j:Nat):Int)+1) (by omega) (by omega),aj (n:=((2*j:Nat):Int)+2) (by omega) (by omega),ex,gq (by omega)];have e8:vD 8=8:=rfl;have en:((2*j:Nat):Int)+2=((2*(j+1):Nat):Int):=by omega
 rw[e8,show((bZ s (2*j):Nat):Int)*2^8=((2^8*bZ s (2*j):Nat):Int) by omega,gq (n:=2^8*bZ s (2*j)) (by omega)];by_cases hc:2*j+1<s.length;obtain⟨y,hy,ey⟩:=lJ (s:=s) (i:=2*j+1) hc;rw[gN,af,show((2*j:Nat):Int)+1=((2*j+1:Nat):Int) by omega,hy,ab,ey,gq (n:=bZ s (2*j+1)) (by omega),OX (bZ s (2*j)) 8 (bZ s (2*j+1)),ace,ab,en,show 2^8*bZ s (2*j)+bZ s (2*j+1)=bZ s (2*j)*256+bZ s (2*j+1) by omega];rfl;have hz:=Ox (s:=s) (i:=2*j+1);rw[fF,ae,ace,ab,en,show((2^8*bZ s (2*j):Nat):Int)=((bZ s (2*j)*256+bZ s (2*j+1):Nat):Int) by rw[hz];omega];rfl;simp only[vW];rw[fF];rfl
def Zu (s:Bytes):Int:=65535-sw s ((s.length+1)/2)
theorem Qz (s:Bytes)(h:s.length<=10^9):mj s=some (Zu s):=by have:=anw s ((s.length+1)/2);simp only[mj,aoX s h,ab];rw[aj (by omega) (by omega)];rfl
theorem TO (s:Bytes)(h:s.length<=10^9):kj s=some (Zu s):=by have:=anw s ((s.length+1)/2);simp only[kj,aoB s h,ab];rw[aj (by omega) (by omega)];rfl
def xn (s:Bytes)(a:Int)(p:Bytes):Bytes:=bif fO s a (p.length:Int) then(s.take a.toNat++p)++s.drop (a.toNat+p.length) else s
theorem Ek (s:Bytes)(a:Int)(p:Bytes):(xn s a p).length=s.length:=by grind[xn,fO]
theorem adg (s:Bytes)(a:Int)(p:Bytes)(h:s.length<=10^9)(hw:fO s a (p.length:Int)=true): (aa (sub s 0 a) λx2=>room (List.length x2+List.length p) (aa (sub s (ak (a+((List.length p:Int)))) ((List.length s:Int))) λx3=>room (List.length (x2++p)+List.length x3) (some ((x2++p)++x3))))=some (xn s a p):=by
 have hw':=hw;simp only[fO,bI]at hw';obtain⟨n,rfl⟩:=aD hw'.1;have e1:sub s 0 (n:Int)=some (s.take n):=by grind[sub]
 have e2:sub s (((n+p.length:Nat):Int)) (s.length:Int)=some (s.drop (n+p.length)):=by grind[sub,bN]
 rw[e1,aj (by omega) (by omega),show(n:Int)+(p.length:Int)=((n+p.length:Nat):Int) by omega,e2,ab,aQ (by grind),ab,aQ (by grind)];grind[xn]
theorem FE (s:Bytes)(a:Int)(p:Bytes)(h:s.length<=10^9):eD s a p=some (xn s a p):=by grind[eD,My,ab,xn,adg]
theorem JN (s:Bytes)(a:Int)(p:Bytes)(h:s.length<=10^9:=by omega)(hp:p.length<=10^9:=by omega):ga s a p=some (xn s a p):=by
 unfold ga;rw[aj (n:=(s.length:Int)-(p.length:Int)) (by omega) (by omega)];cases hw:fO s a (p.length:Int)with
 |true=>have hw':=hw;simp only[fO,bI]at hw';rw[aq (show¬a<0 by omega),aq (show¬a>(s.length:Int)-(p.length:Int) by omega)];exact adg s a p h hw
 |false=>
  have hp:xn s a p=s:=by grind[xn]
  rw[hp];simp only[fO,dD]at hw;by_cases h0:a<0;all_goals simp(disch:=omega)[ax]
def bs2 (x y:Int):Bytes:=aS [x,y]
theorem Zs (x y:Int):(bs2 x y).length=2:=rfl
def FA (a b k n:Int):Bool:=dp a 0 4294967295&&(dp b 0 4294967295&&(dp k 0 255&&dp n 0 65535))
def CH (a b k n:Int):Bytes:=((gP a++gP b)++bs2 0 (gQ k))++cv n
theorem Ng (a b k n:Int):(CH a b k n).length<=12:=by grind[dB,bO,CH,Zs]
theorem Kv (a b k n:Int):lj a b k n=some (bif FA a b k n then(CH a b k n,true) else([],false)):=by have:=dB a;have:=dB b;have:=bO n;unfold lj FA;simp only[cj,ab,lE,iS];cases dp a 0 4294967295;rfl;cases dp b 0 4294967295;rfl;cases dp k 0 255;rfl;cases dp n 0 65535;rfl;simp only[ai,ae,cA,af,ab];have e:(aS [0,gQ k]).length=2:=rfl;rw[aQ (by omega),aQ (by grind),aQ (by grind)];rfl
theorem Vj (a b k n:Int):tH a b k n=some (bif FA a b k n then(CH a b k n,true) else([],false)):=Kv a b k n
def bare (g:ed):Bytes:=bif g.1==6 then
    (((((cv g.2.1++cv g.2.2.1)++gP g.2.2.2.1)++gP g.2.2.2.2.1)++bs2 80 (gQ g.2.2.2.2.2.1))++cv g.2.2.2.2.2.2.1)++gP 0++g.2.2.2.2.2.2.2
 else(((cv g.2.1++cv g.2.2.1)++cv (8+(g.2.2.2.2.2.2.2.length:Int)))++cv 0)++g.2.2.2.2.2.2.2
theorem Zq (g:ed):(bare g).length<=20+g.2.2.2.2.2.2.2.length:=by have:=bO g.2.1;have:=bO g.2.2.1;have:=dB g.2.2.2.1;have:=dB g.2.2.2.2.1;have:=bO g.2.2.2.2.2.2.1;have:=dB 0;have:=bO 0;have:=bO (8+(g.2.2.2.2.2.2.2.length:Int));unfold bare;cases g.1==6<;>simp only[af,ae,ay,Zs]<;>omega
theorem akF:cv 0++cv 0=gP 0:=by rfl
theorem al5 (g:ed)(h:g.2.2.2.2.2.2.2.length<=1000000):wg g=some (bare g):=by have:=bO g.2.1;have:=bO g.2.2.1;have:=dB g.2.2.2.1;have:=dB g.2.2.2.2.1;have:=bO g.2.2.2.2.2.2.1;have:=bO 0;have:=bO (8+(g.2.2.2.2.2.2.2.length:Int));have e:∀x,(aS [80,gQ x]).length=2:=λ_=>rfl;unfold wg bare;rw[aj (n:=8+(g.2.2.2.2.2.2.2.length:Int)) (by omega) (by omega)];simp only[mC,yX,ab];rw[aQ (by omega)];cases g.1==6 with|true=>simp only[af];rw[aQ (by simp only[ay,e];omega),aQ (by simp only[ay,e];omega),aQ (by simp only[ay,e];omega),aQ (by simp only[ay,e];omega),aQ (by simp only[ay,e];omega),aQ (by simp only[ay,e];omega),aQ (by simp only[ay,e];omega)];rw[<-akF];simp only[bs2,aW]|false=>simp only[ae];rw[aQ (by simp only[ay];omega),aQ (by simp only[ay];omega),aQ (by simp only[ay];omega)]
def ah0 (a b:Int)(g:ed):Int:=bif (Zu (CH a b g.1 ((bare g).length:Int)++bare g)==0)&&(g.1==17) then 65535 else Zu (CH a b g.1 ((bare g).length:Int)++bare g)
def ahO (a b:Int)(g:ed):Bytes:=xn (bare g) (bif g.1==6 then 16 else 6) (cv (ah0 a b g))
def VX (a b:Int)(g:ed):Bool:=Qs g&&FA a b g.1 ((bare g).length:Int)
def It (a b:Int)(g:ed):Bytes×Bool:=bif VX a b g then(ahO a b g,true) else([],false)
theorem Qt {g:ed}(h:Qs g=true):g.2.2.2.2.2.2.2.length<=320:=by grind[Qs]
theorem Mx (a b:Int)(g:ed):lg a b g=some (It a b g):=by
 unfold lg It VX;rw[ahX,ab];cases hg:Qs g;rfl;have hb:=Qt hg;have hl:=Zq g;have hp:=Ng a b g.1 ((bare g).length:Int);have:=bO g.2.1;have:=bO g.2.2.1;have:=dB g.2.2.2.1;have:=dB g.2.2.2.2.1;have:=bO g.2.2.2.2.2.2.1;have:=dB 0;have:=bO 0;have:=bO (8+(g.2.2.2.2.2.2.2.length:Int));have e:∀x,(aS [80,gQ x]).length=2:=λ_=>rfl;rw[aj (n:=8+(g.2.2.2.2.2.2.2.length:Int)) (by omega) (by omega)];simp only[iS,lE,ab,ai,ae,bj];rw[aQ (by omega)];cases h6:g.1==6 with
 |true=>
  have alC:bare g=(((((cv g.2.1++cv g.2.2.1)++gP g.2.2.2.1)++gP g.2.2.2.2.1)++aS [80,gQ g.2.2.2.2.2.1])++cv g.2.2.2.2.2.2.1)++gP 0++g.2.2.2.2.2.2.2:=by unfold bare;rw[h6];rfl
  simp only[af];rw[aQ (by grind),aQ (by grind),aQ (by grind),aQ (by grind),aQ (by grind),aQ (by grind),<-alC,Kv,ab];cases FA a b g.1 ((bare g).length:Int);rfl;simp only[af,ai,ae];rw[aQ (by omega),Qz _ (by grind)];simp only[ab,cg,FE _ _ _ (show(bare g).length<=10^9 by omega),ahO,ah0,h6,af,cF];cases (Zu (CH a b g.1 ((bare g).length:Int)++bare g)==0)&&(g.1==17)<;>rfl
 |false=>
  have alC:bare g=(((cv g.2.1++cv g.2.2.1)++cv (8+(g.2.2.2.2.2.2.2.length:Int)))++cv 0)++g.2.2.2.2.2.2.2:=by unfold bare;rw[h6];rfl
  simp only[ae];rw[aQ (by simp_all;omega),aQ (by simp_all;omega),aQ (by simp_all;omega),<-alC,Kv,ab];cases FA a b g.1 ((bare g).length:Int);rfl;simp only[af,ai,ae];rw[aQ (by omega),Qz _ (by simp_all;omega)];simp only[ab,cg,FE _ _ _ (show(bare g).length<=10^9 by omega),ahO,ah0,h6,ae,cF];cases (Zu (CH a b g.1 ((bare g).length:Int)++bare g)==0)&&(g.1==17)<;>rfl
theorem L8 (a b:Int)(g:ed):kY a b g=some (It a b g):=by
 unfold kY It VX;rw[ahv,ab];cases hg:Qs g;rfl;have hb:=Qt hg;have hl:=Zq g;have hp:=Ng a b g.1 ((bare g).length:Int);have PO:fM g.1=some (bif g.1==6 then 16 else 6):=by unfold fM;rw[cg]
 have w1:=bO 65535;have w2:=bO (Zu (CH a b g.1 ((bare g).length:Int)++bare g));simp only[al5 g (by omega),Vj,ab,ai,ae,bj];cases FA a b g.1 ((bare g).length:Int);rfl;simp only[af,ai,ae];rw[aQ (by omega),TO _ (by grind)];simp only[ab,cg,PO,mC,JN _ _ _ (show(bare g).length<=10^9 by omega) (show(cv 65535).length<=10^9 by omega),JN _ _ _ (show(bare g).length<=10^9 by omega) (show(cv (Zu (CH a b g.1 ((bare g).length:Int)++bare g))).length<=10^9 by omega),ahO,ah0,cF];grind
theorem aoS (a b:Int)(g:ed):(It a b g).1.length<=340:=by unfold It;cases h:VX a b g with|false=>exact eT _|true=>simp only[VX,ah]at h;have:=Qt h.1;have:=Zq g;show(xn _ _ _).length<=340;rw[Ek];omega
def ipB (d:Ip):Bool:=dp d.1 0 255&&(dp d.2.2.1 0 255&&(dp d.2.2.2.1 0 255&&(dp d.2.1 0 65535&&(dp d.2.2.2.2.1 0 4294967295&&(dp d.2.2.2.2.2.1 0 4294967295&&decide ((d.2.2.2.2.2.2.length:Int)<=380))))))
theorem adH (d:Ip):Nq d=some (ipB d):=by simp_all[Nq,cj,cg,ipB]
theorem amc (d:Ip):Rx d=some (ipB d):=adH d
def Vp (d:Ip):Bytes:=((((((bs2 69 (gQ d.1)++cv (20+(d.2.2.2.2.2.2.length:Int)))++cv d.2.1)++cv 16384)++bs2 (gQ d.2.2.1) (gQ d.2.2.2.1))++cv 0)++gP d.2.2.2.2.1)++gP d.2.2.2.2.2.1
theorem Vq (d:Ip):(Vp d).length<=20:=by have:=bO (20+(d.2.2.2.2.2.2.length));have:=bO d.2.1;have:=bO 16384;have:=bO 0;have:=dB d.2.2.2.2.1;have:=dB d.2.2.2.2.2.1;simp_all[Vp,Zs];omega
def Vo (d:Ip):Bytes:=xn (Vp d) 10 (cv (Zu (Vp d)))
theorem ags (d:Ip):DG d=some (bif ipB d then(Vo d,true) else([],false)):=by
 unfold DG;rw[adH,ab];cases hd:ipB d;rfl;have hn:(d.2.2.2.2.2.2.length)<=380:=by grind[ipB]
 have:=bO (20+(d.2.2.2.2.2.2.length));have:=bO d.2.1;have:=bO 16384;have:=bO 0;have:=dB d.2.2.2.2.1;have:=dB d.2.2.2.2.2.1;have hl:=Vq d;have e:∀x y,(aS [x,y]).length=2:=λ_ _=>rfl;rw[aj (by omega) (by omega)];simp only[iS,lE,ab,ai,ae,af];rw[aQ (by grind),aQ (by grind),aQ (by simp_all;omega),aQ (by simp_all;omega),aQ (by simp_all;omega),aQ (by simp_all;omega),aQ (by simp_all;omega)];have hp:((((((aS [69,gQ d.1]++cv (20+(d.2.2.2.2.2.2.length)))++cv d.2.1)++cv 16384)++aS [gQ d.2.2.1,gQ d.2.2.2.1])++cv 0)++gP d.2.2.2.2.1)++gP d.2.2.2.2.2.1=Vp d:=rfl;rw[hp,Qz _ (by omega),ab,FE _ _ _ (by omega)];rfl
theorem afp (d:Ip):Dc d=some (bif ipB d then(Vo d,true) else([],false)):=by
 unfold Dc;rw[amc,ab];cases hd:ipB d;rfl;have hn:(d.2.2.2.2.2.2.length)<=380:=by grind[ipB]
 have:=bO (20+(d.2.2.2.2.2.2.length));have:=bO d.2.1;have:=bO 16384;have:=bO 0;have:=dB d.2.2.2.2.1;have:=dB d.2.2.2.2.2.1;have hl:=Vq d;have hw:=bO (Zu (Vp d));have e:∀x y,(aS [x,y]).length=2:=λ_ _=>rfl;rw[aj (by omega) (by omega)];simp only[mC,yX,ab,ai,ae,af];rw[aQ (by grind),aQ (by grind),aQ (by simp_all;omega),aQ (by simp_all;omega),aQ (by simp_all;omega),aQ (by simp_all;omega),aQ (by simp_all;omega)];have hp:((((((aS [69,gQ d.1]++cv (20+(d.2.2.2.2.2.2.length)))++cv d.2.1)++cv 16384)++aS [gQ d.2.2.1,gQ d.2.2.2.1])++cv 0)++gP d.2.2.2.2.1)++gP d.2.2.2.2.2.1=Vp d:=rfl;rw[hp,TO _ (by omega),ab,JN _ _ _];rfl
def ipR (d:Ip):Bytes×Bool:=bif ipB d then(Vo d++d.2.2.2.2.2.2,true) else([],false)
theorem RA (d:Ip):(Vo d).length<=20:=by grind[Vo,Ek,Vq]
theorem anj (d:Ip):BK d=some (ipR d):=by grind[BK,ipR,ags,ab,ipB,RA,aQ]
theorem amb (d:Ip):Ak d=some (ipR d):=by grind[Ak,ipR,afp,ab,ipB,RA,aQ]
def Jm (n:Nat):Bytes:=aS (List.replicate n (0:Int))
theorem Sh (n:Nat):(Jm n).length=n:=by simp[Jm,aS]
theorem adI (n:Nat)(h:n<=10^9:=by omega):md (n:Int) 0=some (Jm n):=by unfold md;rw[zip,aQ (by omega),aw];refine bB (λi=>(List.replicate n (0),(i:Int))) n (by omega) (λi nx hi=>?_) (λnx=>?_);simp only[nE];rw[gN,aN (by simpa using hi),aj (by omega) (by omega)];simp only[af,ab,aw,List.set_replicate_self];rfl;simp only[nE];rw[fF];rfl
theorem ahu (n:Nat)(h:n<=10^9:=by omega):qZ 0 (n:Int)=some (Jm n):=by unfold qZ;rw[zip,aQ (by omega),aw];refine bB (λi=>(List.replicate n (0),(i:Int))) n (by omega) (λi nx hi=>?_) (λnx=>?_);simp only[AN];rw[ax (by simp;omega),aN (by simpa using hi),aj (by omega) (by omega)];simp only[af,ab,aw,List.set_replicate_self];rfl;simp only[AN];rw[aq (by simp)];rfl
def pad (s:Bytes):Bytes:=if s.length<46 then s++Jm (46-s.length) else s
theorem aar (s:Bytes):(pad s).length=max 46 s.length:=by grind[pad,Sh]
theorem aoW (s:Bytes)(h:s.length<=10^9):FL s=some (pad s):=by unfold FL pad;by_cases hc:s.length<46;rw[gN,aM hc,aj (by omega) (by omega),show(46:Int)-(s.length)=((46-s.length:Nat)) by omega,adI _];simp only[af,ab];rw[aQ (by rw[Sh];omega)];rw[fF,aK hc];rfl
theorem aoz (s:Bytes)(h:s.length<=10^9):Fm s=some (pad s):=by unfold Fm pad;by_cases hc:s.length<46;rw[fF,aM hc,aj (by omega) (by omega),show(46:Int)-(s.length)=((46-s.length:Nat)) by omega,ahu _];simp only[ae,ab];rw[aQ (by rw[Sh];omega)];rw[gN,aK hc];rfl
def Gq (e:WE):Bool:=dp e.1 0 281474976710655&&(dp e.2.1 0 281474976710655&&(dp e.2.2.1 (-1) 4095&&(dp e.2.2.2.1 1536 65535&&((e.2.2.2.1 !=33024)&&dp (e.2.2.2.2.length:Int) 46 400))))
theorem R6 (e:WE):CO e=some (Gq e):=by simp_all[CO,cj,cg,Gq]
theorem X9 (e:WE):GH e=some (Gq e):=R6 e
def mac (a:Int):Bytes:=(jH a).getD []
theorem H7 (a:Int):jH a=some (mac a)/\(mac a).length<=6:=by
 have h:∃x,jH a=some x/\x.length<=6:=by unfold jH;simp only[iS,lE,ab];have h1:=bO (fdiv a (2^(vD 32)));grind[dB,aQ]
 grind[mac]
theorem aoy (a:Int):Dj a=some (mac a):=(H7 a).1
def XM (e:WE):Bytes:=(bif decide (e.2.2.1>=0) then(((mac e.1++mac e.2.1)++cv 33024)++cv e.2.2.1) else mac e.1++mac e.2.1)++cv e.2.2.2.1++e.2.2.2.2
theorem alm (e:WE):(XM e).length<=18+e.2.2.2.2.length:=by have:=(H7 e.1).2;have:=(H7 e.2.1).2;grind[bO,XM]
def abC (e:WE):Bytes×Bool:=bif Gq e then(XM e,true) else([],false)
theorem aoV (e:WE):Dw e=some (abC e):=by
 unfold Dw abC;rw[R6,ab];cases he:Gq e;rfl;have hn:(e.2.2.2.2.length)<=400:=by grind[Gq,bq]
 have:=(H7 e.1).2;have:=(H7 e.2.1).2;have:=bO 33024;have:=bO e.2.2.1;have:=bO e.2.2.2.1;simp only[(H7 _).1,iS,ab,ai,ae,af,XM];grind[aQ]
theorem aox (e:WE):C3 e=some (abC e):=by
 unfold C3 abC;rw[X9,ab];cases he:Gq e;rfl;have hn:(e.2.2.2.2.length)<=400:=by grind[Gq,bq]
 have:=(H7 e.1).2;have:=(H7 e.2.1).2;have:=bO 33024;have:=bO e.2.2.1;have:=bO e.2.2.2.1;simp only[aoy,mC,ab,ai,ae,af,XM];grind[aQ]
def arI (p:aP):Bytes×Bool:=It p.2.2.2.2.2.2.1 p.2.2.2.2.2.2.2.1 p.2.2.2.2.2.2.2.2
def ipP (p:aP):Bytes×Bool:=ipR (p.2.2.2.1,p.2.2.2.2.1,p.2.2.2.2.2.1,p.2.2.2.2.2.2.2.2.1,p.2.2.2.2.2.2.1,p.2.2.2.2.2.2.2.1,(arI p).1)
def aoh (p:aP):Bytes×Bool:=abC (p.1,p.2.1,p.2.2.1,2048,pad (ipP p).1)
def eQ (p:aP):Bytes×Bool:=bif dK p then aoh p else([],false)
theorem aab (p:aP):(ipP p).1.length<=360:=by grind[aoS,ipP,ipR,arI,RA]
theorem Jg (p:aP):hZ p=some (eQ p):=by have hl:=aab p;unfold hZ eQ;simp only[qB,Mx,anj,ab];rw[show(ipR (p.2.2.2.1,p.2.2.2.2.1,p.2.2.2.2.2.1,p.2.2.2.2.2.2.2.2.1,p.2.2.2.2.2.2.1,p.2.2.2.2.2.2.2.1,(It p.2.2.2.2.2.2.1 p.2.2.2.2.2.2.2.1 p.2.2.2.2.2.2.2.2).1))=ipP p from rfl,aoW _ (by omega),ab,aoV];cases dK p<;>rfl
theorem IW (p:aP):hH p=some (eQ p):=by have hl:=aab p;unfold hH eQ;simp only[ny,L8,amb,ab];rw[show(ipR (p.2.2.2.1,p.2.2.2.2.1,p.2.2.2.2.2.1,p.2.2.2.2.2.2.2.2.1,p.2.2.2.2.2.2.1,p.2.2.2.2.2.2.2.1,(It p.2.2.2.2.2.2.1 p.2.2.2.2.2.2.2.1 p.2.2.2.2.2.2.2.2).1))=ipP p from rfl,aoz _ (by omega),ab,aox];cases dK p<;>rfl
theorem IV (h:dK p=true):(eQ p).2=true:=by grind[aab,LV,dK,aar,eQ,aoh,abC,Gq,bq]
theorem Ct (p:aP):(eQ p).1.length<=378:=by grind[aab,aar,eQ,aoh,abC,alm]
def fcs (c:Int):Bytes:=aS [gQ c,gQ (fdiv c (2^(vD 8))),gQ (fdiv c (2^(vD 16))),gQ (fdiv c (2^(vD 24)))]
def KL (s:Bytes):Bytes:=s++fcs (XE s)
theorem aoj (c:Int):(fcs c).length=4:=rfl
theorem ahW (s:Bytes)(h:s.length<=10^9):B5 s=some (KL s):=by unfold B5;rw[ahV s h,ab,nt,nt,nt];exact aQ (by show s.length+4<=_;omega)
theorem aht (s:Bytes)(h:s.length<=10^9):AF s=some (KL s):=by unfold AF;rw[ahs s h,ab,nt,nt,nt];exact aQ (by show s.length+4<=_;omega)
def fW (p:aP):Bool:=dK p&&decide ((p.2.2.2.2.2.2.2.2.2.2.2.2.2.2.2.length:Int)<=128)
theorem CL (p:aP):ku p=some (fW p):=by grind[ku,qB,ab,fW]
theorem Cy (p:aP):km p=some (fW p):=by grind[km,ny,ab,fW]
def Gu (p:aP):Bytes×Bool:=bif fW p then(KL (eQ p).1,true) else([],false)
theorem YR (p:aP):sB p=some (Gu p):=by grind[Ct,sB,CL,Jg,ahW,ab,Gu]
theorem Ya (p:aP):sf p=some (Gu p):=by grind[Ct,sf,Cy,IW,aht,ab,Gu,fW,IV]
theorem MY (p:aP):(Gu p).1.length<=382:=by grind[Ct,Gu,KL,aoj]
def VI (p:aP)(z:Int)(k:Nat):aP:=
 (p.1,p.2.1,p.2.2.1,p.2.2.2.1,tmod (ak (p.2.2.2.2.1+(k:Int))) 65536,p.2.2.2.2.2.1,p.2.2.2.2.2.2.1,p.2.2.2.2.2.2.2.1,p.2.2.2.2.2.2.2.2.1,p.2.2.2.2.2.2.2.2.2.1,p.2.2.2.2.2.2.2.2.2.2.1,
   tmod (ak (p.2.2.2.2.2.2.2.2.2.2.2.1+((k:Int)*z))) 4294967296,p.2.2.2.2.2.2.2.2.2.2.2.2.1,
   (bif decide (((k:Int)+1)*z<(p.2.2.2.2.2.2.2.2.2.2.2.2.2.2.2.length:Int)) then ak (toNat (gr p.2.2.2.2.2.2.2.2.2.2.2.2.2.1&&&~~~ gr 9)) else p.2.2.2.2.2.2.2.2.2.2.2.2.2.1),
   p.2.2.2.2.2.2.2.2.2.2.2.2.2.2.1,(p.2.2.2.2.2.2.2.2.2.2.2.2.2.2.2.take (min ((k+1)*z.toNat) p.2.2.2.2.2.2.2.2.2.2.2.2.2.2.2.length)).drop (k*z.toNat))
def lf (n z:Nat):Nat:=(n+z-1)/z
def Iv (p:aP)(z:Int):ar aP:=bif dK p&&dp z 1 128 then
    (bif (p.2.2.2.2.2.2.2.2.1 !=6)||decide ((p.2.2.2.2.2.2.2.2.2.2.2.2.2.2.2.length:Int)<=z) then [p] else(range (lf p.2.2.2.2.2.2.2.2.2.2.2.2.2.2.2.length z.toNat)).map (VI p z)) else []
theorem RT {n z k:Nat}(hz:0<z:=by omega):k<lf n z↔k*z<n:=by grind[lf,Nat.lt_div_iff_mul_lt]
theorem CV (h:dK p=true):p.2.2.2.2.2.2.2.2.2.2.2.2.2.2.2.length<=320:=by grind[dK,Qt,U4]
theorem YZ {b:Bytes}{k z:Nat}(hk:k*z<b.length)(hb:b.length<=320):sub b ((k*z:Nat):Int) ((min ((k+1)*z) b.length:Nat):Int)=some ((b.take (min ((k+1)*z) b.length)).drop (k*z)):=by grind[sub]
theorem akh (p:aP)(z:Int):Kx p z=some (Iv p z):=by
 unfold Kx Iv;simp only[qB,cj,ab];cases hs:dK p;rfl;cases hz:dp z 1 128;rfl;have hz':=bq.1 hz;have hb:=CV hs;simp only[ai,ae,cA,af,ab,cg,cT];cases hq:(p.2.2.2.2.2.2.2.2.1 !=6)||decide ((p.2.2.2.2.2.2.2.2.2.2.2.2.2.2.2.length)<=z)with
 |true=>rfl
 |false=>
  obtain⟨m,rfl⟩:=aD (show 0<=z by omega);have hN:∀k,k<lf p.2.2.2.2.2.2.2.2.2.2.2.2.2.2.2.length m↔k*m<p.2.2.2.2.2.2.2.2.2.2.2.2.2.2.2.length:=λk=>RT;have NA:lf p.2.2.2.2.2.2.2.2.2.2.2.2.2.2.2.length m<=320:=by rcases bS 320 (lf p.2.2.2.2.2.2.2.2.2.2.2.2.2.2.2.length m)with h|h;have:=(hN 320).1 h;omega;exact h
  refine bB (λk=>((range k).map (VI p (m)),(k:Int))) (lf p.2.2.2.2.2.2.2.2.2.2.2.2.2.2.2.length m) (by omega) (λk nx hk=>?_) (λnx=>?_);have hkm:=(hN k).1 hk;have hk1:(k+1)*m=k*m+m:=by rw[cw,eF]
  have e1:(k:Int)*(m)=((k*m:Nat)):=by push_cast;rfl
  have e2:((k:Int)+1)*(m)=(((k+1)*m:Nat)):=by push_cast;rfl
  simp only[DM];rw[aj (n:=(k)+1) (by omega) (by omega),e1,e2,gq (by omega),gq (by omega),gN,af];have e3:(if(((k+1)*m:Nat):Int)<(p.2.2.2.2.2.2.2.2.2.2.2.2.2.2.2.length) then(((k+1)*m:Nat):Int) else(p.2.2.2.2.2.2.2.2.2.2.2.2.2.2.2.length))=((min ((k+1)*m) p.2.2.2.2.2.2.2.2.2.2.2.2.2.2.2.length)):=by split<;>omega
  rw[e3,YZ hkm hb,ab,nt,nt];rw[List.range_succ,eh,List.map_singleton];simp only[VI,e1,e2,aw];cases decide ((((k+1)*m:Nat):Int)<(p.2.2.2.2.2.2.2.2.2.2.2.2.2.2.2.length))with|true=>rw[aQ (by simp;omega)];rfl|false=>simp only[ae];rw[aQ (by simp;omega)];rfl
  have hkm:¬lf p.2.2.2.2.2.2.2.2.2.2.2.2.2.2.2.length m*m<p.2.2.2.2.2.2.2.2.2.2.2.2.2.2.2.length:=λh=>absurd ((hN _).2 h) (pL _);have hub:lf p.2.2.2.2.2.2.2.2.2.2.2.2.2.2.2.length m*m<=320*128:=Nat.mul_le_mul NA (by omega);have e1:((lf p.2.2.2.2.2.2.2.2.2.2.2.2.2.2.2.length m):Int)*(m)=((lf p.2.2.2.2.2.2.2.2.2.2.2.2.2.2.2.length m*m:Nat)):=by push_cast;rfl
  simp only[DM];rw[e1,gq (by omega),fF];rfl
theorem aja (p:aP)(z:Int):JP p z=some (Iv p z):=by
 unfold JP Iv;simp only[ny,cq,ab];cases hs:dK p;rfl;cases hz:dp z 1 128;rfl;have hz':=bq.1 hz;have hb:=CV hs;simp only[ai,ae,cA,af,ab,cg,cT];cases hq:(p.2.2.2.2.2.2.2.2.1 !=6)||decide ((p.2.2.2.2.2.2.2.2.2.2.2.2.2.2.2.length)<=z)with
 |true=>rfl
 |false=>
  obtain⟨m,rfl⟩:=aD (show 0<=z by omega);have hN:∀k,k<lf p.2.2.2.2.2.2.2.2.2.2.2.2.2.2.2.length m↔k*m<p.2.2.2.2.2.2.2.2.2.2.2.2.2.2.2.length:=λk=>RT;have NA:lf p.2.2.2.2.2.2.2.2.2.2.2.2.2.2.2.length m<=320:=by rcases bS 320 (lf p.2.2.2.2.2.2.2.2.2.2.2.2.2.2.2.length m)with h|h;have:=(hN 320).1 h;omega;exact h
  refine bB (λk=>((range k).map (VI p (m)),(k:Int))) (lf p.2.2.2.2.2.2.2.2.2.2.2.2.2.2.2.length m) (by omega) (λk nx hk=>?_) (λnx=>?_);have hkm:=(hN k).1 hk;have hk1:(k+1)*m=k*m+m:=by rw[cw,eF]
  have e1:(k:Int)*(m)=((k*m:Nat)):=by push_cast;rfl
  have e2:((k:Int)+1)*(m)=(((k+1)*m:Nat)):=by push_cast;rfl
  have th:=YZ hkm hb;simp only[Dg];rw[aj (n:=(k)+1) (by omega) (by omega),e1,e2,gq (by omega),gq (by omega),gN,af];rw[List.range_succ,eh,List.map_singleton];simp only[VI,e1,e2,aw];by_cases hc:(((k+1)*m:Nat):Int)<(p.2.2.2.2.2.2.2.2.2.2.2.2.2.2.2.length);rw[ax hc];rw[show min ((k+1)*m) p.2.2.2.2.2.2.2.2.2.2.2.2.2.2.2.length=(k+1)*m by omega]at th⊢;rw[th,ab,nt,nt,aQ (by simp;omega)];rfl;rw[aq hc];rw[show min ((k+1)*m) p.2.2.2.2.2.2.2.2.2.2.2.2.2.2.2.length=p.2.2.2.2.2.2.2.2.2.2.2.2.2.2.2.length by omega]at th⊢;rw[th,ab,nt,nt,aQ (by simp;omega)];rfl;have hkm:¬lf p.2.2.2.2.2.2.2.2.2.2.2.2.2.2.2.length m*m<p.2.2.2.2.2.2.2.2.2.2.2.2.2.2.2.length:=λh=>absurd ((hN _).2 h) (pL _);have hub:lf p.2.2.2.2.2.2.2.2.2.2.2.2.2.2.2.length m*m<=320*128:=Nat.mul_le_mul NA (by omega);have e1:((lf p.2.2.2.2.2.2.2.2.2.2.2.2.2.2.2.length m):Int)*(m)=((lf p.2.2.2.2.2.2.2.2.2.2.2.2.2.2.2.length m*m:Nat)):=by push_cast;rfl
  simp only[Dg];rw[e1,gq (by omega),fF];rfl
theorem O4 (p:aP)(z:Int):(Iv p z).length<=320:=by unfold Iv;cases hs:dK p&&dp z 1 128;exact eT _;simp only[ah,bq]at hs;have hb:=CV hs.1;cases (p.2.2.2.2.2.2.2.2.1 !=6)||decide ((p.2.2.2.2.2.2.2.2.2.2.2.2.2.2.2.length)<=z)with|true=>simp only[af,aY];omega|false=>simp only[af,ae,bW,List.length_range];rcases bS 320 (lf p.2.2.2.2.2.2.2.2.2.2.2.2.2.2.2.length z.toNat)with h|h;have:=(RT).1 h;omega;exact h
def Ue (acc:bp)(p:aP):bp:=bif (Gu p).2 then acc++[(Gu p).1] else acc
theorem Uf (acc:bp)(p:aP):(Ue acc p).length<=acc.length+1:=by grind[Ue]
def MZ (l:ar aP):bp:=l.foldl Ue []
theorem Sq:∀(l:ar aP)(acc:bp),(l.foldl Ue acc).length<=acc.length+l.length
 |[],acc=>by simp
 |p::l,acc=>by have:=Sq l (Ue acc p);grind[Uf]
theorem NN:∀(l:ar aP)(acc:bp),(∀x∈acc,x.length<=382)->∀x∈l.foldl Ue acc,x.length<=382
 |[],acc,h=>h
 |p::l,acc,h=>by refine NN l _ (λx hx=>?_);grind[Ue,MY]
theorem ago (l:ar aP)(h:l.length<=10^9):DD l=some (MZ l):=by
 unfold DD MZ;have:=vn (T:=qJ (λ(y3) (_)=>some y3) l) l (λ(s) i=>(s,(i))) (λi s=>s.length<=i) (λp s=> .ok (Ue s p)) (λs=>some s) (by omega) (λi hi s nx hI=>?hs) (λi hi s s' hI hg=>?hn) (λs nx hI=>?hf) [] (by simp)
 case hs=>
  grind[qJ,aN,aj,ab,YR,Ue,aQ]
 all_goals grind[Uf,qJ,Kl]
theorem afl (l:ar aP)(h:l.length<=10^9):C9 l=some (MZ l):=by
 unfold C9 MZ;have:=vn (T:=pV (λ(y3) (_)=>some y3) l (l.length)) l (λ(s) i=>(s,(i))) (λi s=>s.length<=i) (λp s=> .ok (Ue s p)) (λs=>some s) (by omega) (λi hi s nx hI=>?hs) (λi hi s s' hI hg=>?hn) (λs nx hI=>?hf) [] (by simp)
 case hs=>
  grind[pV,aN,aj,ab,Ya,Ue,aQ]
 all_goals grind[Uf,pV,Kl]
def YM (p:aP)(z:Int):bp:=MZ (Iv p z)
theorem anr (p:aP)(z:Int):yG p z=some (YM p z):=by have:=O4 p z;simp only[yG,akh,ago _ (show(Iv p z).length<=10^9 by omega),ab];rfl
theorem amk (p:aP)(z:Int):yp p z=some (YM p z):=by have:=O4 p z;simp only[yp,aja,afl _ (show(Iv p z).length<=10^9 by omega),ab];rfl
theorem aj1 (p:aP)(z:Int):(YM p z).length<=320/\∀x∈YM p z,x.length<=382:=by have:=O4 p z;have:=Sq (Iv p z) [];exact⟨by grind[YM,MZ],NN _ [] (by simp)⟩
theorem IQ (h0:0<=a:=by omega)(h:a+2<=(s.length:Int):=by omega):0<=cM s a/\cM s a<=65535:=by grind[fu,cM,fO]
theorem IS (h0:0<=a:=by omega)(h:a+4<=(s.length:Int):=by omega):0<=dX s a/\dX s a<=4294967295:=by grind[fu,dX,fO]
theorem amv {x y:Int}(hx:0<=x/\x<=65535)(hy:0<=y/\y<=4294967295):ak (toNat (gr (ak (x*2^(vD 32)))|||gr y))=x*4294967296+y:=by have e:(2:Int)^(vD 32)=4294967296:=rfl;obtain⟨x,rfl⟩:=aD hx.1;obtain⟨y,rfl⟩:=aD hy.1;rw[e,aj (n:=(x:Int)*4294967296) (by omega) (by omega),show(x:Int)*4294967296=((2^32*x:Nat):Int) by omega,OX x 32 y];omega
theorem ahz {x y:Int}(hx:0<=x/\x<=65535)(hy:0<=y/\y<=4294967295):ak (ak (x*2^(vD 32))+y)=x*4294967296+y:=by grind[IntKind.bits,aj]
theorem DT {l:ar α}{n:Int}(h0:0<=n)(h1:n<=(l.length:Int)):sub l 0 n=some (l.take n.toNat):=by grind[sub]
theorem xc {l:ar α}(k:Nat)(h:k<=l.length:=by omega)(ha:a=(k:Int):=by omega):sub l a (l.length:Int)=some (l.drop k):=by simp_all[sub]
theorem QR {l:ar α}(k:Nat){n:Int}(ha:a=(k:Int))(h0:a<=n)(h1:n<=(l.length:Int)):sub l a n=some ((l.take n.toNat).drop k):=by grind[sub]
def Jv (s:Bytes):Bytes×Bool:=bif decide ((s.length:Int)<4) then([],false) else bif KL (s.take ((s.length:Int)-4).toNat)==s then(s.take ((s.length:Int)-4).toNat,true) else([],false)
theorem agl (s:Bytes)(h:s.length<=10^9):Dx s=some (Jv s):=by unfold Dx Jv;rw[aj (n:=(s.length:Int)-4) (by omega) (by omega)];by_cases h4:(s.length:Int)<4;rw[ax h4];rfl;rw[aq h4,DT (by omega) (by omega)];simp only[ae,ab,ahW _ (show(s.take ((s.length:Int)-4).toNat).length<=10^9 by rw[bm];omega)];cases KL (s.take ((s.length:Int)-4).toNat)==s<;>rfl
theorem afi (s:Bytes)(h:s.length<=10^9):C4 s=some (Jv s):=by unfold C4 Jv;rw[aj (n:=(s.length:Int)-4) (by omega) (by omega)];by_cases h4:(s.length:Int)<4;rw[ax (show(s.length:Int)-4<0 by omega),ax h4];rfl;rw[aq (show¬(s.length:Int)-4<0 by omega),aq h4,DT (by omega) (by omega)];simp only[ae,ab,aht _ (show(s.take ((s.length:Int)-4).toNat).length<=10^9 by rw[bm];omega)];cases KL (s.take ((s.length:Int)-4).toNat)==s<;>rfl
def aog:WE:=(0,0,0,0,([]:Bytes))
def N3 (s:Bytes)(a:Int):Int:=cM s a*4294967296+dX s (a+2)
def UA (s:Bytes):WE:=(N3 s 0,N3 s 6,cM s 14,cM s 16,s.drop 18)
def IJ (s:Bytes):WE:=(N3 s 0,N3 s 6, -1,cM s 12,s.drop 14)
def gn (s:Bytes):WE×Bool:=bif decide ((s.length:Int)<18) then(aog,false) else
 bif cM s 12==33024 then(bif Gq (UA s) then(UA s,true) else(aog,false)) else bif Gq (IJ s) then(IJ s,true) else(aog,false)
theorem aaM (s:Bytes)(h:s.length<=10^9):DH s=some (gn s):=by unfold DH gn;by_cases h8:(s.length:Int)<18;rw[ax h8];rfl;rw[aq h8];simp only[ae,wC s _ h,CK s _ h,ab];rw[nt,nt,xc (l:=s) 14 (by omega) (show(14:Int)=((14:Nat):Int) from rfl),ab,xc (l:=s) 18 (by omega) (show(18:Int)=((18:Nat):Int) from rfl)];rw[ahz (IQ (s:=s) (a:=0)) (IS (s:=s) (a:=2)),ahz (IQ (s:=s) (a:=6)) (IS (s:=s) (a:=8))];simp only[ab,R6];rw[show((cM s 0*4294967296+dX s 2,cM s 6*4294967296+dX s 8,cM s 14,cM s 16,s.drop 18):WE)=UA s from rfl,show((cM s 0*4294967296+dX s 2,cM s 6*4294967296+dX s 8, -1,cM s 12,s.drop 14):WE)=IJ s from rfl];cases cM s 12==33024<;>cases Gq (UA s)<;>cases Gq (IJ s)<;>rfl
theorem P0 (s:Bytes)(h:s.length<=10^9):xB s=some (gn s):=by
 unfold xB gn;by_cases h4:(s.length:Int)<14;rw[ax h4,ax (show(s.length:Int)<18 by omega)];rfl;rw[aq h4];simp only[ae,Cw s _ h,Cx s _ h,ab];rw[nt,nt,xc (l:=s) 14 (by omega) (show(14:Int)=((14:Nat):Int) from rfl),ab];rw[amv (IQ (s:=s) (a:=0)) (IS (s:=s) (a:=2)),amv (IQ (s:=s) (a:=6)) (IS (s:=s) (a:=8))];simp only[ab,X9];rw[show((cM s 0*4294967296+dX s 2,cM s 6*4294967296+dX s 8, -1,cM s 12,s.drop 14):WE)=IJ s from rfl];by_cases h8:(s.length:Int)<18;have hB:Gq (IJ s)=false:=by
  unfold Gq IJ;have:dp ((s.drop 14).length:Int) 46 400=false:=by rw[Bool.eq_false_iff,ne_eq,bq,bl];omega
  simp only[this,kV]
 rw[ax h8,aq (show¬(s.length:Int)>=18 by omega),hB];cases cM s 12==33024<;>rfl;rw[aq h8,ax (show(s.length:Int)>=18 by omega),xc (l:=s) 18 (by omega) (show(18:Int)=((18:Nat):Int) from rfl)];simp only[ab];rw[show((cM s 0*4294967296+dX s 2,cM s 6*4294967296+dX s 8,cM s 14,cM s 16,s.drop 18):WE)=UA s from rfl];cases cM s 12==33024<;>cases Gq (UA s)<;>cases Gq (IJ s)<;>rfl
def ip0:Ip:=(0,0,0,0,0,0,([]:Bytes))
def OU (s:Bytes):Ip:=((bZ s 1:Int),cM s 4,(bZ s 8:Int),(bZ s 9:Int),dX s 12,dX s 16,(s.take (cM s 2).toNat).drop 20)
def om (s:Bytes):Ip×Bool:=bif decide ((s.length:Int)<20)||(decide (cM s 2<20)||decide (cM s 2>(s.length:Int))) then(ip0,false) else
 bif (ipR (OU s)).2&&((ipR (OU s)).1==s.take (cM s 2).toNat) then(OU s,true) else(ip0,false)
theorem adM (s:Bytes)(h:s.length<=10^9):FN s=some (om s):=by
 unfold FN om;simp only[wC s _ h,CK s _ h,ab];by_cases h1:(s.length:Int)<20;rw[ax h1];rfl;by_cases h2:cM s 2<20;rw[aq h1,ax h2];rfl;by_cases h3:cM s 2>(s.length:Int);rw[aq h1,aq h2,ax h3];rfl;rw[aq h1,aq h2,aq h3];have b1:=lV (s[1]'(by omega));have b8:=lV (s[8]'(by omega));have b9:=lV (s[9]'(by omega));have i1:idx s 1=some (s[1]'(by omega)):=aN (i:=1) (by omega);have i8:idx s 8=some (s[8]'(by omega)):=aN (i:=8) (by omega);have i9:idx s 9=some (s[9]'(by omega)):=aN (i:=9) (by omega);simp only[ae,ab,bR,i1,i8,i9];rw[QR (l:=s) 20 (show(20:Int)=((20:Nat):Int) from rfl) (by omega) (by omega),DT (by omega) (by omega),gq (n:=(s[1]'(by omega)).toNat) (by omega),gq (n:=(s[8]'(by omega)).toNat) (by omega),gq (n:=(s[9]'(by omega)).toNat) (by omega)];have e:(((s[1]'(by omega)).toNat:Int),cM s 4,((s[8]'(by omega)).toNat:Int),((s[9]'(by omega)).toNat:Int),dX s 12,dX s 16,(s.take (cM s 2).toNat).drop 20)=OU s:=by grind[OU,bZ]
 simp only[ab,e,anj];cases (ipR (OU s)).2<;>cases (ipR (OU s)).1==s.take (cM s 2).toNat<;>rfl
theorem acs (s:Bytes)(h:s.length<=10^9):Fo s=some (om s):=by
 unfold Fo om;simp only[Cw s _ h,Cx s _ h,ab];by_cases h1:(s.length:Int)<20;rw[ax h1];rfl;by_cases h2:cM s 2<20;rw[aq h1,ax h2];rfl;by_cases h3:cM s 2>(s.length:Int);rw[aq h1,aq h2,ax h3];rfl;rw[aq h1,aq h2,aq h3];have b1:=lV (s[1]'(by omega));have b8:=lV (s[8]'(by omega));have b9:=lV (s[9]'(by omega));have i1:idx s 1=some (s[1]'(by omega)):=aN (i:=1) (by omega);have i8:idx s 8=some (s[8]'(by omega)):=aN (i:=8) (by omega);have i9:idx s 9=some (s[9]'(by omega)):=aN (i:=9) (by omega);simp only[ae,ab,bR,i1,i8,i9];rw[QR (l:=s) 20 (show(20:Int)=((20:Nat):Int) from rfl) (by omega) (by omega),DT (by omega) (by omega),gq (n:=(s[1]'(by omega)).toNat) (by omega),gq (n:=(s[8]'(by omega)).toNat) (by omega),gq (n:=(s[9]'(by omega)).toNat) (by omega)];have e:(((s[1]'(by omega)).toNat:Int),cM s 4,((s[8]'(by omega)).toNat:Int),((s[9]'(by omega)).toNat:Int),dX s 12,dX s 16,(s.take (cM s 2).toNat).drop 20)=OU s:=by grind[OU,bZ]
 simp only[ab,e,amb];cases (ipR (OU s)).2<;>cases (ipR (OU s)).1==s.take (cM s 2).toNat<;>rfl
def aqA:ed:=(0,0,0,0,0,0,0,([]:Bytes))
def VY (k:Int)(s:Bytes):ed:=(k,cM s 0,cM s 2,dX s 4,dX s 8,(bZ s 13:Int),cM s 14,s.drop 20)
def aaD (k:Int)(s:Bytes):ed:=(k,cM s 0,cM s 2,0,0,0,0,s.drop 8)
def xU (a b k:Int)(s:Bytes):ed×Bool:=
 bif (k==6)&&decide ((s.length:Int)>=20) then(bif (It a b (VY k s)).2&&((It a b (VY k s)).1==s) then(VY k s,true) else(aqA,false)) else
 bif (k==17)&&decide ((s.length:Int)>=8) then(bif (It a b (aaD k s)).2&&((It a b (aaD k s)).1==s) then(aaD k s,true) else(aqA,false)) else(aqA,false)
theorem aaN (a b k:Int)(s:Bytes)(h:s.length<=10^9):ue a b k s=some (xU a b k s):=by
 unfold ue xU;simp only[wC s _ h,CK s _ h,ab];rw[show(aa (cond (k==6) (some (decide ((s.length:Int)>=20))) (some false)):(Bool->au (ed×Bool))->au (ed×Bool))=λK=>K ((k==6)&&decide ((s.length:Int)>=20)) from by funext K;cases k==6<;>rfl];rw[show(aa (cond (k==17) (some (decide ((s.length:Int)>=8))) (some false)):(Bool->au (ed×Bool))->au (ed×Bool))=λK=>K ((k==17)&&decide ((s.length:Int)>=8)) from by funext K;simp_all];simp only;cases h1:(k==6)&&decide ((s.length:Int)>=20)with
 |true=>
  simp only[ah,bI]at h1;have bb:=lV (s[13]'(by omega));have i:idx s 13=some (s[13]'(by omega)):=aN (i:=13) (by omega);have e:(k,cM s 0,cM s 2,dX s 4,dX s 8,((s[13]'(by omega)).toNat:Int),cM s 14,s.drop 20)=VY k s:=by grind[VY,bZ]
  simp only[af,i,ab];rw[xc (l:=s) 20 (by omega) (show(20:Int)=((20:Nat):Int) from rfl),gq (n:=(s[13]'(by omega)).toNat) (by omega)];simp only[ab,e,Mx];cases (It a b (VY k s)).2<;>cases (It a b (VY k s)).1==s<;>rfl
 |false=>simp only[ae];cases h2:(k==17)&&decide ((s.length:Int)>=8)with|false=>rfl|true=>simp only[ah,bI]at h2;rw[xc (l:=s) 8 (by omega) (show(8:Int)=((8:Nat):Int) from rfl)];simp only[af,ab,show((k,cM s 0,cM s 2,0,0,0,0,s.drop 8):ed)=aaD k s from rfl,Mx];cases (It a b (aaD k s)).2<;>cases (It a b (aaD k s)).1==s<;>rfl
theorem Z7 (a b k:Int)(s:Bytes)(h:s.length<=10^9):tG a b k s=some (xU a b k s):=by
 unfold tG xU;simp only[Cw s _ h,Cx s _ h,ab];rw[show(aa (cond (k==6) (some (decide ((s.length:Int)>=20))) (some false)):(Bool->au (ed×Bool))->au (ed×Bool))=λK=>K ((k==6)&&decide ((s.length:Int)>=20)) from by funext K;cases k==6<;>rfl];rw[show(aa (cond (k==17) (some (decide ((s.length:Int)>=8))) (some false)):(Bool->au (ed×Bool))->au (ed×Bool))=λK=>K ((k==17)&&decide ((s.length:Int)>=8)) from by funext K;simp_all];simp only;cases h1:(k==6)&&decide ((s.length:Int)>=20)with
 |true=>
  simp only[ah,bI]at h1;have bb:=lV (s[13]'(by omega));have i:idx s 13=some (s[13]'(by omega)):=aN (i:=13) (by omega);have e:(k,cM s 0,cM s 2,dX s 4,dX s 8,((s[13]'(by omega)).toNat:Int),cM s 14,s.drop 20)=VY k s:=by grind[VY,bZ]
  simp only[af,i,ab];rw[xc (l:=s) 20 (by omega) (show(20:Int)=((20:Nat):Int) from rfl),gq (n:=(s[13]'(by omega)).toNat) (by omega)];simp only[ab,e,L8];cases (It a b (VY k s)).2<;>cases (It a b (VY k s)).1==s<;>rfl
 |false=>simp only[ae];cases h2:(k==17)&&decide ((s.length:Int)>=8)with|false=>rfl|true=>simp only[ah,bI]at h2;rw[xc (l:=s) 8 (by omega) (show(8:Int)=((8:Nat):Int) from rfl)];simp only[af,ab,show((k,cM s 0,cM s 2,0,0,0,0,s.drop 8):ed)=aaD k s from rfl,L8];cases (It a b (aaD k s)).2<;>cases (It a b (aaD k s)).1==s<;>rfl
def pk0:aP:=(0,0,0,0,0,0,0,0,0,0,0,0,0,0,0,([]:Bytes))
def zL (s:Bytes):aP×Int:=
 let e:=gn s
 bif !e.2||(e.1.2.2.2.1 !=2048) then(pk0,2) else
 let i:=om e.1.2.2.2.2
 bif !i.2 then(pk0,3) else
 let g:=xU i.1.2.2.2.2.1 i.1.2.2.2.2.2.1 i.1.2.2.2.1 i.1.2.2.2.2.2.2
 bif !g.2 then(pk0,4) else
 bif !dK (e.1.1,e.1.2.1,e.1.2.2.1,i.1.1,i.1.2.1,i.1.2.2.1,i.1.2.2.2.2.1,i.1.2.2.2.2.2.1,g.1) then(pk0,5) else
 ((e.1.1,e.1.2.1,e.1.2.2.1,i.1.1,i.1.2.1,i.1.2.2.1,i.1.2.2.2.2.1,i.1.2.2.2.2.2.1,g.1),0)
theorem Kg (s:Bytes):(gn s).1.2.2.2.2.length<=s.length:=by grind[gn,aog,UA,IJ]
theorem SN (s:Bytes):(om s).1.2.2.2.2.2.2.length<=s.length:=by grind[om,ip0,OU]
theorem No (s:Bytes)(h:s.length<=10^9):js s=some (zL s):=by
 have h1:=Kg s;unfold js zL;rw[aaM s h,ab];generalize gn s=e at h1⊢;have h2:=SN e.1.2.2.2.2;simp only;cases e.2;rfl;cases e.1.2.2.2.1 !=2048;case true=>rfl
 simp only[ai,ae,ab,bR,adM _ (show e.1.2.2.2.2.length<=10^9 by omega)];generalize om e.1.2.2.2.2=i at h2⊢;cases i.2;rfl;simp only[ai,ae,ab,aaN _ _ _ _ (show i.1.2.2.2.2.2.2.length<=10^9 by omega)];generalize xU i.1.2.2.2.2.1 i.1.2.2.2.2.2.1 i.1.2.2.2.1 i.1.2.2.2.2.2.2=g;cases g.2;rfl;simp only[ai,ae,ab,qB];cases dK (e.1.1,e.1.2.1,e.1.2.2.1,i.1.1,i.1.2.1,i.1.2.2.1,i.1.2.2.2.2.1,i.1.2.2.2.2.2.1,g.1)<;>rfl
theorem M8 (s:Bytes)(h:s.length<=10^9):jm s=some (zL s):=by
 have h1:=Kg s;unfold jm zL;rw[P0 s h,ab];generalize gn s=e at h1⊢;have h2:=SN e.1.2.2.2.2;simp only;cases e.2;rfl;cases e.1.2.2.2.1 !=2048;case true=>rfl
 simp only[ai,ae,ab,bR,acs _ (show e.1.2.2.2.2.length<=10^9 by omega)];generalize om e.1.2.2.2.2=i at h2⊢;cases i.2;rfl;simp only[ai,ae,ab,Z7 _ _ _ _ (show i.1.2.2.2.2.2.2.length<=10^9 by omega)];generalize xU i.1.2.2.2.2.1 i.1.2.2.2.2.2.1 i.1.2.2.2.1 i.1.2.2.2.2.2.2=g;cases g.2;rfl;simp only[ai,ae,ab,ny];cases dK (e.1.1,e.1.2.1,e.1.2.2.1,i.1.1,i.1.2.1,i.1.2.2.1,i.1.2.2.2.2.1,i.1.2.2.2.2.2.1,g.1)<;>rfl
def jE (s:Bytes):aP×Int:=
 let c:=Jv s
 bif !c.2 then(pk0,1) else
 let r:=zL c.1
 bif r.2 !=0 then(pk0,r.2) else
 bif !fW r.1 then(pk0,5) else(r.1,0)
theorem Ut (s:Bytes):(Jv s).1.length<=s.length:=by grind[Jv]
theorem R9 (s:Bytes)(h:s.length<=10^9):qP s=some (jE s):=by
 have h1:=Ut s;unfold qP jE;rw[agl s h,ab];generalize Jv s=c at h1⊢;simp only;cases c.2;rfl;simp only[ai,ae,ab,No _ (show c.1.length<=10^9 by omega)];generalize zL c.1=r;cases r.2 !=0;case true=>rfl
 simp only[ae,ab,CL];cases fW r.1<;>rfl
theorem Ru (s:Bytes)(h:s.length<=10^9):pZ s=some (jE s):=by
 have h1:=Ut s;unfold pZ jE;rw[afi s h,ab];generalize Jv s=c at h1⊢;simp only;cases c.2;rfl;simp only[ai,ae,ab,M8 _ (show c.1.length<=10^9 by omega)];generalize zL c.1=r;cases r.2 !=0;case true=>rfl
 simp only[ae,ab,Cy];cases fW r.1<;>rfl
theorem gv (a:bp)(h:a.length<=1073741824:=by omega):dx a=some a:=by simp_all[dx,ik,aQ]
theorem iR (a:bp)(h:a.length<=1073741824:=by omega):dF a=some a:=by grind[dF,aQ]
theorem nw (l:bp)(h:l.length<=10^9):ik l=some l:=by grind[ik,eZ]
theorem pO (f:Filter)(h:f.2.2.length<=10^9):fb f=some f:=by grind[fb,nM,ab]
theorem qz (f:Filter)(h:f.2.2.length<=10^9):gM f=some f:=by simp only[gM,eZ h,bE]
theorem EJ (l:ar Stream)(h:l.length<=10^9:=by omega):mu l=some l:=by grind[mu,eZ]
theorem WZ (t:ar Slot)(h:t.length<=10^9):AI t=some t:=by grind[AI,eZ]
theorem Ve (s:jJ)(h:s.2.length<=10^9):yu s=some s:=by grind[yu,nM,ab]
theorem WY (s:fH)(h1:s.1.length<=10^9)(h2:s.2.1.length<=10^9)(h3:s.2.2.2.length<=10^9):tO s=some s:=by simp only[tO,eZ h1,WZ _ h2,Ve _ h3,ab,bE]
theorem Xg (t:ar Slot)(h:t.length<=10^9):FP t=some t:=by grind[FP,eZ]
theorem Xf (s:fH)(h1:s.1.length<=10^9)(h2:s.2.1.length<=10^9)(h3:s.2.2.2.length<=10^9):FR s=some s:=by simp only[FR,eZ h1,Xg _ h2,eZ h3,ab,bE]
theorem YN (l:ar ia)(i:Nat)(hi:i<l.length):l.take i++[(l[i].1,l[i].2.1,l[i].2.2)]=l.take (i+1):=(aR hi).symm
theorem PV (l:ar ia)(h:l.length<=10^9)(hx:∀x∈l,x.2.2.length<=10^9):xE l=some l:=by unfold xE;refine(bB (λi=>(l.take i,(i:Int))) l.length (by omega) (λi nx hi=>?_) (λnx=>?_));simp only[wj];rw[gN,aN hi,aj (by omega) (by omega)];simp only[af,ab,nM _ (hx _ (aE hi))];rw[aQ (by simp;omega),YN l i hi];rfl;simp only[wj];rw[fF,bN];rfl
structure aet (t:bX):Prop where
 p:t.2.1.2.2.2.length<=10^9
 w:t.2.2.1.length<=10^9
 x:∀x∈t.2.2.1,x.2.2.length<=10^9
theorem OP (t:bX)(z:aet t):uN t=some t:=by simp only[uN,zn _ z.p,PV _ z.w z.x,ab]
theorem Hh (t:bX)(z:aet t):kz t=some t:=by have h:=z.w;unfold kz;simp only[CE _ z.p,ab];refine(bB (λi=>((i:Int),t.1,t.2.1,t.2.2.1.take i,t.2.2.2)) t.2.2.1.length (by omega) (λi nx hi=>?_) (λnx=>?_));simp only[yN];rw[gN,aN hi,aj (by omega) (by omega)];simp only[af,ab,eZ (z.x _ (aE hi)),bE];rw[aQ (by simp;omega),YN _ i hi];rfl;simp only[yN];rw[fF,bN];rfl
theorem apz (z:bu 1000000000 cR h):aet h.2.2.1:=⟨z.2.2.1.2.1.2.2.2.1,z.2.2.1.2.2.1.1,λx hx=>(z.2.2.1.2.2.1.2 x hx).2.2.1⟩
theorem ki (h:Host)(z:bu 1000000000 cR h):hY h=some h:=by have hp:h.2.2.2.2.1.length<=10^9:=z.2.2.2.2.1.1;have hm:h.1.length<=10^9:=z.1.1;unfold hY;simp only[gv _ (show h.1.length<=1073741824 by omega),AH,eZ z.2.1.1,OP _ (apz z),eZ z.2.2.2.1.1,ab,bE];refine(bB (λi=>((i:Int),h.1,h.2.1,h.2.2.1,h.2.2.2.1,h.2.2.2.2.1.take i,h.2.2.2.2.2)) h.2.2.2.2.1.length (by omega) (λi nx hi=>?_) (λnx=>?_));simp only[wi];rw[gN,aN hi,aj (by omega) (by omega)];simp only[af,ab,zn _ (z.2.2.2.2.1.2 _ (aE hi)).2.2.2.1];rw[aQ (by simp;omega),<-aR hi];rfl;simp only[wi];rw[fF,bN];simp only[ae,eZ z.2.2.2.2.2.1.1,eZ z.2.2.2.2.2.2.1.1,pO _ z.2.2.2.2.2.2.2.1.2.2.1,WY _ z.2.2.2.2.2.2.2.2.1.1.1 z.2.2.2.2.2.2.2.2.1.2.1.1 z.2.2.2.2.2.2.2.2.1.2.2.2.1,EJ _ z.2.2.2.2.2.2.2.2.2.1.1,nw _ z.2.2.2.2.2.2.2.2.2.2.2.1.1,nM _ z.2.2.2.2.2.2.2.2.2.2.2.2.1.1,nM _ z.2.2.2.2.2.2.2.2.2.2.2.2.2.1.1,ab,bE]
theorem kt (h:Host)(z:bu 1000000000 cR h):iP h=some h:=by have hp:h.2.2.2.2.1.length<=10^9:=z.2.2.2.2.1.1;have hm:h.1.length<=10^9:=z.1.1;unfold iP;simp only[iR _ (show h.1.length<=1073741824 by omega),eZ z.2.1.1,Hh _ (apz z),eZ z.2.2.2.1.1,ab,bE];refine(bB (λi=>((i:Int),h.1,h.2.1,h.2.2.1,h.2.2.2.1,h.2.2.2.2.1.take i,h.2.2.2.2.2)) h.2.2.2.2.1.length (by omega) (λi nx hi=>?_) (λnx=>?_));simp only[yP];rw[gN,aN hi,aj (by omega) (by omega)];simp only[af,ab,CE _ (z.2.2.2.2.1.2 _ (aE hi)).2.2.2.1];rw[aQ (by simp;omega),<-aR hi];rfl;simp only[yP];rw[fF,bN];simp only[ae,eZ z.2.2.2.2.2.1.1,eZ z.2.2.2.2.2.2.1.1,qz _ z.2.2.2.2.2.2.2.1.2.2.1,Xf _ z.2.2.2.2.2.2.2.2.1.1.1 z.2.2.2.2.2.2.2.2.1.2.1.1 z.2.2.2.2.2.2.2.2.1.2.2.2.1,eZ z.2.2.2.2.2.2.2.2.2.1.1,eZ z.2.2.2.2.2.2.2.2.2.2.2.1.1,eZ z.2.2.2.2.2.2.2.2.2.2.2.2.1.1,eZ z.2.2.2.2.2.2.2.2.2.2.2.2.2.1.1,ab,bE]
theorem ag9:∀l:ar ia,(cE l).length<=my (.sl kU) l
 |[]=>by simp[cE]
 |x::l=>by have:=ag9 l;grind[cE,my]
end
end Go.Pu
