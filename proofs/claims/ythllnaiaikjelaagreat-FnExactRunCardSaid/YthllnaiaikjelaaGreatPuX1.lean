import Derived.Test.YthllnaiaikjelaaGreatDnData
import Derived.Test.YthllnaiaikjelaaGreatPure
namespace Go.Pu
open Go.Dn
open List (range)
open BitVec (toNat)
open Int (fdiv tmod)
set_option linter.unusedSimpArgs false
set_option linter.unusedVariables false
noncomputable section
variable {s:Bytes} {h:Host} {a:Int} {f:Int->au Int} {m:bC} {p:aR} {R X α σ:Type} {l:cI}
/- Plain laws of the partial operations and of loops. -/
theorem aj {n:Int}(h1: -9223372036854775808<=n)(h2:n<=9223372036854775807):ak n=n:=by grind[IntKind.wrap,IntKind.bits,IntKind.signed]
@[simp] theorem ab (a:α)(k:α->au R):aa (some a) k=k a:=rfl
@[simp] theorem aqb (k:α->au R):aa none k=none:=rfl
@[simp] theorem ak7 (c:Bool)(x y:α)(k:α->au R):aa (cond c (some x) (some y)) k=k (cond c x y):=by cases c<;>rfl
theorem ch (c:Bool)(x y:α):cond c (some x) (some y)=some (cond c x y):=by cases c<;>rfl
theorem aQ {n:Nat}{k:au R}(h:n<=1073741824):room n k=k:=by simp[room,h]
theorem No (xs:ar α)(i:Nat):idx xs (i:Int)=xs[i]?:=rfl
theorem aN {xs:ar α}{i:Nat}(h:i<xs.length):idx xs (i:Int)=some xs[i]:=by grind[No]
def upK (step:Nat->σ->(σ->au R)->au R)(fin:σ->au R)(N:Nat):Nat->Nat->σ->au R
 |0,_,s=>fin s
 |n+1,i,s=>step i s (λs'=>upK step fin N n (i+1) s')
theorem Nt {T:(X->au R)->X->au R}(N:Nat)(e:σ->Nat->X)(step:Nat->σ->(σ->au R)->au R)(fin:σ->au R)(hs:∀i s nx,i<N->T nx (e s i)=step i s (λs'=>nx (e s' (i+1))))(hf:∀s nx,T nx (e s N)=fin s): ∀n i s,i<=N->N-i<n->aH T n (e s i)=upK step fin N (N-i) i s:=by
 intro n;induction n with
 |zero=>intro i s _ h;omega
 |succ n ih=>
  intro i s hi hn;rw[aH];rcases bS i N with iJ|Fp;rw[hs i s _ iJ,show N-i=(N-(i+1))+1 by omega,upK];congr 1;funext s';exact ih (i+1) s' (by omega) (by omega);have:i=N:=by omega
  subst this;rw[hf,hZ,upK]
def zG (step:α->σ->(σ->au R)->au R)(fin:σ->au R):ar α->σ->au R
 |[],s=>fin s
 |x::xs,s=>step x s (zG step fin xs)
theorem CN {T:(X->au R)->X->au R}(xs:ar α)(e:σ->Nat->X)(step:α->σ->(σ->au R)->au R)(fin:σ->au R)(hs:∀i (h:i<xs.length) s nx,T nx (e s i)=step xs[i] s (λs'=>nx (e s' (i+1))))(hf:∀s nx,T nx (e s xs.length)=fin s): ∀n i s,i<=xs.length->xs.length-i<n->aH T n (e s i)=zG step fin (xs.drop i) s:=by
 intro n;induction n with
 |zero=>intro i s _ h;omega
 |succ n ih=>
  intro i s hi hn;rw[aH];rcases bS i xs.length with iJ|Fp;rw[hs i iJ s _,cg iJ,zG];congr 1;funext s';exact ih (i+1) s' (by omega) (by omega);have:i=xs.length:=by omega
  subst this;rw[hf,List.drop_length,zG]
def mm:(t:CT)->t.D->Nat
 | .int _,_=>0
 | .bool,_=>0
 | .str,s=>s.length
 | .sl e,xs=>xs.length+(xs.map (mm e)).sum
 | .pair a b,x=>mm a x.1+mm b x.2
def bt (n:Nat):(t:CT)->t.D->Prop
 | .int _,_=>True
 | .bool,_=>True
 | .str,s=>s.length<=n
 | .sl e,xs=>xs.length<=n/\∀x∈xs,bt n e x
 | .pair a b,x=>bt n a x.1/\bt n b x.2
theorem Pd (f:α->Nat):∀(xs:ar α)(x:α),x∈xs->f x<=(xs.map f).sum
 |y::ys,x,h=>by rcases cq.1 h with rfl|h;simp;have:=Pd f ys x h;simp;omega
theorem KU {n:Nat}:∀{t:CT}{x:t.D},mm t x<=n->bt n t x
 | .int _,_,_=>trivial
 | .bool,_,_=>trivial
 | .str,_,h=>h
 | .sl e,xs,h=>by simp only[mm]at h;exact⟨by omega,λx hx=>KU (by have:=Pd (mm e) xs x hx;omega)⟩
 | .pair a b,x,h=>by simp only[mm]at h;exact⟨KU (by omega),KU (by omega)⟩
theorem bt.mono {n m:Nat}(h:n<=m:=by omega):∀{t:CT}{x:t.D},bt n t x->bt m t x
 | .int _,_,_=>trivial
 | .bool,_,_=>trivial
 | .str,_,k=>aF k h
 | .sl _,_,k=>⟨aF k.1 h,λx hx=>bt.mono h (k.2 x hx)⟩
 | .pair _ _,_,k=>⟨bt.mono h k.1,bt.mono h k.2⟩
def pJ:(t:CT)->t.D->Prop
 | .int k,n=>k.min<=n/\n<=k.max
 | .bool,_=>True
 | .str,s=>s.length<=9223372036854775807
 | .sl e,xs=>xs.length<=9223372036854775807/\∀x∈xs,pJ e x
 | .pair a b,x=>pJ a x.1/\pJ b x.2
def mO (l n:Int):Int:=if n<=l then l-n else-1
def Uq {β:Type}(f:α->au β)(k0:ar β->Int->au R)(v0:ar α)(nx:ar β×Int->au R)(x:ar β×Int):au R:=
 cond (decide (x.2<(List.length v0:Int))) (
  aa (idx v0 x.2) λx1=>
  aa (f x1) λr2=>
  aa (idx x.1 x.2) λ_=>
  aa (idx x.1 x.2) λ_=>
  nx (List.set x.1 (Int.toNat x.2) r2,ak (x.2+1))) (
  k0 x.1 x.2)
noncomputable def abk {β:Type}(f:α->au β)(z:β)(a0:ar α):au (ar β):=
 if 0<=((List.length a0:Int))/\((List.length a0:Int))<=((List.length a0:Int)) then(
 room (Int.toNat ((List.length a0:Int))) (
 aH (Uq f (λy5 _=>some y5) a0) fuel (List.replicate (Int.toNat ((List.length a0:Int))) z,0))) else none
theorem kh {f:α->au α}{z:α}{a:ar α}(hn:a.length<=1073741824)(hf:∀x∈a,f x=some x):abk f z a=some a:=by
 unfold abk;have Ae:=da;rw[zip,aQ (by omega)]
 have key:=Nt (T:=Uq f (λy5 _=>some y5) a) a.length (λ(_) i=>(a.take i++List.replicate (a.length-i) z,(i))) (λ_ s k=>k s) (λ_=>some a)
  (λi s nx hi=>by
   have h1:(a.take i).length=i:=by simp;omega
   have hl:i<(a.take i++List.replicate (a.length-i) z).length:=by simp;omega
   simp only[Uq];rw[gL];simp only[af,aN hi,ab,hf _ (aE hi),aN hl];congr 1;refine Prod.ext ?_ (aj (by omega) (by omega));simp only[aw];rw[List.set_append_right _ _ (by omega),h1,hZ,aO hi,show a.length-i=(a.length-(i+1))+1 by omega,List.replicate_succ,List.set_cons_zero,aX,List.singleton_append])
  (λs nx=>by grind[Uq])
  fuel 0 () (by omega) (by omega)
 simp only[List.take_zero,bH,Nat.sub_zero,aw]at key⊢;have e:((0:Nat):Int)=0:=rfl;rw[e]at key;rw[key];have:∀n i,upK (λ_ (s) k=>k s) (λ_=>some a) a.length n i ()=some a:=by intro n;induction n with|zero=>intro i;rfl|succ n ih=>grind[upK]
 exact this _ _
def Up (f:α->Int->au Int)(k0:Int->Int->au R)(k1:Int->Int->Int->au R)(v0:ar α)(nx:Int×Int->au R)(x:Int×Int):au R:=
 cond (decide (x.2<((List.length v0:Int)))) (
  aa (idx v0 x.2) λx1=>
  aa (f x1 x.1) λr2=>
  cond (decide (r2<0)) (
   k1 r2 (-1) x.2) (
   nx (r2,ak (x.2+1)))) (
  k0 x.1 x.2)
noncomputable def Uo (f:α->Int->au Int)(a0:ar α)(a1:Int):au Int:=
 cond (decide ((ak (a1-((List.length a0:Int))))<0)) (
  some (-1)) (
  aH (Up f (λy3 _=>some y3) (λ_ y6 _=>some y6) a0) fuel (ak (a1-((List.length a0:Int))),0))
theorem WC {f:α->Int->au Int}{s:α->Nat}{a:ar α}{l:Int}(h0:0<=l)(h1:l<=1048576)(hm:a.length<=9223372036854775807)(hf:∀x∈a,∀l:Int,0<=l->l<=1048576->∃r,f x l=some r/\((s x:Int)<=l->r=l-s x)/\(¬(s x:Int)<=l->r<0)):Uo f a l=some (mO l ((a.length+(a.map s).sum:Nat):Int)):=by
 unfold Uo;have Ae:=da;rw[aj (by omega) (by omega)];rcases Int.lt_or_le (l-a.length) 0 with aAh|ajc;rw[ax aAh];simp only[af,mO];rw[ny];rw[fG];simp only[ae];have key:=CN (T:=Up f (λy3 _=>some y3) (λ_ y6 _=>some y6) a) a (λ(q) i=>(q,(i))) (λx q k=>aa (f x q) λr=>cond (decide (r<0)) (some (-1)) (k r)) (λq=>some q) (λi hi q nx=>by simp only[Up];rw[gL];simp only[af,aN hi,ab];rw[aj (by omega) (by omega)];rfl) (λq nx=>by simp only[Up];rw[fG];rfl) fuel 0 (l-a.length) (by omega) (by omega);have e:((0:Nat):Int)=0:=rfl;rw[e,fJ]at key;rw[key];have main:∀(b:ar α)(q:Int),0<=q->q<=1048576->(∀x∈b,x∈a)->zG (λx q k=>aa (f x q) λr=>cond (decide (r<0)) (some (-1)) (k r)) (λq=>some q) b q=some (mO q ((b.map s).sum)):=by intro b;induction b with|nil=>intro q hq _ _;simp[zG,mO,hq]|cons x b ih=>intro q hq hq2 hb;obtain⟨r,hr,hr1,Xe⟩:=hf x (hb x (by simp)) q hq hq2;rw[zG,hr,ab];by_cases hle:(s x)<=q;rw[fG];simp only[ae];rw[ih _ (by omega) (by omega) (λy hy=>hb y (by simp[hy]))];simp only[mO,ew,List.sum_cons];congr 1;split<;>split<;>omega;rw[ax (Xe hle)];simp only[af,mO,ew,List.sum_cons];rw[ny]
 rw[main a _ (by omega) (by omega) (λx h=>h)];simp only[mO];congr 1;split<;>split<;>omega
def T6 (f:α->α->au Bool)(k0:Int->au R)(k1:Bool->Int->au R)(v0 v1:ar α)(nx:Int->au R)(x:Int):au R:=
 cond (decide (x<((List.length v0:Int)))) (
  aa (idx v0 x) λx1=>
  aa (idx v1 x) λx2=>
  aa (f x1 x2) λr3=>
  cond (!r3) (
   k1 false x) (
   nx (ak (x+1)))) (
  k0 x)
noncomputable def Z1 (f:α->α->au Bool)(a0 a1:ar α):au Bool:=
 cond (((List.length a0:Int)) !=((List.length a1:Int))) (
  some false) (
  aH (T6 f (λ_=>some true) (λy5 _=>some y5) a0 a1) fuel 0)
theorem ik {f:α->α->au Bool}{a:ar α}(hm:a.length<=1000000000000)(hf:∀x∈a,f x x=some true):Z1 f a a=some true:=by
 unfold Z1;have Ae:=da;have key:=CN (T:=T6 f (λ_=>some true) (λy5 _=>some y5) a a) a (λ(_) i=>(i)) (λx s k=>aa (f x x) λr=>cond (!r) (some false) (k s)) (λ_=>some true) (λi hi s nx=>by grind[T6,aN,ab,aj]) (λs nx=>by grind[T6]) fuel 0 () (by omega) (by omega);have main:∀(b:ar α),(∀x∈b,x∈a)->zG (λx s k=>aa (f x x) λr=>cond (!r) (some false) (k s)) (λ_=>some true) b ()=some true:=by intro b;induction b with|nil=>intro _;rfl|cons x b ih=>grind[zG,ab]
 grind
theorem Pq {z:α}{a:ar α}(hn:a.length<=1073741824):abk some z a=some a:=kh hn (λ_ _=>rfl)
theorem JR [BEq α][LawfulBEq α]{a:ar α}(hm:a.length<=1000000000000):Z1 (λx y:α=>some (x==y)) a a=some true:=ik hm (λx _=>by simp)
theorem EC {f:α->Nat}:∀{xs:ar α},(∀x∈xs,f x=0)->(xs.map f).sum=0
 |[],_=>rfl
 |x::xs,h=>by have:=EC (xs:=xs) (λy hy=>h y (by simp[hy]));grind
def de (f:Int->au Int)(n:Nat):Prop:=∀l:Int,0<=l->l<=1048576->f l=some (mO l n)
theorem de.nil:de (λl=>some l) 0:=λl h0 _=>by simp[mO,h0]
theorem de.len {n m:Nat}(hn:n<=9223372036854775807){k:Int->au Int}(h:de k m): de (λl=>cond (decide (ak (l-(n:Int))<0)) (some (-1)) (k (ak (l-(n:Int))))) (n+m):=by intro l h0 h1;simp only;rw[aj (by omega) (by omega)];by_cases hl:l-(n)<0;rw[ax hl];simp only[af,mO];rw[ny];rw[aq hl];simp only[ae];rw[h _ (by omega) (by omega)];simp only[mO];congr 1;split<;>split<;>omega
theorem de.sub {k:Int->au Int}{n m:Nat}(hf:de f n)(h:de k m):de (λl=>aa (f l) λr=>cond (decide (r<0)) (some (-1)) (k r)) (n+m):=by
 intro l h0 h1;simp only;rw[hf l h0 h1,ab];by_cases hl:(n)<=l;have e:mO l n=l-n:=by simp[mO,hl]
 rw[e,fG];simp only[ae];rw[h _ (by omega) (by omega)];simp only[mO];congr 1;split<;>split<;>omega;have e:mO l n= -1:=by simp[mO,hl]
 rw[e];simp only[mO];rw[ny];rfl
theorem de.cast {n m:Nat}(h:de f n)(e:n=m):de f m:=e▸h
theorem de.list {f:α->Int->au Int}{s:α->Nat}{a:ar α}(hm:a.length<=9223372036854775807)(hf:∀x∈a,de (f x) (s x)):de (Uo f a) (a.length+(a.map s).sum):=λ_ h0 h1=>WC h0 h1 hm (λx hx l h0 h1=>⟨_,hf x hx l h0 h1,λh=>by simp[mO,h],λh=>by simp[mO,h]⟩)
theorem de.flat {n:Nat}(hn:n<=9223372036854775807):de (λl=>cond (decide (ak (l-(n:Int))<0)) (some (-1)) (some (ak (l-(n:Int))))) n:=(de.len hn de.nil).cast (by omega)
theorem de.strs {a:ar (ar UInt8)}(hm:pJ (.sl .str) a):de (Uo (λx l=>some (ak (l-(x.length:Int)))) a) (mm (.sl .str) a):=λ_ h0 h1=>WC h0 h1 hm.1 (λx hx l h0 h1=>⟨l-x.length,by have:x.length<=9223372036854775807:=hm.2 x hx;grind[aj],λ_=>rfl,λh=>by grind[mm]⟩)
theorem de.use {n:Nat}(hf:de f n){l:Int}(h0:0<=l)(h1:l<=1048576){k:Int->au Bool}(hk:(n:Int)<=l->k (l-n)=some true): (aa (f l) λr=>cond (decide (r<0)) (some true) (k r))=some true:=by
 rw[hf l h0 h1,ab];by_cases hl:(n)<=l;have e:mO l n=l-n:=by simp[mO,hl]
 rw[e,fG];exact hk hl;have e:mO l n= -1:=by simp[mO,hl]
 rw[e];rfl
theorem L1 {T:(Int->au R)->Int->au R}{fin hit:au R}(p:α->Bool)(a:ar α)(h:a.length<=1000000000000)(hs:∀i (hi:i<a.length) nx,T nx (i:Int)=cond (p a[i]) hit (nx ((i+1:Nat):Int)))(hf:∀nx,T nx (a.length:Int)=fin): aH T fuel 0=cond (a.any p) hit fin:=by
 have Ae:=da;have key:∀n i,i<=a.length->a.length-i<n->aH T n (i)=cond ((a.drop i).any p) hit fin:=by
  intro n;induction n with
  |zero=>intro i _ h;omega
  |succ n ih=>
   intro i hi hn;rw[aH];rcases bS i a.length with iJ|Fp;rw[hs i iJ,cg iJ,List.any_cons];cases hq:p a[i]with|true=>rfl|false=>exact ih (i+1) (by omega) (by omega)
   have:i=a.length:=by omega
   subst this;rw[hf,List.drop_length];rfl
 exact key fuel 0 (by omega) (by omega)
theorem gV {T:(Int->au R)->Int->au R}{fin hit:au R}(p:Nat->Bool)(N:Nat)(h:N<=1000000000000)(hs:∀i nx,i<N->T nx (i:Int)=cond (!(p i)) hit (nx ((i+1:Nat):Int)))(hf:∀nx,T nx (N:Int)=fin): aH T fuel 0=cond ((range N).all p) fin hit:=by
 have Ae:=da;have key:∀n i,i<=N->N-i<n->aH T n (i)=cond ((List.range' i (N-i)).all p) fin hit:=by
  intro n;induction n with
  |zero=>intro i _ h;omega
  |succ n ih=>
   intro i hi hn;rw[aH];rcases bS i N with iJ|Fp;rw[hs i _ iJ,show N-i=(N-(i+1))+1 by omega,List.range'_succ,bV];cases hq:p i with|false=>rfl|true=>exact ih (i+1) (by omega) (by omega)
   have:i=N:=by omega
   subst this;rw[hf,hZ];rfl
 have:=key fuel 0 (by omega) (by omega);rw[Nat.sub_zero,<-List.range_eq_range']at this;exact this
theorem vI {T:(Int->au R)->Int->au R}{fin hit:au R}(p:α->Bool)(a:ar α)(h:a.length<=1000000000000)(hs:∀i (hi:i<a.length) nx,T nx (i:Int)=cond (!(p a[i])) hit (nx ((i+1:Nat):Int)))(hf:∀nx,T nx (a.length:Int)=fin): aH T fuel 0=cond (a.all p) fin hit:=by have:=L1 (λx=> !(p x)) a h hs hf;grind
theorem M8 {T:(X->au R)->X->au R}{fin hit:au R}(e:Nat->X)(p:Nat->Bool)(N:Nat)(h:N<=1000000000000)(hs:∀i nx,i<N->(∀j,j<i->p j=true)->T nx (e i)=cond (!(p i)) hit (nx (e (i+1))))(hf:(∀j,j<N->p j=true)->∀nx,T nx (e N)=fin): aH T fuel (e 0)=cond ((range N).all p) fin hit:=by
 have Ae:=da;have key:∀n i,i<=N->N-i<n->(∀j,j<i->p j=true)->aH T n (e i)=cond ((List.range' i (N-i)).all p) fin hit:=by
  intro n;induction n with
  |zero=>intro i _ h;omega
  |succ n ih=>
   intro i hi hn hp;rw[aH];rcases bS i N with iJ|Fp;rw[hs i _ iJ hp,show N-i=(N-(i+1))+1 by omega,List.range'_succ,bV];cases hq:p i with|false=>rfl|true=>refine ih (i+1) (by omega) (by omega) λj hj=>?_;by_cases hji:j=i;rw[hji];exact hq;exact hp j (by omega)
   have:i=N:=by omega
   subst this;rw[hf hp,hZ];rfl
 have:=key fuel 0 (by omega) (by omega) (λj hj=>absurd hj (by omega));rw[Nat.sub_zero,<-List.range_eq_range']at this;exact this
theorem Ge {T:(Int->au R)->Int->au R}{fin:au R}{hit:Int->au R}(p:α->Bool)(a:ar α)(h:a.length<=1000000000000)(hs:∀i (hi:i<a.length) nx,T nx (i:Int)=cond (p a[i]) (hit (i:Int)) (nx ((i+1:Nat):Int)))(hf:∀nx,T nx (a.length:Int)=fin): aH T fuel 0=(match a.findIdx? p with|some i=>hit (i:Int)|none=>fin):=by
 have Ae:=da;have key:∀n i,i<=a.length->a.length-i<n->aH T n (i)=(match (a.drop i).findIdx? p with|some j=>hit ((i+j:Nat))|none=>fin):=by
  intro n;induction n with
  |zero=>intro i _ h;omega
  |succ n ih=>
   intro i hi hn;rw[aH];rcases bS i a.length with iJ|Fp;rw[hs i iJ,cg iJ,List.findIdx?_cons];cases hq:p a[i]with|true=>rfl|false=>have:=ih (i+1) (by omega) (by omega);refine this.trans ?_;cases (a.drop (i+1)).findIdx? p with|none=>rfl|some j=>simp only[dB,bg,cE];congr 2;omega
   have:i=a.length:=by omega
   subst this;rw[hf,List.drop_length];rfl
 have:=key fuel 0 (by omega) (by omega);refine this.trans ?_;rw[fJ];cases a.findIdx? p with|none=>rfl|some j=>simp only[cv]
theorem cF (a b:Bool):(bif a then b else false)=(a&&b):=by cases a<;>rfl
theorem cT (a b:Bool):(bif a then true else b)=(a||b):=by cases a<;>rfl
theorem cN (a b:Bool):(bif a then false else b)=(!a&&b):=by cases a<;>rfl
def TQ (g:α->σ->Except (au R) σ)(fin:σ->au R):ar α->σ->au R
 |[],s=>fin s
 |x::xs,s=>match g x s with| .error r=>r| .ok s'=>TQ g fin xs s'
theorem vu {T:(X->au R)->X->au R}(xs:ar α)(e:σ->Nat->X)(Inv:Nat->σ->Prop)(g:α->σ->Except (au R) σ)(fin:σ->au R)(h:xs.length<=1000000000000)(hs:∀i (hi:i<xs.length) s nx,Inv i s->T nx (e s i)=match g xs[i] s with| .error r=>r| .ok s'=>nx (e s' (i+1)))(hn:∀i (hi:i<xs.length) s s',Inv i s->g xs[i] s=.ok s'->Inv (i+1) s')(hf:∀s nx,Inv xs.length s->T nx (e s xs.length)=fin s)(s:σ)(h0:Inv 0 s): aH T fuel (e s 0)=TQ g fin xs s:=by
 have key:∀n i s,i<=xs.length->xs.length-i<n->Inv i s->aH T n (e s i)=TQ g fin (xs.drop i) s:=by
  intro n;induction n with
  |zero=>intro i s _ h;omega
  |succ n ih=>
   intro i s hi Fq hI;rw[aH];rcases bS i xs.length with iJ|Fp;rw[hs i iJ s _ hI,cg iJ,TQ];cases hg:g xs[i] s with|error r=>rfl|ok s'=>exact ih (i+1) s' (by omega) (by omega) (hn i iJ s s' hI hg)
   have:i=xs.length:=by omega
   subst this;rw[hf s _ hI,List.drop_length,TQ]
 have Ae:=da;have:=key fuel 0 s (by omega) (by omega) h0;rwa[fJ]at this
theorem KE (f:σ->α->σ)(fin:σ->au R):∀(xs:ar α)(s:σ),TQ (λx s=> .ok (f s x)) fin xs s=fin (xs.foldl f s)
 |[],_=>rfl
 |x::xs,s=>by exact KE f fin xs (f s x)
theorem bz {T:(X->au R)->X->au R}{fin:au R}(e:Nat->X)(N:Nat)(h:N<=1000000000000)(hs:∀i nx,i<N->T nx (e i)=nx (e (i+1)))(hf:∀nx,T nx (e N)=fin):aH T fuel (e 0)=fin:=by rw[M8 (hit:=fin) e (λ_=>true) N h (λi nx hi _=>by rw[hs i nx hi];rfl) (λ_ nx=>hf nx)];grind
theorem fb {l:ar α}{k:au R}(h:l.length<=10^9):room (List.length ([]:ar α)+l.length) k=k:=aQ (by grind)
theorem KV (a:cI)(hm:pJ (.sl (.int .i64)) a):de (oh a) (mm (.sl (.int .i64)) a):=(de.flat (n:=a.length) hm.1).cast (by simp only[mm];rw[EC (λx _=>by simp only[mm])];rfl)
theorem KW (a:bp)(hm:pJ (.sl .str) a):de (qp a) (mm (.sl .str) a):=de.strs hm
theorem akU (a:bp)(hm:pJ (.sl .str) a):de (DC a) (mm (.sl .str) a):=
 de.cast (f:=DC a) (de.sub (KW a hm) de.nil) (by simp only[mm];try omega)
theorem aen (a:ar aC)(hm:pJ (.sl eG) a):de (E0 a) (mm (.sl eG) a):=(de.flat (n:=a.length) hm.1).cast (by simp only[mm];rw[EC (λx _=>by simp only[mm])];rfl)
theorem ait (a:cJ)(hm:pJ jT a):de (zN a) (mm jT a):=
 de.cast (f:=zN a) (de.sub (KV a.2.2.2 hm.2.2.2) de.nil) (by simp only[mm];try omega)
theorem apt (a:ie)(hm:pJ kZ a):de (En a) (mm kZ a):=
 de.cast (f:=En a) (de.sub (KV a.2.2 hm.2.2) de.nil) (by simp only[mm];try omega)
theorem an2 (a:ar ie)(hm:pJ (.sl kZ) a):de (Km a) (mm (.sl kZ) a):=de.list (f:=En) (s:=mm kZ) hm.1 (λx hx=>apt x (hm.2 x hx))
theorem ahh (a:bX)(hm:pJ uz a):de (BH a) (mm uz a):=
 de.cast (f:=BH a) (de.sub (ait a.2.1 hm.2.1) (de.sub (an2 a.2.2.1 hm.2.2.1) de.nil)) (by simp only[mm];try omega)
theorem ahf (a:ej)(hm:pJ I0 a):de (BG a) (mm I0 a):=
 de.cast (f:=BG a) (de.len (n:=a.2.2.2.2.2.2.2.length) hm.2.2.2.2.2.2.2 de.nil) (by simp only[mm];try omega)
theorem Zu (a:aR)(hm:pJ Fk a):de (xU a) (mm Fk a):=
 de.cast (f:=xU a) (de.sub (ahf a.2.2.2.2.2.2.2.2 hm.2.2.2.2.2.2.2.2) de.nil) (by simp only[mm];try omega)
theorem an4 (a:kY)(hm:pJ OI a):de (FI a) (mm OI a):=
 de.cast (f:=FI a) (de.sub (Zu a.1 hm.1) de.nil) (by simp only[mm];try omega)
theorem ahe (a:bk)(hm:pJ dR a):de (vl a) (mm dR a):=
 de.cast (f:=vl a) (de.sub (an4 a.2.2.2.1 hm.2.2.2.1) de.nil) (by simp only[mm];try omega)
theorem aeo (a:ar bk)(hm:pJ (.sl dR) a):de (E1 a) (mm (.sl dR) a):=de.list (f:=vl) (s:=mm dR) hm.1 (λx hx=>ahe x (hm.2 x hx))
theorem an0 (a:ar cJ)(hm:pJ (.sl jT) a):de (Kk a) (mm (.sl jT) a):=de.list (f:=zN) (s:=mm jT) hm.1 (λx hx=>ait x (hm.2 x hx))
theorem ahi (a:ar Vector)(hm:pJ (.sl gZ) a):de (Hd a) (mm (.sl gZ) a):=(de.flat (n:=a.length) hm.1).cast (by simp only[mm];rw[EC (λx _=>by simp only[mm])];rfl)
theorem anX (a:ar Bool)(hm:pJ (.sl .bool) a):de (Ki a) (mm (.sl .bool) a):=(de.flat (n:=a.length) hm.1).cast (by simp only[mm];rw[EC (λx _=>by simp only[mm])];rfl)
theorem Zt (a:Filter)(hm:pJ Ag a):de (xT a) (mm Ag a):=
 de.cast (f:=xT a) (de.sub (KV a.2.2 hm.2.2) de.nil) (by simp only[mm];try omega)
theorem an1 (a:ar gF)(hm:pJ (.sl tu) a):de (Kl a) (mm (.sl tu) a):=(de.flat (n:=a.length) hm.1).cast (by simp only[mm];rw[EC (λx _=>by simp only[mm])];rfl)
theorem an3 (a:ar Slot)(hm:pJ (.sl np) a):de (Kn a) (mm (.sl np) a):=(de.flat (n:=a.length) hm.1).cast (by simp only[mm];rw[EC (λx _=>by simp only[mm])];rfl)
theorem abg (a:ar Slot)(hm:pJ (.sl np) a):de (wD a) (mm (.sl np) a):=
 de.cast (f:=wD a) (de.sub (an3 a hm) de.nil) (by simp only[mm];try omega)
theorem akV (a:jN)(hm:pJ M7 a):de (DD a) (mm M7 a):=
 de.cast (f:=DD a) (de.len (n:=a.1.length) hm.1 (de.sub (KV a.2 hm.2) de.nil)) (by simp only[mm];try omega)
theorem aep (a:fI)(hm:pJ pN a):de (yI a) (mm pN a):=
 de.cast (f:=yI a) (de.sub (an1 a.1 hm.1) (de.sub (abg a.2.1 hm.2.1) (de.sub (akV a.2.2 hm.2.2) de.nil))) (by simp only[mm];try omega)
theorem akW (a:Stream)(hm:pJ eD a):de (xV a) (mm eD a):=
 de.cast (f:=xV a) (de.len (n:=a.2.2.1.length) hm.2.2.1 de.nil) (by simp only[mm];try omega)
theorem ahg (a:ar Stream)(hm:pJ (.sl eD) a):de (Hc a) (mm (.sl eD) a):=de.list (f:=xV) (s:=mm eD) hm.1 (λx hx=>akW x (hm.2 x hx))
theorem aps (a:Host)(hm:pJ cS a):de (Em a) (mm cS a):=
 de.cast (f:=Em a) (de.sub (akU a.1 hm.1) (de.sub (aen a.2.1 hm.2.1) (de.sub (ahh a.2.2.1 hm.2.2.1) (de.sub (aeo a.2.2.2.1 hm.2.2.2.1) (de.sub (an0 a.2.2.2.2.1 hm.2.2.2.2.1) (de.sub (ahi a.2.2.2.2.2.1 hm.2.2.2.2.2.1) (de.sub (anX a.2.2.2.2.2.2.1 hm.2.2.2.2.2.2.1) (de.sub (Zt a.2.2.2.2.2.2.2.1 hm.2.2.2.2.2.2.2.1) (de.sub (aep a.2.2.2.2.2.2.2.2.1 hm.2.2.2.2.2.2.2.2.1) (de.sub (ahg a.2.2.2.2.2.2.2.2.2.1 hm.2.2.2.2.2.2.2.2.2.1) (de.sub (KW a.2.2.2.2.2.2.2.2.2.2.2.1 hm.2.2.2.2.2.2.2.2.2.2.2.1) (de.sub (KV a.2.2.2.2.2.2.2.2.2.2.2.2.1 hm.2.2.2.2.2.2.2.2.2.2.2.2.1) (de.sub (KV a.2.2.2.2.2.2.2.2.2.2.2.2.2.1 hm.2.2.2.2.2.2.2.2.2.2.2.2.2.1) de.nil))))))))))))) (by simp only[mm];try omega)
theorem anZ (a:ar Host)(hm:pJ (.sl cS) a):de (Kj a) (mm (.sl cS) a):=de.list (f:=Em) (s:=mm cS) hm.1 (λx hx=>aps x (hm.2 x hx))
theorem NZ (a:ar az)(hm:pJ (.sl cA) a):de (qq a) (mm (.sl cA) a):=(de.flat (n:=a.length) hm.1).cast (by simp only[mm];rw[EC (λx _=>by simp only[mm])];rfl)
theorem ahd (a:bC)(hm:pJ fQ a):de (vk a) (mm fQ a):=
 de.cast (f:=vk a) (de.sub (Zt a.1 hm.1) de.nil) (by simp only[mm];try omega)
theorem aem (a:ar bC)(hm:pJ (.sl fQ) a):de (EZ a) (mm (.sl fQ) a):=de.list (f:=vk) (s:=mm fQ) hm.1 (λx hx=>ahd x (hm.2 x hx))
theorem anY (a:bp)(hm:pJ (.sl .str) a):de (FG a) (mm (.sl .str) a):=
 de.cast (f:=FG a) (de.sub (KW a hm) de.nil) (by simp only[mm];try omega)
theorem apr (a:cn)(hm:pJ gB a):de (H4 a) (mm gB a):=
 de.cast (f:=H4 a) (de.sub (anZ a.1 hm.1) (de.sub (NZ a.2.1 hm.2.1) (de.sub (aem a.2.2.1 hm.2.2.1) (de.sub (anY a.2.2.2.1 hm.2.2.2.1) (de.sub (KV a.2.2.2.2.2.1 hm.2.2.2.2.2.1) (de.sub (KW a.2.2.2.2.2.2 hm.2.2.2.2.2.2) de.nil)))))) (by simp only[mm];try omega)
theorem uo (a:cI)(h:bt 1048576 (.sl (.int .i64)) a):om a=some a:=Pq (z:=0) (aF h.1 (by omega))
theorem vF (a:bp)(h:bt 1048576 (.sl .str) a):qw a=some a:=Pq (z:=([]:Bytes)) (aF h.1 (by omega))
theorem Zy (a:bp)(h:bt 1048576 (.sl .str) a):xW a=some a:=by first|(simp only[xW,vF _ h,ab];done)|(simp only[xW,vF _ h,ab];rfl)
theorem ahm (a:aC)(h:bt 1048576 eG a):BJ a=some a:=rfl
theorem Ts (a:ar aC)(h:bt 1048576 (.sl eG) a):E4 a=some a:=kh (f:=BJ) (z:=(0,0,0,false)) (aF h.1 (by omega)) (λx hx=>ahm x (h.2 x hx))
theorem Us (a:cU)(h:bt 1048576 zg a):H8 a=some a:=rfl
theorem abl (a:cJ)(h:bt 1048576 jT a):vm a=some a:=by first|(simp only[vm,uo _ h.2.2.2,ab];done)|(simp only[vm,uo _ h.2.2.2,ab];rfl)
theorem apB (a:ie)(h:bt 1048576 kZ a):zP a=some a:=by first|(simp only[zP,uo _ h.2.2,ab];done)|(simp only[zP,uo _ h.2.2,ab];rfl)
theorem aeC (a:ar ie)(h:bt 1048576 (.sl kZ) a):Ku a=some a:=kh (f:=zP) (z:=(0,0,([]:cI))) (aF h.1 (by omega)) (λx hx=>apB x (h.2 x hx))
theorem WN (a:bX)(h:bt 1048576 uz a):vn a=some a:=by first|(simp only[vn,Us _ h.1,abl _ h.2.1,aeC _ h.2.2.1,ab];done)|(simp only[vn,Us _ h.1,abl _ h.2.1,aeC _ h.2.2.1,ab];rfl)
theorem sf (a:dX)(h:bt 1048576 mW a):me a=some a:=rfl
theorem WL (a:ej)(h:bt 1048576 I0 a):Hk a=some a:=rfl
theorem NP (a:aR)(h:bt 1048576 Fk a):sV a=some a:=by first|(simp only[sV,WL _ h.2.2.2.2.2.2.2.2,ab];done)|(simp only[sV,WL _ h.2.2.2.2.2.2.2.2,ab];rfl)
theorem aeE (a:kY)(h:bt 1048576 OI a):BK a=some a:=by first|(simp only[BK,NP _ h.1,ab];done)|(simp only[BK,NP _ h.1,ab];rfl)
theorem ahn (a:bk)(h:bt 1048576 dR a):qv a=some a:=by first|(simp only[qv,Us _ h.1,sf _ h.2.1,sf _ h.2.2.1,aeE _ h.2.2.2.1,ab];done)|(simp only[qv,Us _ h.1,sf _ h.2.1,sf _ h.2.2.1,aeE _ h.2.2.2.1,ab];rfl)
theorem Tt (a:ar bk)(h:bt 1048576 (.sl dR) a):E5 a=some a:=kh (f:=qv) (z:=((0,0,0,0),(0,0,0),(0,0,0),((0,0,0,0,0,0,0,0,0,0,0,0,0,0,0,([]:Bytes)),0,0),false,0)) (aF h.1 (by omega)) (λx hx=>ahn x (h.2 x hx))
theorem aeA (a:ar cJ)(h:bt 1048576 (.sl jT) a):Ks a=some a:=kh (f:=vm) (z:=(0,0,0,([]:cI))) (aF h.1 (by omega)) (λx hx=>abl x (h.2 x hx))
theorem ak1 (a:Vector)(h:bt 1048576 gZ a):DE a=some a:=rfl
theorem WO (a:ar Vector)(h:bt 1048576 (.sl gZ) a):Hm a=some a:=kh (f:=DE) (z:=(0,0,0,0,false,false)) (aF h.1 (by omega)) (λx hx=>ak1 x (h.2 x hx))
theorem aev (a:ar Bool)(h:bt 1048576 (.sl .bool) a):Ko a=some a:=Pq (z:=false) (aF h.1 (by omega))
theorem NO (a:Filter)(h:bt 1048576 Ag a):sU a=some a:=by first|(simp only[sU,uo _ h.2.2,ab];done)|(simp only[sU,uo _ h.2.2,ab];rfl)
theorem apA (a:gF)(h:bt 1048576 tu a):H9 a=some a:=rfl
theorem aeB (a:ar gF)(h:bt 1048576 (.sl tu) a):Kt a=some a:=kh (f:=H9) (z:=(0,0,0,0,0,0,0,0,0)) (aF h.1 (by omega)) (λx hx=>apA x (h.2 x hx))
theorem Ur (a:gM)(h:bt 1048576 IZ a):H7 a=some a:=rfl
theorem apC (a:Slot)(h:bt 1048576 np a):zQ a=some a:=by first|(simp only[zQ,Ur _ h.2.1,ab];done)|(simp only[zQ,Ur _ h.2.1,ab];rfl)
theorem aeD (a:ar Slot)(h:bt 1048576 (.sl np) a):Kv a=some a:=kh (f:=zQ) (z:=(0,(0,0,0,0,0),0)) (aF h.1 (by omega)) (λx hx=>apC x (h.2 x hx))
theorem Rd (a:ar Slot)(h:bt 1048576 (.sl np) a):qt a=some a:=by first|(simp only[qt,aeD _ h,ab];done)|(simp only[qt,aeD _ h,ab];rfl)
theorem Zz (a:jN)(h:bt 1048576 M7 a):xX a=some a:=by first|(simp only[xX,uo _ h.2,ab];done)|(simp only[xX,uo _ h.2,ab];rfl)
theorem Tu (a:fI)(h:bt 1048576 pN a):sB a=some a:=by first|(simp only[sB,aeB _ h.1,Rd _ h.2.1,Zz _ h.2.2,ab];done)|(simp only[sB,aeB _ h.1,Rd _ h.2.1,Zz _ h.2.2,ab];rfl)
theorem ak0 (a:Stream)(h:bt 1048576 eD a):sW a=some a:=by first|(simp only[sW,Ur _ h.1,ab];done)|(simp only[sW,Ur _ h.1,ab];rfl)
theorem WM (a:ar Stream)(h:bt 1048576 (.sl eD) a):Hl a=some a:=kh (f:=sW) (z:=((0,0,0,0,0),0,([]:Bytes),false)) (aF h.1 (by omega)) (λx hx=>ak0 x (h.2 x hx))
theorem Tq (a:gM)(h:bt 1048576 IZ a):E2 a=some a:=rfl
theorem apz (a:Host)(h:bt 1048576 cS a):zO a=some a:=by first|(simp only[zO,Zy _ h.1,Ts _ h.2.1,WN _ h.2.2.1,Tt _ h.2.2.2.1,aeA _ h.2.2.2.2.1,WO _ h.2.2.2.2.2.1,aev _ h.2.2.2.2.2.2.1,NO _ h.2.2.2.2.2.2.2.1,Tu _ h.2.2.2.2.2.2.2.2.1,WM _ h.2.2.2.2.2.2.2.2.2.1,vF _ h.2.2.2.2.2.2.2.2.2.2.2.1,uo _ h.2.2.2.2.2.2.2.2.2.2.2.2.1,uo _ h.2.2.2.2.2.2.2.2.2.2.2.2.2.1,Tq _ h.2.2.2.2.2.2.2.2.2.2.2.2.2.2,ab];done)|(simp only[zO,Zy _ h.1,Ts _ h.2.1,WN _ h.2.2.1,Tt _ h.2.2.2.1,aeA _ h.2.2.2.2.1,WO _ h.2.2.2.2.2.1,aev _ h.2.2.2.2.2.2.1,NO _ h.2.2.2.2.2.2.2.1,Tu _ h.2.2.2.2.2.2.2.2.1,WM _ h.2.2.2.2.2.2.2.2.2.1,vF _ h.2.2.2.2.2.2.2.2.2.2.2.1,uo _ h.2.2.2.2.2.2.2.2.2.2.2.2.1,uo _ h.2.2.2.2.2.2.2.2.2.2.2.2.2.1,Tq _ h.2.2.2.2.2.2.2.2.2.2.2.2.2.2,ab];rfl)
theorem aez (a:ar Host)(h:bt 1048576 (.sl cS) a):Kr a=some a:=kh (f:=zO) (z:=(([]:bp),([]:ar aC),((0,0,0,0),(0,0,0,([]:cI)),([]:ar ie),0),([]:ar bk),([]:ar cJ),([]:ar Vector),([]:ar Bool),(0,false,([]:cI)),(([]:ar gF),([]:ar Slot),([]:Bytes),([]:cI)),([]:ar Stream),false,([]:bp),([]:cI),([]:cI),0,0,0,0,0)) (aF h.1 (by omega)) (λx hx=>apz x (h.2 x hx))
theorem Zx (a:dX)(h:bt 1048576 mW a):IE a=some a:=rfl
theorem Pr (a:az)(h:bt 1048576 cA a):iu a=some a:=by first|(simp only[iu,Zx _ h.2.2.1,ab];done)|(simp only[iu,Zx _ h.2.2.1,ab];rfl)
theorem Fi (a:ar az)(h:bt 1048576 (.sl cA) a):qx a=some a:=kh (f:=iu) (z:=(0,0,(0,0,0),false,0,0)) (aF h.1 (by omega)) (λx hx=>Pr x (h.2 x hx))
theorem ahl (a:bC)(h:bt 1048576 fQ a):qu a=some a:=by first|(simp only[qu,NO _ h.1,ab];done)|(simp only[qu,NO _ h.1,ab];rfl)
theorem Tr (a:ar bC)(h:bt 1048576 (.sl fQ) a):E3 a=some a:=kh (f:=qu) (z:=((0,false,([]:cI)),0,0,0)) (aF h.1 (by omega)) (λx hx=>ahl x (h.2 x hx))
theorem aey (a:bp)(h:bt 1048576 (.sl .str) a):BI a=some a:=by first|(simp only[BI,vF _ h,ab];done)|(simp only[BI,vF _ h,ab];rfl)
theorem aex (a:cU)(h:bt 1048576 zg a):Kq a=some a:=rfl
theorem apy (a:cn)(h:bt 1048576 gB a):rf a=some a:=by first|(simp only[rf,aez _ h.1,Fi _ h.2.1,Tr _ h.2.2.1,aey _ h.2.2.2.1,aex _ h.2.2.2.2.1,uo _ h.2.2.2.2.2.1,vF _ h.2.2.2.2.2.2,ab];done)|(simp only[rf,aez _ h.1,Fi _ h.2.1,Tr _ h.2.2.1,aey _ h.2.2.2.1,aex _ h.2.2.2.2.1,uo _ h.2.2.2.2.2.1,vF _ h.2.2.2.2.2.2,ab];rfl)
theorem HN (a:cI)(h:bt 1000000000000 (.sl (.int .i64)) a):jG a a=some true:=JR h.1
theorem JS (a:bp)(h:bt 1000000000000 (.sl .str) a):ql a a=some true:=JR h.1
theorem aiU (a:bp)(h:bt 1000000000000 (.sl .str) a):Dz a a=some true:=by simp[Dz,JS _ h]
theorem afl (a:aC)(h:bt 1000000000000 eG a):uX a a=some true:=by simp[uX]
theorem abT (a:ar aC)(h:bt 1000000000000 (.sl eG) a):EW a a=some true:=ik (f:=uX) h.1 (λx hx=>afl x (h.2 x hx))
theorem ahG (a:cU)(h:bt 1000000000000 zg a):Ei a a=some true:=by simp[Ei]
theorem ahF (a:cJ)(h:bt 1000000000000 jT a):zM a a=some true:=by simp[zM,HN _ h.2.2.2]
theorem aoC (a:ie)(h:bt 1000000000000 kZ a):Ek a a=some true:=by simp[Ek,HN _ h.2.2]
theorem alI (a:ar ie)(h:bt 1000000000000 (.sl kZ) a):Kf a a=some true:=ik (f:=Ek) h.1 (λx hx=>aoC x (h.2 x hx))
theorem afq (a:bX)(h:bt 1000000000000 uz a):Bf a a=some true:=by simp[Bf,ahG _ h.1,ahF _ h.2.1,alI _ h.2.2.1]
theorem Gz (a:dX)(h:bt 1000000000000 mW a):jq a a=some true:=by simp[jq]
theorem afo (a:ej)(h:bt 1000000000000 I0 a):Be a a=some true:=by simp[Be]
theorem X5 (a:aR)(h:bt 1000000000000 Fk a):xP a a=some true:=by simp[xP,afo _ h.2.2.2.2.2.2.2.2]
theorem alK (a:kY)(h:bt 1000000000000 OI a):FF a a=some true:=by simp[FF,X5 _ h.1]
theorem afn (a:bk)(h:bt 1000000000000 dR a):uY a a=some true:=by simp[uY,ahG _ h.1,Gz _ h.2.1,Gz _ h.2.2.1,alK _ h.2.2.2.1]
theorem abU (a:ar bk)(h:bt 1000000000000 (.sl dR) a):EX a a=some true:=ik (f:=uY) h.1 (λx hx=>afn x (h.2 x hx))
theorem alG (a:ar cJ)(h:bt 1000000000000 (.sl jT) a):Kd a a=some true:=ik (f:=zM) h.1 (λx hx=>ahF x (h.2 x hx))
theorem aiX (a:Vector)(h:bt 1000000000000 gZ a):xR a a=some true:=by simp[xR]
theorem afr (a:ar Vector)(h:bt 1000000000000 (.sl gZ) a):G2 a a=some true:=ik (f:=xR) h.1 (λx hx=>aiX x (h.2 x hx))
theorem alC (a:ar Bool)(h:bt 1000000000000 (.sl .bool) a):Kb a a=some true:=JR h.1
theorem X4 (a:Filter)(h:bt 1000000000000 Ag a):xO a a=some true:=by simp[xO,HN _ h.2.2]
theorem aoB (a:gF)(h:bt 1000000000000 tu a):Ej a a=some true:=by simp[Ej]
theorem alH (a:ar gF)(h:bt 1000000000000 (.sl tu) a):Ke a a=some true:=ik (f:=Ej) h.1 (λx hx=>aoB x (h.2 x hx))
theorem ahE (a:gM)(h:bt 1000000000000 IZ a):Eg a a=some true:=by simp[Eg]
theorem aoD (a:Slot)(h:bt 1000000000000 np a):El a a=some true:=by simp[El,ahE _ h.2.1]
theorem alJ (a:ar Slot)(h:bt 1000000000000 (.sl np) a):Kg a a=some true:=ik (f:=El) h.1 (λx hx=>aoD x (h.2 x hx))
theorem Z2 (a:ar Slot)(h:bt 1000000000000 (.sl np) a):wx a a=some true:=by simp[wx,alJ _ h]
theorem aiV (a:jN)(h:bt 1000000000000 M7 a):DA a a=some true:=by simp[DA,HN _ h.2]
theorem abV (a:fI)(h:bt 1000000000000 pN a):yH a a=some true:=by simp[yH,alH _ h.1,Z2 _ h.2.1,aiV _ h.2.2]
theorem aiW (a:Stream)(h:bt 1000000000000 eD a):xQ a a=some true:=by simp[xQ,ahE _ h.1]
theorem afp (a:ar Stream)(h:bt 1000000000000 (.sl eD) a):G1 a a=some true:=ik (f:=xQ) h.1 (λx hx=>aiW x (h.2 x hx))
theorem abR (a:gM)(h:bt 1000000000000 IZ a):yG a a=some true:=by simp[yG]
theorem aoA (a:Host)(h:bt 1000000000000 cS a):Eh a a=some true:=by simp[Eh,aiU _ h.1,abT _ h.2.1,afq _ h.2.2.1,abU _ h.2.2.2.1,alG _ h.2.2.2.2.1,afr _ h.2.2.2.2.2.1,alC _ h.2.2.2.2.2.2.1,X4 _ h.2.2.2.2.2.2.2.1,abV _ h.2.2.2.2.2.2.2.2.1,afp _ h.2.2.2.2.2.2.2.2.2.1,JS _ h.2.2.2.2.2.2.2.2.2.2.2.1,HN _ h.2.2.2.2.2.2.2.2.2.2.2.2.1,HN _ h.2.2.2.2.2.2.2.2.2.2.2.2.2.1,abR _ h.2.2.2.2.2.2.2.2.2.2.2.2.2.2]
theorem alF (a:ar Host)(h:bt 1000000000000 (.sl cS) a):Kc a a=some true:=ik (f:=Eh) h.1 (λx hx=>aoA x (h.2 x hx))
theorem aiT (a:dX)(h:bt 1000000000000 mW a):Dy a a=some true:=by simp[Dy]
theorem OV (a:az)(h:bt 1000000000000 cA a):jr a a=some true:=by simp[jr,aiT _ h.2.2.1]
theorem NR (a:ar az)(h:bt 1000000000000 (.sl cA) a):qm a a=some true:=ik (f:=jr) h.1 (λx hx=>OV x (h.2 x hx))
theorem afk (a:bC)(h:bt 1000000000000 fQ a):uW a a=some true:=by simp[uW,X4 _ h.1]
theorem abS (a:ar bC)(h:bt 1000000000000 (.sl fQ) a):EV a a=some true:=ik (f:=uW) h.1 (λx hx=>afk x (h.2 x hx))
theorem alE (a:bp)(h:bt 1000000000000 (.sl .str) a):FE a a=some true:=by simp[FE,JS _ h]
theorem alD (a:cU)(h:bt 1000000000000 zg a):FD a a=some true:=by simp[FD]
theorem ahD (a:cn)(h:bt 1000000000000 gB a):uU a a=some true:=by simp[uU,alF _ h.1,NR _ h.2.1,abS _ h.2.2.1,alE _ h.2.2.2.1,alD _ h.2.2.2.2.1,HN _ h.2.2.2.2.2.1,JS _ h.2.2.2.2.2.2]
theorem aq3 (a:Act)(hm:pJ aeQ a):de (Kh a) (mm aeQ a):=
 de.cast (f:=Kh a) (de.sub (Zu a.2.1 hm.2.1) (de.len (n:=a.2.2.2.2.1.length) hm.2.2.2.2.1 de.nil)) (by simp only[mm];try omega)
theorem ahc (a:dm)(hm:pJ gn a):de (vj a) (mm gn a):=
 de.cast (f:=vj a) (de.sub (aq3 a.2.2.1 hm.2.2.1) (de.len (n:=a.2.2.2.2.1.length) hm.2.2.2.2.1 de.nil)) (by simp only[mm];try omega)
theorem ael (a:ar dm)(hm:pJ (.sl gn) a):de (EY a) (mm (.sl gn) a):=de.list (f:=vj) (s:=mm gn) hm.1 (λx hx=>ahc x (hm.2 x hx))
theorem aoa (a:Act)(h:bt 1048576 aeQ a):He a=some a:=by first|(simp only[He,NP _ h.2.1,ab];done)|(simp only[He,NP _ h.2.1,ab];rfl)
theorem WK (a:dX)(h:bt 1048576 mW a):Hi a=some a:=rfl
theorem ahk (a:dm)(h:bt 1048576 gn a):qs a=some a:=by first|(simp only[qs,aoa _ h.2.2.1,WK _ h.2.2.2.1,ab];done)|(simp only[qs,aoa _ h.2.2.1,WK _ h.2.2.2.1,ab];rfl)
theorem aew (a:ar dm)(h:bt 1048576 (.sl gn) a):nE a=some a:=kh (f:=qs) (z:=(0,0,(0,(0,0,0,0,0,0,0,0,0,0,0,0,0,0,0,([]:Bytes)),0,0,([]:Bytes),0),(0,0,0),([]:Bytes),0)) (aF h.1 (by omega)) (λx hx=>ahk x (h.2 x hx))
theorem aqg (a:Act)(h:bt 1000000000000 aeQ a):Ka a a=some true:=by simp[Ka,X5 _ h.2.1]
theorem afm (a:dX)(h:bt 1000000000000 mW a):Bd a a=some true:=by simp[Bd]
theorem afj (a:dm)(h:bt 1000000000000 gn a):uV a a=some true:=by simp[uV,aqg _ h.2.2.1,afm _ h.2.2.2.1]
theorem abQ (a:ar dm)(h:bt 1000000000000 (.sl gn) a):EU a a=some true:=ik (f:=uV) h.1 (λx hx=>afj x (h.2 x hx))
def du (a lo hi:Int):Bool:=decide (lo<=a)&&decide (a<=hi)
theorem bq {lo hi:Int}:du a lo hi=true↔lo<=a/\a<=hi:=by simp[du]
theorem cm (a b c:Int):aI a b c=some (du a b c):=by grind[aI,ab,du]
theorem cr (a b c:Int):aB a b c=some (du a b c):=cm a b c
theorem dx {l:ar α}{i:Nat}(h:i<l.length)(d:α):l.getD i d=l[i]:=by grind
def OH (l:cI)(i:Nat):Bool:=du (l.getD i 0) 0 4095&& !(decide (0<i)&&decide (l.getD i 0<=l.getD (i-1) 0))
def il (f:Filter):Bool:=(range f.2.2.length).all (OH f.2.2)&&(du f.1 0 281474976710654&&decide ((f.2.2.length:Int)<=8))
theorem zw (f:Filter)(h:f.2.2.length<=10^9):gz f=some (il f):=by
 unfold gz;rw[gV (fin:=some (du f.1 0 281474976710654&&decide ((f.2.2.length:Int)<=8))) (OH f.2.2) f.2.2.length (by omega) (λi nx hi=>?hs) (λnx=>?hf)]
 case hs=>
  simp only[wM]
  rw[gL,aN hi,aj (n:=(i)+1) (by omega) (by omega)]
  simp only[af,ab,cm,OH,dx hi]
  by_cases h0:0<i
  ·have e:ak ((i)-1)=((i-1:Nat)):=by rw[aj (by omega) (by omega)];omega
   have hp:i-1<f.2.2.length:=by omega
   rw[e,aN hp,ax (show(i:Int)>0 by omega),ax h0,dx hp]
   simp only[af,ab,bj]
   cases du f.2.2[i] 0 4095<;>cases decide (f.2.2[i]<=f.2.2[i-1])<;>rfl
  ·rw[aq (show¬(i:Int)>0 by omega),aq h0]
   cases du f.2.2[i] 0 4095<;>rfl
 case hf=>
  simp only[wM]
  rw[fG]
  simp only[ae,cm,ab,ch]
  cases du f.1 0 281474976710654<;>rfl
 unfold il;cases (range f.2.2.length).all (OH f.2.2)<;>rfl
theorem uK (f:Filter)(h:f.2.2.length<=10^9):iM f=some (il f):=by
 unfold iM;rw[gV (fin:=some (du f.1 0 281474976710654&&decide ((f.2.2.length:Int)<=8))) (OH f.2.2) f.2.2.length (by omega) (λi nx hi=>?hs) (λnx=>?hf)]
 case hs=>
  simp only[vP]
  rw[gL,aN hi,aj (n:=(i)+1) (by omega) (by omega)]
  simp only[af,ab,cr,OH,dx hi]
  by_cases h0:0<i
  ·have e:ak ((i)-1)=((i-1:Nat)):=by rw[aj (by omega) (by omega)];omega
   have hp:i-1<f.2.2.length:=by omega
   rw[e,aN hp,ax (show(i:Int)>0 by omega),ax h0,dx hp]
   simp only[af,ab,bj,ge_iff_le]
   cases du f.2.2[i] 0 4095<;>cases decide (f.2.2[i]<=f.2.2[i-1])<;>rfl
  ·rw[aq (show¬(i:Int)>0 by omega),aq h0]
   cases du f.2.2[i] 0 4095<;>rfl
 case hf=>
  simp only[vP]
  rw[fG]
  simp only[ae,cr,ab,ch]
  cases du f.1 0 281474976710654<;>rfl
 unfold il;cases (range f.2.2.length).all (OH f.2.2)<;>rfl
def Jt (r:gF):Bool:=(oG r).getD false
theorem Ws (r:gF):oG r=some (Jt r):=by simp_all[oG,cm,ch,Jt]
theorem amI (r:gF):HY r=some (Jt r):=Ws r
theorem adG {r:gF}(h:Jt r=true):r.2.2.2.2.2.2.2.1=0\/r.2.2.2.2.2.2.2.2=0:=by
 by_cases h0:r.2.2.2.2.2.2.2.1=0;exact .inl h0;by_cases h1:r.2.2.2.2.2.2.2.2=0;exact .inr h1;exfalso;have e0:(r.2.2.2.2.2.2.2.1==0)=false:=by simp[h0]
 have e1:(r.2.2.2.2.2.2.2.2==0)=false:=by simp[h1]
 revert h;unfold Jt;simp only[oG,cm,ab,ch,e0,e1,ae,fU];have z:∀c:Bool,(bif c then false else false)=false:=by intro c;cases c<;>rfl
 simp only[z];intro h;cases h
def Ht (l:ar gF):Bool:=l.all Jt&&decide ((l.length:Int)<=12)
theorem NH (l:ar gF)(h:l.length<=10^9):B9 l=some (Ht l):=by unfold B9;rw[vI (hit:=some false) (fin:=some (decide ((l.length:Int)<=12))) Jt l (by omega) (λi hi nx=>?hs) (λnx=>?hf)];all_goals grind[E6,aN,aj,ab,Ws,Ht]
theorem Yz (l:ar gF)(h:l.length<=10^9):FA l=some (Ht l):=by rw[<-NH l h];rfl
theorem azJ (x:Int):((BitVec.ofInt 64 x&&&BitVec.ofInt 64 7).toNat:Int)=x%8:=by
 have h7:(BitVec.ofInt 64 7).toNat=2^3-1:=by decide
 rw[BitVec.toNat_and,h7,Nat.and_two_pow_sub_one_eq_mod];grind[BitVec.toNat_ofInt]
theorem arl (x:Int):((gv x&&&gv 7).toNat:Int)=x%8:=azJ x
theorem ao5 (x:Int):jE x 8=some (x%8):=by grind[jE,aj]
def N6 (f:gM):Int:=(f.1%8+f.2.1%8+f.2.2.1%8+f.2.2.2.1%8+f.2.2.2.2%8)%8
theorem acs (f:gM):0<=N6 f/\N6 f<8:=by unfold N6;omega
theorem ap2 {n:Int}(h:0<=n):tmod n 8=n%8:=fu h
theorem anI (f:gM):DR f=some (N6 f):=by
 unfold DR;generalize hL:[f.1,f.2.1,f.2.2.1,f.2.2.2.1,f.2.2.2.2]=L;have hlen:L.length=5:=by rw[<-hL];rfl
 have Ae:=da;have key:=CN (T:=qQ (λ(y2) (y3)=>if 8=0 then none else(some (tmod y2 8))) L) L (λ(s) i=>(s,(i))) (λx s k=>k (ak (s+ak (x%8)))) (λs=>some (tmod s 8)) (λi hi s nx=>by simp only[qQ];rw[gL,aN hi,aj (by omega) (by omega)];grind[ab,arl]) (λs nx=>by grind[qQ]) fuel 0 0 (by omega) (by omega);refine key.trans ?_;rw[<-hL];simp(disch:=omega)[zG,aj,ap2,N6]
theorem amy (f:gM):Dl f=some (N6 f):=by
 unfold Dl;generalize hL:[f.1,f.2.1,f.2.2.1,f.2.2.2.1,f.2.2.2.2]=L;have hlen:L.length=5:=by rw[<-hL];rfl
 have Ae:=da;have key:=CN (T:=qb (λ(y2) (y3)=>if 8=0 then none else(some (tmod y2 8))) L (L.length)) L (λ(s) i=>(s,(i))) (λx s k=>k (ak (s+(x%8)))) (λs=>some (tmod s 8)) (λi hi s nx=>by grind[qb,aN,aj,ab,ao5]) (λs nx=>by grind[qb]) fuel 0 0 (by omega) (by omega);refine key.trans ?_;rw[<-hL];simp(disch:=omega)[zG,aj,ap2,N6]
def gI (t:ar Slot)(i:Nat):Slot:=t.getD i (0,(0,0,0,0,0),0)
theorem CV {t:ar Slot}{i:Nat}(h:i<t.length):gI t i=t[i]:=dx h _
def nn (f:gM)(k:Nat):Nat:=((N6 f).toNat+k)%8
theorem Rk (f:gM)(k:Nat):nn f k<8:=Nat.mod_lt _ (by omega)
theorem aeJ (f:gM)(k:Nat)(h:k<8):tmod (ak (N6 f+(k:Int))) 8=(nn f k:Int):=by have:=acs f;grind[aj,nn]
def sN (s:Slot)(f:gM):Bool:=(s.1==1)&&decide (s.2.1=f)
theorem Z9 (p q:gM):((p.1==q.1)&&((p.2.1==q.2.1)&&((p.2.2.1==q.2.2.1)&&((p.2.2.2.1==q.2.2.2.1)&&((p.2.2.2.2==q.2.2.2.2)&&true)))))=decide (p=q):=by grind
def walk (t:ar Slot)(f:gM):Nat->Nat->Int
 |0,_=> -1
 |n+1,k=>if(gI t (nn f k)).1=0 then-1 else if sN (gI t (nn f k)) f then(nn f k:Int) else walk t f n (k+1)
theorem ad1 (t:ar Slot)(f:gM)(ht:t.length=8):F2 t f=some (walk t f 8 0):=by
 have Ae:=da
 have key:=Nt (T:=yV (λ(y6)=>some (-1)) (λ(y7) (y8)=>some y7) 0 t f) 8 (λ(_) i=>(i))
  (λi s k=>if(gI t (nn f i)).1=0 then some (-1) else if sN (gI t (nn f i)) f then some (nn f i) else k s) (λ_=>some (-1))
  (λi s nx hi=>by
   have hw:nn f i<t.length:=by have:=Rk f i;omega
   simp only[yV,anI];rw[gL,aj (by omega) (by omega)];simp only[af,ab,aeJ f i hi,aN hw,CV hw,Z9,sN,ch,ab];by_cases h0:t[nn f i].1=0;simp[h0];have e0:(t[nn f i].1==0)=false:=by simp[h0]
   rw[e0,aK h0];cases (t[nn f i].1==1)<;>cases decide (t[nn f i].2.1=f)<;>rfl)
  (λs nx=>by rfl)
  fuel 0 () (by omega) (by omega)
 refine key.trans ?_;have main:∀n i,upK (R:=Int) (λi (s) k=>if(gI t (nn f i)).1=0 then some (-1) else if sN (gI t (nn f i)) f then some (nn f i) else k s) (λ_=>some (-1)) 8 n i ()=some (walk t f n i):=by intro n;induction n with|zero=>intro i;rfl|succ n ih=>intro i;rw[upK,walk];split;rfl;split;rfl;exact ih (i+1)
 exact main 8 0
def EM (f:gM):ar Slot->Int->Int
 |[],_=> -1
 |s::r,i=>if sN s f then i else EM f r (i+1)
theorem acS (t:ar Slot)(f:gM)(h:t.length<=10^9):HZ t f=some (EM f t 0):=by
 have Ae:=da;have key:∀n i,i<=t.length->t.length-i<n->aH (Bb (λ(y3)=>some (-1)) (λ(y4) (y5)=>some y4) 0 t ((List.length t)) f) n (i)=some (EM f (t.drop i) i):=by
  intro n;induction n with
  |zero=>intro i _ h;omega
  |succ n ih=>
   intro i hi hn;rw[aH];simp only[Bb];rcases bS i t.length with iJ|Fp;rw[gL,aN iJ,cg iJ,EM,aj (by omega) (by omega)];simp only[af,ab,Z9,ch];have e:(bif t[i].1==1 then decide (t[i].2.1=f) else false)=sN t[i] f:=by unfold sN;cases (t[i].1==1)<;>rfl
   rw[e];cases sN t[i] f with|true=>rfl|false=>exact ih (i+1) (by omega) (by omega)
   have:i=t.length:=by omega
   subst this;rw[fG,List.drop_length];rfl
 exact key fuel 0 (by omega) (by omega)
theorem ao0 (f:gM):Pa f=some ((range 8).map λk=>(nn f k:Int)):=by have Ae:=da;have key:=Nt (T:=Dx (λ(y2) (y3)=>some y2) f) 8 (λ(_) i=>((range i).map (λk=>(nn f k)),(i))) (λ_ s k=>k s) (λ_=>some ((range 8).map λk=>(nn f k))) (λi s nx hi=>by grind[Dx,amy,aj,ab,aeJ,aQ,List.range_succ]) (λs nx=>by rfl) fuel 0 () (by omega) (by omega);exact key
def clear (t:ar Slot)(f:gM)(i:Nat):Nat->Nat->Bool
 |0,_=>true
 |n+1,k=>if nn f k=i then true else if(gI t (nn f k)).1=0 then false else clear t f i n (k+1)
theorem aji (k0:Int->au R)(k1:Bool->Int->au R)(hit fin:au R)(h0:∀x,k0 x=fin)(h1:∀x,k1 false x=hit)(v2:Bool)(i:Nat)(Ut:ar Slot)(XL v14:Int)(t:ar Slot)(f:gM)(ht:t.length=8): aH (qf k0 k1 v2 (i:Int) Ut XL v14 ((range 8).map λk=>(nn f k:Int)) (((range 8).map λk=>(nn f k:Int)).length:Int) t) fuel 0=cond (clear t f i 8 0) fin hit:=by
 have Ae:=da;have hl:((range 8).map λk=>(nn f k:Int)).length=8:=by simp
 have key:=Nt (T:=qf k0 k1 v2 (i) Ut XL v14 ((range 8).map λk=>(nn f k)) (((range 8).map λk=>(nn f k:Int)).length) t) 8 (λ(_) i=>(i))
  (λk s c=>if nn f k=i then fin else if(gI t (nn f k)).1=0 then hit else c s) (λ_=>fin)
  (λk s nx hk=>by
   have hw:nn f k<t.length:=by have:=Rk f k;omega
   simp only[qf];rw[gL,aN (show k<((range 8).map λk=>(nn f k:Int)).length by omega),aj (by omega) (by omega)];simp only[af,ab,List.getElem_map,List.getElem_range,aN hw,CV hw,h0,h1];by_cases e1:nn f k=i;subst e1;simp;have:((nn f k:Int)==(i))=false:=by simp;omega
   rw[this,aK e1];by_cases e2:t[nn f k].1=0;simp[e2];have:(t[nn f k].1==0)=false:=by simp[e2]
   rw[this,aK e2];rfl)
  (λs nx=>by exact h0 _)
  fuel 0 () (by omega) (by omega)
 refine key.trans ?_;have main:∀n k,upK (λk (s) c=>if nn f k=i then fin else if(gI t (nn f k)).1=0 then hit else c s) (λ_=>fin) 8 n k ()=cond (clear t f i n k) fin hit:=by intro n;induction n with|zero=>intro k;rfl|succ n ih=>intro k;rw[upK,clear];split;rfl;split;rfl;exact ih (k+1)
 exact main 8 0
def ab9:gM:=(0,0,0,0,0)
theorem aca (p:gM):((p.1==0)&&((p.2.1==0)&&((p.2.2.1==0)&&((p.2.2.2.1==0)&&((p.2.2.2.2==0)&&true)))))=decide (p=ab9):=Z9 p ab9
def Ze (s:Slot):Bool:=du s.1 0 2&&du s.2.2 0 3&&((s.1==1)||(s.2.2==0)&&decide (s.2.1=ab9))
def qF (t:ar Slot)(i:Nat):Bool:=Ze (gI t i)&&(!((gI t i).1==1)||(walk t (gI t i).2.1 8 0==(i:Int)))
def zJ (t:ar Slot)(i:Nat):Bool:=Ze (gI t i)&&(!((gI t i).1==1)||(EM (gI t i).2.1 t 0==(i:Int))&&clear t (gI t i).2.1 i 8 0)
def Cl (t:ar Slot):Bool:=(t.length==8)&&(range 8).all (qF t)
theorem Zl (t:ar Slot):Cb t=some (Cl t):=by
 unfold Cb Cl;by_cases ht:t.length=8
 ·have e:((t.length:Int) !=8)=false:=by rw[ht];rfl
  have e2:(t.length==8)=true:=by rw[ht];rfl
  rw[e,e2];rw[gV (qF t) 8 (by omega) (λi nx hi=>?hs) (λnx=>?hf)]
  case hs=>
   have hl:i<t.length:=by omega
   simp only[yT]
   rw[gL,aN hl,aj (by omega) (by omega)]
   simp only[af,ab,cm,ch,aca,ad1 t _ ht,qF,CV hl,Ze,bne]
   cases du t[i].1 0 2<;>cases du t[i].2.2 0 3<;>cases (t[i].1==1)<;>cases (t[i].2.2==0)<;>cases decide (t[i].2.1=ab9)<;>first|rfl|(cases (walk t t[i].2.1 8 0==(i))<;>rfl)
  case hf=>
   simp only[yT]
   rw[fG];rfl
  cases (range 8).all (qF t)<;>rfl
 have e:((t.length:Int) !=8)=true:=by simp;omega
 have e2:(t.length==8)=false:=by simp[ht]
 rw[e,e2];rfl
theorem afW (t:ar Slot):wg t=some ((t.length==8)&&(range 8).all (zJ t)):=by
 unfold wg;by_cases ht:t.length=8
 ·have e:((t.length:Int) !=8)=false:=by rw[ht];rfl
  have e2:(t.length==8)=true:=by rw[ht];rfl
  rw[e,e2];rw[gV (zJ t) 8 (by omega) (λi nx hi=>?hs) (λnx=>?hf)]
  case hs=>
   have hl:i<t.length:=by omega
   simp only[yC]
   rw[gL,aN hl,aj (by omega) (by omega)]
   simp only[af,ab,cr,ch,aca,acS t _ (show t.length<=10^9 by omega),ao0,zJ,CV hl,Ze,bne]
   rw[aji (λ_=>nx ((i)+1)) (λ(y) (_)=>some y) (some false) (nx ((i)+1)) (λ_=>rfl) (λ_=>rfl) _ _ _ _ _ _ _ ht]
   cases du t[i].1 0 2<;>cases du t[i].2.2 0 3<;>cases (t[i].1==1)<;>cases (t[i].2.2==0)<;>cases decide (t[i].2.1=ab9)<;>first|rfl|(cases (EM t[i].2.1 t 0==(i))<;>first|rfl|(cases clear t t[i].2.1 i 8 0<;>rfl))
  case hf=>
   simp only[yC]
   rw[fG];rfl
  cases (range 8).all (zJ t)<;>rfl
 have e:((t.length:Int) !=8)=true:=by simp;omega
 have e2:(t.length==8)=false:=by simp[ht]
 rw[e,e2];rfl
theorem ZD (t:ar Slot)(f:gM)(i:Nat):∀n k,walk t f n k=(i:Int)->sN (gI t i) f=true/\clear t f i n k=true/\∃j,j<n/\nn f (k+j)=i
 |0,k,h=>by unfold walk at h;omega
 |n+1,k,h=>by
  unfold walk at h;unfold clear;by_cases h0:(gI t (nn f k)).1=0;omega;rw[aK h0]at h;by_cases h1:sN (gI t (nn f k)) f=true;rw[aM h1]at h;have:nn f k=i:=by omega
  subst this;exact⟨h1,by simp,0,by omega,rfl⟩;rw[aK h1]at h;obtain⟨a,b,j,hj,e⟩:=ZD t f i n (k+1) h;refine⟨a,?_,j+1,by omega,by rw[<-e];congr 1;omega⟩;rw[aK h0,b];split<;>rfl
theorem aiA (t:ar Slot)(f:gM)(i:Nat)(hu:sN (gI t i) f=true)(apW:∀j,j<8->sN (gI t j) f=true->j=i):∀n k,clear t f i n k=true->(∃j,j<n/\nn f (k+j)=i)->walk t f n k=(i:Int)
 |0,k,_,h=>by omega
 |n+1,k,hc,⟨j,hj,e⟩=>by unfold walk;unfold clear at hc;by_cases h1:nn f k=i;rw[h1,aK,aM hu];intro h0;unfold sN at hu;rw[h0]at hu;simp at hu;rw[aK h1]at hc;by_cases h0:(gI t (nn f k)).1=0;rw[aM h0]at hc;cases hc;rw[aK h0]at hc;rw[aK h0,aK (λYp=>h1 (apW _ (Rk f k) Yp))];refine aiA t f i hu apW n (k+1) hc ?_;cases j with|zero=>exact absurd e h1|succ j=>exact⟨j,by omega,by rw[<-e];congr 1;omega⟩
theorem apE (f:gM)(i:Nat)(hi:i<8):∃j,j<8/\nn f (0+j)=i:=by have:=acs f;refine⟨(i+8-(N6 f).toNat)%8,by omega,?_⟩;unfold nn;omega
theorem Ma (f:gM):∀(t:ar Slot)(m:Nat),(∃j,j<t.length/\sN (gI t j) f=true)->∃j,j<t.length/\sN (gI t j) f=true/\EM f t m=((m+j:Nat):Int)
 |[],_,h=>by obtain⟨j,hj,_⟩:=h;simp at hj
 |s::r,m,⟨j,hj,e⟩=>by
  unfold EM;by_cases hs:sN s f=true;rw[aM hs];exact⟨0,by simp,by simpa[gI]using hs,by simp⟩;rw[aK hs];cases j with
  |zero=>exact absurd (by simpa[gI]using e) hs
  |succ j=>
   obtain⟨j',h1,h2,h3⟩:=Ma f r (m+1) ⟨j,by simpa using hj,by simpa[gI]using e⟩;refine⟨j'+1,by simpa using h1,by simpa[gI]using h2,?_⟩;have:((m:Int)+1)=((m+1:Nat)):=by omega
   rw[this,h3];congr 1;omega
theorem agH (t:ar Slot)(ht:t.length=8):(range 8).all (zJ t)=(range 8).all (qF t):=by
 rw[dU,aP,aP];simp only[bU];constructor;intro h i hi;have hI:=h i hi;unfold zJ at hI;unfold qF;simp only[ah,dA,aW,bn]at hI⊢;refine⟨hI.1,?_⟩;rcases hI.2 with h1|⟨h1,h2⟩;exact .inl h1;by_cases hu:((gI t i).1==1)=true;right;have Yp:sN (gI t i) (gI t i).2.1=true:=by unfold sN;rw[hu];simp
 refine aiA t _ i Yp (λj hj huj=>?_) 8 0 h2 (apE _ i hi);have hJ:=h j hj;unfold zJ at hJ;unfold sN at huj;simp only[ah,bK]at huj;simp only[ah,dA,aW,bn]at hJ;rcases hJ.2 with h3|⟨h3,_⟩;rw[huj.1]at h3;cases h3;rw[huj.2]at h3;omega;exact .inl (by simpa using hu);intro h i hi;have hI:=h i hi;unfold qF at hI;unfold zJ;simp only[ah,dA,aW,bn]at hI⊢;refine⟨hI.1,?_⟩;rcases hI.2 with h1|h1;exact .inl h1;right;obtain⟨hu,hc,_⟩:=ZD t _ i 8 0 h1;refine⟨?_,hc⟩;obtain⟨j,hj,huj,e⟩:=Ma (gI t i).2.1 t 0 ⟨i,by omega,hu⟩;have hJ:=h j (by omega);unfold qF at hJ;unfold sN at huj;simp only[ah,bK]at huj;simp only[ah,dA,aW,bn]at hJ;rcases hJ.2 with h3|h3;rw[huj.1]at h3;cases h3;rw[huj.2,h1]at h3;have e':EM (gI t i).2.1 t 0=((0+j)):=e;omega
theorem YD (t:ar Slot):wg t=some (Cl t):=by
 rw[afW,Cl];by_cases ht:t.length=8;rw[agH t ht];have e2:(t.length==8)=false:=by simp[ht]
 rw[e2];rfl
def aii (n:Int):Bool:=(n==1)||(n==2)||(n==4)||(n==8)||(n==16)
theorem af8 (n:Int):F0 n=some (aii n):=by grind[F0,ab,aii]
def F7 (s:jN)(q:Int):Bool:=du q 1 4&&((s.1.length:Int)==16)&&aii s.2.length&&s.2.all λx=>du x 0 (q-1)
theorem Pk (s:jN)(q:Int)(h:s.2.length<=10^9):ym s q=some (F7 s q):=by
 unfold ym F7;simp only[cm,af8,ab,ch,bne];by_cases hq:du q 1 4=true
 ·rw[vI (λx=>du x 0 (q-1)) s.2 (by omega) (λi hi nx=>?hs) (λnx=>?hf)]
  case hs=>
   rw[bq]at hq
   simp only[wV]
   rw[gL,aN hi,aj (by omega) (by omega),aj (by omega) (by omega)]
   simp only[af,ab,cm];rfl
  case hf=>
   simp only[wV]
   rw[fG];rfl
  rw[hq];cases ((s.1.length:Int)==16)<;>cases aii s.2.length<;>cases s.2.all (λx=>du x 0 (q-1))<;>rfl
 have hq':du q 1 4=false:=by simpa using hq
 rw[hq'];rfl
theorem VE (s:jN)(q:Int)(h:s.2.length<=10^9):Du s q=some (F7 s q):=by rw[<-Pk s q h];rfl
def jd (s:fI)(q:Int):Bool:=Ht s.1&&Cl s.2.1&&F7 s.2.2 q&&s.1.all (λr=> !(decide (r.2.2.2.2.2.2.2.2>=q)))&&s.2.1.all (λx=> !(decide (x.2.2>=q)))
theorem Q2 (s:fI)(q:Int)(h1:s.1.length<=10^9)(h2:s.2.1.length<=10^9)(h3:s.2.2.2.length<=10^9):sL s q=some (jd s q):=by
 unfold sL jd;simp only[NH _ h1,Zl,Pk _ _ h3,ab,ch];rw[vI (hit:=some false) (fin:=cond (s.2.1.all (λx=> !(decide (x.2.2>=q)))) (some true) (some false)) (λr:gF=> !(decide (r.2.2.2.2.2.2.2.2>=q))) s.1 (by omega) (λi hi nx=>?hs) (λnx=>?hf)]
 case hs=>
  grind[rY,aN,aj,ab]
 case hf=>
  simp only[rY]
  rw[fG]
  simp only[ae]
  rw[vI (λx:Slot=> !(decide (x.2.2>=q))) s.2.1 (by omega) (λi hi nx=>?hs) (λnx=>?hf)]
  all_goals grind[zx,aN,aj,ab]
 grind
theorem Qn (s:fI)(q:Int)(h1:s.1.length<=10^9)(h2:s.2.1.length<=10^9)(h3:s.2.2.2.length<=10^9):sy s q=some (jd s q):=by
 unfold sy jd;simp only[Yz _ h1,YD,VE _ _ h3,ab,ch];rw[vI (λr:gF=> !((r.2.2.2.2.2.2.2.1==0)&&decide (r.2.2.2.2.2.2.2.2>=q))) s.1 (by omega) (λi hi nx=>?hs) (λnx=>?hf)]
 case hs=>
  simp only[rD]
  rw[gL,aN hi,aj (by omega) (by omega)]
  simp only[af,ab,lv,ch]
  cases (s.1[i].2.2.2.2.2.2.2.1==0)<;>rfl
 case hf=>
  simp only[rD]
  rw[fG]
  simp only[ae]
  rw[vI (λx:Slot=> !((x.1==1)&&decide (x.2.2>=q))) s.2.1 (by omega) (λi hi nx=>?hs) (λnx=>?hf)]
  case hs=>
   simp only[pq]
   rw[gL,aN hi,aj (by omega) (by omega)]
   simp only[af,ab,lv,ch]
   cases (s.2.1[i].1==1)<;>rfl
  case hf=>
   simp only[pq]
   rw[fG];rfl
 cases hr:Ht s.1 with
 |false=>rfl
 |true=>
  cases ht:Cl s.2.1 with
  |false=>rfl
  |true=>
   cases hs:F7 s.2.2 q with
   |false=>rfl
   |true=>
    have hq:1<=q:=by unfold F7 at hs;simp only[ah,bq]at hs;exact hs.1.1.1.1
    have e1:s.1.all (λr=> !((r.2.2.2.2.2.2.2.1==0)&&decide (r.2.2.2.2.2.2.2.2>=q)))=s.1.all (λr=> !(decide (r.2.2.2.2.2.2.2.2>=q))):=by unfold Ht at hr;simp only[ah,aP]at hr;rw[dU,aP,aP];refine forall_congr' λr=>forall_congr' λhm=>?_;rcases adG (hr.1 r hm)with h0|h0;rw[h0];simp;rw[h0];simp only[aq (show¬(0)>=q by omega),la]
    have e2:s.2.1.all (λx=> !((x.1==1)&&decide (x.2.2>=q)))=s.2.1.all (λx=> !(decide (x.2.2>=q))):=by unfold Cl at ht;simp only[ah,aP,bU,bn]at ht;rw[dU,aP,aP];refine forall_congr' λx=>forall_congr' λhm=>?_;obtain⟨i,hi,rfl⟩:=List.mem_iff_getElem.1 hm;have hsl:=ht.2 i (by omega);unfold qF Ze at hsl;rw[CV hi]at hsl;simp only[ah,dA,bn]at hsl;rcases hsl.1.2 with h0|⟨h0,_⟩;rw[h0];simp;rw[h0];simp only[aq (show¬(0)>=q by omega),la]
    rw[e1,e2];cases s.1.all (λr=> !(decide (r.2.2.2.2.2.2.2.2>=q)))<;>cases s.2.1.all (λx=> !(decide (x.2.2>=q)))<;>rfl
theorem gu {n:Nat}(h:n<9223372036854775808):ak (n:Int)=(n:Int):=aj (by omega) (by omega)
theorem Rl {n:Nat}(h:n<4294967296:=by omega):IntKind.wrap .u32 (n:Int)=(n:Int):=by grind[IntKind.wrap,IntKind.bits,IntKind.signed]
theorem lZ (b:UInt8):b.toNat<256:=b.toNat_lt
def cw (v:Int):Bytes:=(cj v).getD []
theorem iU (v:Int):cj v=some (cw v):=by grind[cw,cj,cm,ab]
theorem mG (v:Int):cH v=some (cw v):=iU v
theorem Pw (v:Int):(cw v).length=bif du v 0 65535 then 2 else 0:=by have h:=iU v;simp only[cj,cm,ab]at h;cases hb:du v 0 65535<;>rw[hb]at h<;>(rw[<-cY h];rfl)
theorem bQ (v:Int):(cw v).length<=2:=by grind[Pw]
def gT (v:Int):Bytes:=(eT v).getD []
theorem lK (v:Int):eT v=some (gT v):=by grind[gT,eT,cm,ab]
theorem zu (v:Int):fS v=some (gT v):=lK v
theorem WW (v:Int):(gT v).length=bif du v 0 4294967295 then 4 else 0:=by have h:=lK v;simp only[eT,cm,ab]at h;cases hb:du v 0 4294967295<;>rw[hb]at h<;>(rw[<-cY h];rfl)
theorem dD (v:Int):(gT v).length<=4:=by grind[WW]
def bZ (s:Bytes)(i:Nat):Nat:=(s.getD i 0).toNat
theorem fw (s:Bytes)(i:Nat):bZ s i<256:=lZ _
theorem lO {i:Nat}(h:i<s.length:=by omega):∃x,idx s (i:Int)=some x/\x.toNat=bZ s i:=⟨s[i],aN h,by rw[bZ,dx h]⟩
def fP (s:Bytes)(a n:Int):Bool:=decide (0<=a/\a+n<=(s.length:Int))
theorem MQ (s:Bytes)(a n:Int)(h:s.length<=10^9)(hn:0<=n):qW s a n=some (fP s a n):=by
 unfold qW fP;by_cases h0:0<=a;by_cases h1:a<=(s.length:Int)
 rw[ax (show a>=0 from h0),ax h1,aj (by omega) (by omega)];simp only[af,ab];congr 1;rw[decide_eq_decide];omega;rw[ax (show a>=0 from h0),aq h1,aq (show¬(0<=a/\a+n<=(s.length:Int)) by omega)];rfl;rw[aq (show¬a>=0 from h0),aq (show¬(0<=a/\a+n<=(s.length:Int)) by omega)];rfl
def cO (s:Bytes)(a:Int):Int:=bif fP s a 2 then((bZ s a.toNat*256+bZ s (a.toNat+1):Nat):Int) else-1
def ec (s:Bytes)(a:Int):Int:=bif fP s a 4 then(((bZ s a.toNat*256+bZ s (a.toNat+1))*65536+(bZ s (a.toNat+2)*256+bZ s (a.toNat+3)):Nat):Int) else-1
theorem wI (s:Bytes)(a:Int)(h:s.length<=10^9):eJ s a=some (cO s a):=by unfold eJ cO;rw[MQ s a 2 h (by omega),ab];cases hw:fP s a 2 with|false=>rfl|true=>simp only[fP,bK]at hw;obtain⟨n,rfl⟩:=aD hw.1;obtain⟨x,hx,ex⟩:=lO (s:=s) (i:=n);obtain⟨y,hy,ey⟩:=lO (s:=s) (i:=n+1);have hxl:=fw s n;have hyl:=fw s (n+1);rw[aj (n:=(n:Int)+1) (by omega) (by omega),hx,show(n:Int)+1=((n+1:Nat):Int) by omega,hy];simp only[ai,ae,ab,aw,af];rw[ny,ex,ey,gu (by omega),gu (by omega)];have e8:vH 8=8:=rfl;rw[e8,aj (n:=((bZ s n:Nat):Int)*2^8) (by omega) (by omega),aj (by omega) (by omega)];congr 1;all_goals omega
theorem CW (s:Bytes)(a:Int)(h:s.length<=10^9):gJ s a=some (ec s a):=by
 unfold gJ ec;rw[MQ s a 4 h (by omega),ab];cases hw:fP s a 4 with
 |false=>rfl
 |true=>
  simp only[fP,bK]at hw;obtain⟨n,rfl⟩:=aD hw.1;have w1:fP s (n:Int) 2=true:=by grind[fP]
  have w2:fP s ((n:Int)+2) 2=true:=by grind[fP]
  have b0:=fw s n;have b1:=fw s (n+1);have b2:=fw s (n+2);have b3:=fw s (n+3);rw[aj (n:=(n:Int)+2) (by omega) (by omega),wI s _ h,wI s _ h];simp only[ai,ae,ab,af,cO,w1,w2,aw];rw[ny,show((n:Int)+2).toNat=n+2 by omega,show n+2+1=n+3 by omega];have e8:vH 16=16:=rfl;rw[e8,aj (n:=((bZ s n*256+bZ s (n+1):Nat):Int)*2^16) (by omega) (by omega),aj (by omega) (by omega)];congr 1;all_goals omega
theorem aAz (a b:Nat)(ha:a<9223372036854775808)(hb:b<9223372036854775808):toNat (gv (a:Int)|||gv (b:Int))=a|||b:=by show(BitVec.ofInt 64 (a:Int)|||BitVec.ofInt 64 (b:Int)).toNat=_;grind
theorem apL (a b:Nat)(ha:a<9223372036854775808:=by omega)(hb:b<9223372036854775808:=by omega):toNat (gv (a:Int)&&&gv (b:Int))=a&&&b:=by show(BitVec.ofInt 64 (a:Int)&&&BitVec.ofInt 64 (b:Int)).toNat=_;grind
theorem aiB (a b:Nat)(ha:a<9223372036854775808)(hb:b<9223372036854775808):toNat (gv (a:Int)^^^gv (b:Int))=a^^^b:=by show(BitVec.ofInt 64 (a:Int)^^^BitVec.ofInt 64 (b:Int)).toNat=_;grind
theorem ark (a b:Nat)(ha:a<4294967296)(hb:b<4294967296):toNat (BitVec.ofInt (IntKind.bits .u32) (a:Int)&&&BitVec.ofInt (IntKind.bits .u32) (b:Int))=a&&&b:=by show(BitVec.ofInt 32 (a:Int)&&&BitVec.ofInt 32 (b:Int)).toNat=_;grind
theorem ap4 (a b:Nat)(ha:a<4294967296)(hb:b<4294967296):toNat (BitVec.ofInt (IntKind.bits .u32) (a:Int)^^^BitVec.ofInt (IntKind.bits .u32) (b:Int))=a^^^b:=by show(BitVec.ofInt 32 (a:Int)^^^BitVec.ofInt 32 (b:Int)).toNat=_;grind
theorem Pe (x k y:Nat)(hy:y<2^k:=by omega)(h:2^k*x+y<9223372036854775808:=by omega):ak (toNat (gv ((2^k*x:Nat):Int)|||gv (y:Int)):Int)=((2^k*x+y:Nat):Int):=by rw[aAz _ _ (by omega) (by omega),<-Nat.two_pow_add_eq_or_of_lt hy];exact gu h
theorem Tp (s:Bytes)(a n:Int):(cond (decide (a<0)) (some true) (some (decide (a>(s.length:Int)-n))))=some (!fP s a n):=by grind[fP]
theorem CI (s:Bytes)(a:Int)(h:s.length<=10^9):fF s a=some (cO s a):=by unfold fF cO;rw[aj (n:=(s.length:Int)-2) (by omega) (by omega)];rw[Tp,ab];cases hw:fP s a 2 with|false=>rfl|true=>simp only[fP,bK]at hw;obtain⟨n,rfl⟩:=aD hw.1;obtain⟨x,hx,ex⟩:=lO (s:=s) (i:=n);obtain⟨y,hy,ey⟩:=lO (s:=s) (i:=n+1);have hxl:=fw s n;have hyl:=fw s (n+1);rw[aj (n:=(n:Int)+1) (by omega) (by omega),hx,show(n:Int)+1=((n+1:Nat):Int) by omega,hy];simp only[ai,ae,af,ab,aw];rw[ny,ex,ey,gu (n:=bZ s n) (by omega),gu (n:=bZ s (n+1)) (by omega)];have e8:vH 8=8:=rfl;rw[e8,show((bZ s n:Nat):Int)*2^8=((2^8*bZ s n:Nat):Int) by omega,gu (n:=2^8*bZ s n) (by omega),Pe (bZ s n) 8 (bZ s (n+1))];congr 1;all_goals omega
theorem CJ (s:Bytes)(a:Int)(h:s.length<=10^9):iE s a=some (ec s a):=by
 unfold iE ec;rw[aj (n:=(s.length:Int)-4) (by omega) (by omega)];rw[Tp,ab];cases hw:fP s a 4 with
 |false=>rfl
 |true=>
  simp only[fP,bK]at hw;obtain⟨n,rfl⟩:=aD hw.1;obtain⟨x0,h0,e0⟩:=lO (s:=s) (i:=n);obtain⟨x1,h1,e1⟩:=lO (s:=s) (i:=n+1);obtain⟨x2,h2,e2⟩:=lO (s:=s) (i:=n+2);obtain⟨x3,h3,e3⟩:=lO (s:=s) (i:=n+3);have b0:=fw s n;have b1:=fw s (n+1);have b2:=fw s (n+2);have b3:=fw s (n+3)
  rw[aj (n:=(n:Int)+1) (by omega) (by omega),aj (n:=(n:Int)+2) (by omega) (by omega),aj (n:=(n:Int)+3) (by omega) (by omega),h0,show(n:Int)+1=((n+1:Nat):Int) by omega,h1,
   show(n:Int)+2=((n+2:Nat):Int) by omega,h2,show(n:Int)+3=((n+3:Nat):Int) by omega,h3]
  simp only[ai,ae,af,ab,aw];rw[ny,ny,ny,e0,e1,e2,e3];generalize bZ s n=p0 at*;generalize bZ s (n+1)=p1 at*;generalize bZ s (n+2)=p2 at*;generalize bZ s (n+3)=p3 at*;have f24:vH 24=24:=rfl;have f16:vH 16=16:=rfl;have f8:vH 8=8:=rfl
  rw[gu (n:=p0) (by omega),gu (n:=p1) (by omega),gu (n:=p2) (by omega),gu (n:=p3) (by omega),f24,f16,f8,
   show((p0:Nat):Int)*2^24=((2^24*p0:Nat):Int) by omega,show((p1:Nat):Int)*2^16=((2^16*p1:Nat):Int) by omega,show((p2:Nat):Int)*2^8=((2^8*p2:Nat):Int) by omega,
   gu (n:=2^24*p0) (by omega),gu (n:=2^16*p1) (by omega),gu (n:=2^8*p2) (by omega),Pe p0 24 (2^16*p1),
   show 2^24*p0+2^16*p1=2^16*(2^8*p0+p1) by omega,Pe _ 16 (2^8*p2),
   show 2^16*(2^8*p0+p1)+2^8*p2=2^8*(2^8*(2^8*p0+p1)+p2) by omega,Pe _ 8 p3]
  congr 1;all_goals omega
def OR (c:Nat):Nat:=if c%2=1 then(c/2)^^^3988292384 else c/2
def Aa:Nat->Nat->Nat
 |0,c=>c
 |n+1,c=>OR (Aa n c)
def azL (c:Nat)(s:Bytes):Nat:=s.foldl (λc b=>Aa 8 (c^^^b.toNat)) c
def XX (s:Bytes):Int:=4294967295-(azL 4294967295 s:Int)
theorem IV {a b:Nat}(ha:a<4294967296)(hb:b<4294967296):a^^^b<4294967296:=Nat.xor_lt_two_pow (n:=32) ha hb
theorem aiO {c:Nat}(h:c<4294967296):OR c<4294967296:=by grind[OR,IV]
theorem PM {c:Nat}(h:c<4294967296):∀n,Aa n c<4294967296
 |0=>h
 |n+1=>aiO (PM h n)
theorem anF (k0:Int->Int->au R)(k:Int->au R)(hk:∀x y,k0 x y=k x)(v0:Bytes)(v4:Int)(c:Nat)(h:c<4294967296):aH (tc k0 v0 v4) fuel ((c:Int),0)=k (Aa 8 c:Int):=by
 have Ae:=da
 have key:=Nt (T:=tc k0 v0 v4) 8 (λ(_:Unit) i=>((Aa i c:Int),(i:Int))) (λ_ s nx=>nx s) (λ_=>k (Aa 8 c:Int))
  (λi s nx hi=>by
   have hc:=PM h i;simp only[tc];have a1:=apL (Aa i c) 1;have x1:=aiB (Aa i c/2) 3988292384 (by omega) (by omega);simp only[dh]at a1
   rw[gL,af,a1,Nat.and_one_is_mod,
    show vH 1=1 from rfl,show fdiv ((Aa i c:Nat):Int) (2^1)=((Aa i c/2:Nat):Int) from by rw[Int.fdiv_eq_ediv_of_nonneg _ (by omega)];rfl,
    show(3988292384:Int)=((3988292384:Nat):Int) from rfl,x1,
    gu (n:=Aa i c%2) (by omega),gu (n:=(Aa i c/2)^^^3988292384) (by have:=IV (a:=Aa i c/2) (b:=3988292384) (by omega) (by omega);omega),ny,ny,aj (n:=(i:Int)+1) (by omega) (by omega)]
   show _=nx ((OR (Aa i c):Int),((i+1:Nat):Int));unfold OR;by_cases hp:Aa i c%2=1;rw[hp,aM rfl];rfl;have h0:Aa i c%2=0:=by omega
   rw[h0,ny];rfl)
  (λs nx=>by simp only[tc];rw[fG,ae,hk])
  fuel 0 () (by omega) (by omega)
 refine key.trans ?_;rfl
theorem amv (k0:Int->Int->au R)(k:Int->au R)(hk:∀x y,k0 x y=k x)(v0:Bytes)(v4:Int)(c:Nat)(h:c<4294967296):aH (sR k0 v0 v4) fuel ((c:Int),0)=k (Aa 8 c:Int):=by
 have Ae:=da
 have key:=Nt (T:=sR k0 v0 v4) 8 (λ(_:Unit) i=>((Aa i c:Int),(i:Int))) (λ_ s nx=>nx s) (λ_=>k (Aa 8 c:Int))
  (λi s nx hi=>by
   have hc:=PM h i;simp only[sR];have a1:=ark (Aa i c) 1 (by omega) (by omega);have x1:=ap4 (Aa i c/2) 3988292384 (by omega) (by omega);simp only[dh]at a1
   rw[gL,af,a1,Nat.and_one_is_mod,
    show min (Int.toNat 1) (IntKind.bits .u32)=1 from rfl,show fdiv ((Aa i c:Nat):Int) (2^1)=((Aa i c/2:Nat):Int) from by rw[Int.fdiv_eq_ediv_of_nonneg _ (by omega)];rfl,
    show(3988292384:Int)=((3988292384:Nat):Int) from rfl,x1,
    Rl (n:=Aa i c%2),Rl (n:=(Aa i c/2)^^^3988292384) (IV (by omega) (by omega)),ny,aj (n:=(i:Int)+1) (by omega) (by omega)]
   show _=nx ((OR (Aa i c):Int),((i+1:Nat):Int));unfold OR;by_cases hp:Aa i c%2=1;rw[hp,aM rfl];rfl;have h0:Aa i c%2=0:=by omega
   rw[h0,ny];rfl)
  (λs nx=>by simp only[sR];rw[fG,ae,hk])
  fuel 0 () (by omega) (by omega)
 refine key.trans ?_;rfl
theorem aim (s:Bytes)(h:s.length<=10^9):Hx s=some (XX s):=by
 unfold Hx;have:=vu (T:=yh (λ(y4:Int) (_:Int)=>some (ak (4294967295-y4))) s) s (λ(c:Nat) i=>((c:Int),(i:Int))) (λ_ c=>c<4294967296) (λb c=> .ok (Aa 8 (c^^^b.toNat))) (λc=>some (4294967295-(c:Int))) (by omega) (λi hi c nx hI=>?hs) (λi hi c c' hI hg=>?hn) (λc nx hI=>?hf) 4294967295 (by omega)
 case hs=>
  have hb:=lZ s[i]
  simp only[yh]
  rw[gL,aN hi,af,ab,gu (n:=s[i].toNat) (by omega),aiB c s[i].toNat (by omega) (by omega)]
  have hx:=IV hI (show s[i].toNat<4294967296 by omega)
  rw[gu (by omega),anF _ (λy=>nx (y,(i:Int)+1)) (λx y=>by grind[aj]) _ _ _ hx];rfl
 case hn=>
  grind[PM,IV,lZ]
 case hf=>
  grind[yh,aj]
 rw[KE]at this;exact this
theorem not_xor (c:Nat)(h:c<4294967296):toNat (BitVec.ofInt (IntKind.bits .u32) (IntKind.max .u32)^^^BitVec.ofInt (IntKind.bits .u32) (c:Int))=4294967295-c:=by show(BitVec.ofInt 32 4294967295^^^BitVec.ofInt 32 (c:Int)).toNat=_;rw[show BitVec.ofInt 32 4294967295=BitVec.allOnes 32 by decide,BitVec.ofInt_natCast,BitVec.allOnes_xor,BitVec.toNat_not,BitVec.toNat_ofNat,Nat.mod_eq_of_lt (show c<2^32 by omega)]
theorem ahS (s:Bytes)(h:s.length<=10^9):GR s=some (XX s):=by
 unfold GR;have:=vu (T:=xE (λ(y4:Int) (_:Int)=>some (ak (IntKind.wrap .u32 (toNat (BitVec.ofInt (IntKind.bits .u32) (IntKind.max .u32)^^^BitVec.ofInt (IntKind.bits .u32) y4))))) s) s (λ(c:Nat) i=>((c:Int),(i:Int))) (λ_ c=>c<4294967296) (λb c=> .ok (Aa 8 (c^^^b.toNat))) (λc=>some (4294967295-(c:Int))) (by omega) (λi hi c nx hI=>?hs) (λi hi c c' hI hg=>?hn) (λc nx hI=>?hf) 4294967295 (by omega)
 case hs=>
  have hb:=lZ s[i]
  simp only[xE]
  rw[gL,aN hi,af,ab,Rl (n:=s[i].toNat),ap4 c s[i].toNat (by omega) (by omega)]
  have hx:=IV hI (show s[i].toNat<4294967296 by omega)
  rw[Rl hx,amv _ (λy=>nx (y,(i:Int)+1)) (λx y=>by grind[aj]) _ _ _ hx];rfl
 case hn=>
  grind[PM,IV,lZ]
 case hf=>
  simp only[xE]
  rw[fG,ae,not_xor c hI,Rl,gu (by omega)]
  congr 1
  all_goals omega
 rw[KE]at this;exact this
def hasB (l:cI)(v:Int):Bool:=l.any (·==v)
theorem P0 {v:Int}:hasB l v=true↔v∈l:=by grind[hasB]
theorem KL (l:cI)(v:Int)(h:l.length<=10^9):jc l v=some (hasB l v):=by
 unfold jc hasB;rw[L1 (hit:=some true) (fin:=some false) (λx:Int=>x==v) l (by omega) (λi hi nx=>?hs) (λnx=>?hf)]
 case hs=>
  simp(disch:=omega)[Cg,ax,aN,aj]
 all_goals grind[Cg]
theorem HV (l:cI)(v:Int)(h:l.length<=10^9):gE l v=some (hasB l v):=by
 unfold gE hasB;rw[L1 (hit:=some true) (fin:=some false) (λx:Int=>x==v) l (by omega) (λi hi nx=>?hs) (λnx=>?hf)]
 case hs=>
  simp(disch:=omega)[AW,ax,aN,aj]
 all_goals grind[AW]
def ins (v:Int):cI->cI
 |[]=>[v]
 |x::l=>bif decide (v<x) then v::x::l else x::ins v l
theorem Uc (v:Int):∀l,(ins v l).length=l.length+1
 |[]=>rfl
 |x::l=>by rw[ins];cases decide (v<x)with|true=>rfl|false=>simp only[ae,bJ,Uc v l]
theorem ah4 (v x:Int):∀l,x∈ins v l↔x=v\/x∈l
 |[]=>by simp[ins]
 |y::l=>by rw[ins];cases decide (v<y)with|true=>simp|false=>simp only[ae,cq,ah4 v x l];grind
theorem af1 (v:Int):∀l:cI,v∉l->l.take (l.findIdx (λx=> !decide (x<v)))++[v]++l.drop (l.findIdx (λx=> !decide (x<v)))=ins v l
 |[],_=>rfl
 |x::l,h=>by rw[ins,List.findIdx_cons];have hx:v≠x:=λe=>h (by simp[e]);have hl:v∉l:=λe=>h (by simp[e]);by_cases c:x<v;rw[ax c,aq (show¬v<x by omega)];have:=af1 v l hl;simpa using this;rw[aq c,ax (show v<x by omega)];rfl
def EJ (l:cI)(v:Int):cI:=bif hasB l v then l else ins v l
theorem UB (l:cI)(v:Int):(EJ l v).length<=l.length+1:=by unfold EJ;cases hasB l v with|true=>simp|false=>simp only[ae,Uc];omega
theorem amZ {v x:Int}(h:x∈l):x∈EJ l v:=by unfold EJ;cases hasB l v with|true=>exact h|false=>exact(ah4 v x l).2 (.inr h)
theorem aiF {v:Int}(h:v∈l):EJ l v=l:=by grind[EJ,P0]
theorem JB:∀(vs l:cI),(vs.foldl EJ l).length<=l.length+vs.length
 |[],l=>by simp
 |v::vs,l=>by have:=JB vs (EJ l v);grind[UB]
theorem R1:∀(vs:cI){l:cI}{x:Int},x∈l->x∈vs.foldl EJ l
 |[],_,_,h=>h
 |v::vs,l,x,h=>R1 vs (l:=EJ l v) (amZ h)
theorem ab3 (p:α->Bool)(k:Int->au R)(l:ar α):(match l.findIdx? p with|some i=>k (i:Int)|none=>k (l.length:Int))=k (l.findIdx p:Int):=by grind
theorem WB (l:ar α)(j:Nat)(h:j<=l.length):sub l 0 (j:Int)=some (l.take j):=by grind[sub]
theorem Jz (l:ar α)(j:Nat)(h:j<=l.length):sub l (j:Int) (l.length:Int)=some (l.drop j):=by simp_all[sub]
theorem Zn (a vs:cI)(h:a.length+vs.length<=10^9):yp a vs=some (vs.foldl EJ a):=by
 unfold yp;rw[aQ (by grind)];rw[bH];have:=vu (T:=qX (λ(uu:cI) (_:Int)=>some uu) vs) vs (λ(s:cI) i=>(s,(i:Int))) (λi s=>s.length<=a.length+i) (λv s=> .ok (EJ s v)) (λs=>some s) (by omega) (λi hi s nx hI=>?hs) (λi hi s s' hI hg=>?hn) (λs nx hI=>?hf) a (by simp)
 case hs=>
  simp only[qX]
  rw[gL,aN hi,aj (n:=(i:Int)+1) (by omega) (by omega)]
  simp only[af,ab,KL s vs[i] (by omega)]
  unfold EJ
  cases hh:hasB s vs[i]with
  |true=>rfl
  |false=>
   have hm:vs[i]∉s:=λe=>by grind[P0]
   simp only[ae]
   rw[Ge (hit:=λy6=>aa (sub s 0 y6) λx7=>room (List.length ([]:cI)+List.length x7) (room (List.length (([]:cI)++x7)+List.length ([vs[i]])) (aa (sub s y6 (s.length:Int)) λx9=>room (List.length ((([]:cI)++x7)++([vs[i]]))+List.length x9) (nx (((([]:cI)++x7)++([vs[i]]))++x9,(i:Int)+1)))))
    (fin:=aa (sub s 0 (s.length:Int)) λx7=>room (List.length ([]:cI)+List.length x7) (room (List.length (([]:cI)++x7)+List.length ([vs[i]])) (aa (sub s (s.length:Int) (s.length:Int)) λx9=>room (List.length ((([]:cI)++x7)++([vs[i]]))+List.length x9) (nx (((([]:cI)++x7)++([vs[i]]))++x9,(i:Int)+1)))))
    (λx=> !decide (x<vs[i])) s (by omega) (λj hj nx'=>?hs2) (λnx'=>?JF)]
   case hs2=>
    grind[xg,aN,aj,ab]
   case JF=>
    simp_all[xg]
   refine Eq.trans (ab3 (λx=> !decide (x<vs[i])) (λy6=>aa (sub s 0 y6) λx7=>room (List.length ([]:cI)+List.length x7) (room (List.length (([]:cI)++x7)+List.length ([vs[i]])) (aa (sub s y6 (s.length:Int)) λx9=>room (List.length ((([]:cI)++x7)++([vs[i]]))+List.length x9) (nx (((([]:cI)++x7)++([vs[i]]))++x9,(i:Int)+1))))) s) ?_
   have hle:s.findIdx (λx=> !decide (x<vs[i]))<=s.length:=List.findIdx_le_length
   have e:=af1 vs[i] s hm
   generalize s.findIdx (λx=> !decide (x<vs[i]))=j at*
   grind[WB,Jz,ab,aQ]
 all_goals grind[UB,qX,KE]
theorem ahP (l:cI)(v:Int)(h:l.length<=10^9):lC l v=some (ins v l):=by
 unfold lC
 have hgo:∀(l:cI)(acc:cI)(d:Bool),acc.length+l.length+(bif d then 0 else 1)<=1073741824->
  zG (λ(x:Int) (s:cI×Bool) (k:cI×Bool->au cI)=>cond (cond (!s.2) (decide (v<x)) false) (room (List.length s.1+List.length ([v])) (room (List.length (s.1++([v]))+List.length ([x])) (k ((s.1++([v]))++([x]),true)))) (room (List.length s.1+List.length ([x])) (k (s.1++([x]),s.2))))
   (λs=>cond (!s.2) (room (List.length s.1+List.length ([v])) (some (s.1++([v])))) (some s.1)) l (acc,d)=some (acc++bif d then l else ins v l):=by
  intro l
  induction l with
  |nil=>
   intro acc d hl
   rw[zG]
   simp only[eo]at hl
   cases d with
   |true=>simp
   |false=>
    simp only[bB,af,ae]at hl⊢
    rw[aQ (by simp;omega)];rfl
  |cons x l ih=>
   grind[zG,aQ,ins]
 have Ae:=da;have key:=CN (T:=mM (λ(y3:cI) (y4:Bool) (_:Int)=>cond (!y4) (room (List.length y3+List.length ([v])) (some (y3++([v])))) (some y3)) v l (l.length:Int)) l (λ(s:cI×Bool) i=>(s.1,s.2,(i:Int))) (λ(x:Int) (s:cI×Bool) (k:cI×Bool->au cI)=>cond (cond (!s.2) (decide (v<x)) false) (room (List.length s.1+List.length ([v])) (room (List.length (s.1++([v]))+List.length ([x])) (k ((s.1++([v]))++([x]),true)))) (room (List.length s.1+List.length ([x])) (k (s.1++([x]),s.2)))) (λs=>cond (!s.2) (room (List.length s.1+List.length ([v])) (some (s.1++([v])))) (some s.1)) (λi hi s nx=>by grind[mM,aN,aj,ab]) (λs nx=>by grind[mM]) fuel 0 (([]:cI),false) (by omega) (by omega);grind
def oZ:Port:=(0,[],0,false)
def Ug (p:Port):Bool:=il (p.1,false,p.2.1)&&hasB p.2.1 p.2.2.1
def V5 (l:ar Port)(i:Nat):Bool:=Ug (l.getD i oZ)&&(range i).all (λj=> !((j !=0)&&((l.getD j oZ).1==(l.getD i oZ).1)))
def lH (l:ar Port):Bool:=du (l.length:Int) 1 8&&(range l.length).all (V5 l)
theorem agz (i:Nat)(q:Nat->Bool):(range (i-1)).all (λj=> !(q (j+1)))=(range i).all (λj=> !((j !=0)&&q j)):=by
 rw[dU,aP,aP];simp only[bU];constructor;intro h j hj;cases j with|zero=>rfl|succ j=>have:=h j (by omega);simpa using this
 intro h j hj;have:=h (j+1) (by omega);simpa using this
theorem NF (l:ar Port)(h:l.length<=10^9)(hv:∀p∈l,p.2.1.length<=10^9):oF l=some (lH l):=by
 unfold oF lH;rw[gV (hit:=some false) (fin:=some true) (V5 l) l.length (by omega) (λi nx hi=>?hs) (λnx=>?hf)]
 case hs=>
  have hvi:=hv _ (aE hi)
  simp only[yN]
  rw[gL,aN hi,aj (by omega) (by omega)]
  simp only[af,ab,zw (l[i].1,false,l[i].2.1) hvi,KL _ _ hvi]
  have e1:(1:Int)=(((0:Nat)+1:Nat):Int):=rfl
  rw[e1,M8 (hit:=some false) (fin:=nx ((i:Int)+1)) (λj=>((j+1:Nat):Int)) (λj=> !((l.getD (j+1) oZ).1==l[i].1)) (i-1) (by omega) (λj nx' hj hp=>?hs2) (λhp nx'=>?JF)]
  case hs2=>
   have hjl:j+1<l.length:=by omega
   simp only[yO]
   rw[gL,aN hjl,aN hi,aj (by omega) (by omega)]
   simp_all
  case JF=>
   grind[yO]
  rw[agz i (λj=>(l.getD j oZ).1==l[i].1)]
  simp only[V5,Ug,dx hi]
  grind
 all_goals grind[yN,cm,ab]
def JU (p:Nat->Bool):ei->Int
 |[]=> -1
 |j::r=>bif p j then(j:Int) else JU p r
theorem ab4 (p:Nat->Bool):∀n s i,s<=i->i<s+n->p i=true->(JU p (List.range' s n)==(i:Int))=(List.range' s (i-s)).all (λj=> !(p j))
 |0,s,i,h1,h2,_=>by omega
 |n+1,s,i,h1,h2,hp=>by
  rw[List.range'_succ,JU];rcases bS s i with iJ|Fp;obtain⟨k,hk⟩:∃k,i-s=k+1:=⟨i-s-1,by omega⟩
  rw[hk,List.range'_succ,bV];cases hps:p s with
  |true=>
   simp only[af,ai,gN];have:¬(s:Int)=(i:Int):=by omega
   simpa using this
  |false=>simp only[ae,bB,bj];rw[ab4 p n (s+1) i (by omega) (by omega) hp,show i-(s+1)=k by omega]
  have:s=i:=by omega
  subst this;rw[hp,hZ];simp
theorem Wc (p:Nat->Bool)(hit:Nat->au R)(fin:au R)(k:Int->au R)(h1:∀j:Nat,hit j=k (j:Int))(h2:fin=k (-1)):∀l:ei,TQ (λ(j:Nat) (s:Unit)=>bif p j then .error (hit j) else .ok ()) (λ_=>fin) l ()=k (JU p l)
 |[]=>h2
 |j::l=>by rw[TQ,JU];cases p j with|true=>exact h1 j|false=>exact Wc p hit fin k h1 h2 l
theorem acX (l:ar Port)(a:Int)(h:l.length<=10^9):xM l a=some (JU (λj=>(j !=0)&&((l.getD j oZ).1==a)) (List.range' 0 l.length)):=by
 unfold xM;have:=vu (T:=qi (λ(_:Int)=>some (-1)) (λ(y4:Int) (_:Int)=>some y4) a 0 l (l.length:Int)) (List.range' 0 l.length) (λ(_:Unit) i=>(i:Int)) (λ_ _=>True) (λ(j:Nat) (s:Unit)=>bif (j !=0)&&((l.getD j oZ).1==a) then .error (some (j:Int)) else .ok ()) (λ_=>some (-1)) (by simp;omega) (λi hi s nx _=>?hs) (λ_ _ _ _ _ _=>trivial) (λs nx _=>?hf) () trivial
 case hs=>
  grind[qi,aN,aj,ab]
 case hf=>
  grind[qi]
 rw[Wc (λj=>(j !=0)&&((l.getD j oZ).1==a)) _ _ (λx=>some x) (λ_=>rfl) rfl]at this;exact this
theorem Nq (l:ar Port)(h:l.length<=10^9)(hv:∀p∈l,p.2.1.length<=10^9):nZ l=some (lH l):=by
 unfold nZ lH;rw[gV (hit:=some false) (fin:=some true) (V5 l) l.length (by omega) (λi nx hi=>?hs) (λnx=>?hf)]
 case hs=>
  have hvi:=hv _ (aE hi)
  simp only[yy]
  rw[gL,aN hi,aj (by omega) (by omega)]
  simp only[af,ab,IC,uK (l[i].1,false,l[i].2.1) hvi,HV _ _ hvi,acX l _ h,ch,bne]
  have e2:((i:Int)==0)=(i==0):=by rw[dU];simp
  rw[e2]
  simp only[V5,Ug,dx hi]
  cases h0:i==0 with
  |true=>
   grind
  |false=>
   have JG:(i !=0)=true:=by grind
   have fa:=ab4 (λj=>(j !=0)&&((l.getD j oZ).1==l[i].1)) l.length 0 i (by omega) (by omega) (by grind)
   grind[List.range_eq_range']
 all_goals grind[yy,cr,ab]
def xl (m:bC):Bool:=il m.1&&(du m.2.1 0 1000000000000&&du m.2.2.2 0 1000000000000)
theorem ad5 (m:bC)(h:m.1.2.2.length<=10^9):vA m=some (xl m):=by grind[vA,zw,cm,ab,xl]
theorem acL (m:bC)(h:m.1.2.2.length<=10^9):uM m=some (xl m):=by grind[uM,uK,cr,ab,xl]
theorem Jl (h:xl m=true):m.1.2.2.length<=8:=by grind[xl,il]
def aaL (m:bC):Port:=(m.1.1,m.1.2.2.foldl EJ [0],0,true)
def OD (s:cI×ar Port)(m:bC):cI×ar Port:=(m.1.2.2.foldl EJ s.1,s.2++[aaL m])
def KA (ms:ar bC):ar Port:=(0,(ms.foldl OD ([0],[])).1,0,false)::(ms.foldl OD ([0],[])).2
def gR (ms:ar bC):ar Port×Bool:=bif du (ms.length:Int) 1 3&&(ms.all xl&&lH (KA ms)) then(KA ms,true) else([],false)
theorem Wb (p:α->Bool)(f:σ->α->σ)(r:au R)(fin:σ->au R):∀(l:ar α)(s:σ),TQ (λx s=>bif p x then .ok (f s x) else .error r) fin l s=bif l.all p then fin (l.foldl f s) else r
 |[],s=>rfl
 |x::l,s=>by rw[TQ,bV,List.foldl_cons];cases p x with|false=>rfl|true=>simp only[af,bj];exact Wb p f r fin l (f s x)
def abr (i:Nat)(s:cI×ar Port):Prop:=s.1.length<=1+9*i/\s.2.length=i/\∀p∈s.2,p.2.1.length<=9
theorem abr.port {i:Nat}{s:cI×ar Port}(h:abr i s)(hm:xl m=true)(U:cI)(hU:U.length<=s.1.length+9:=by omega):abr (i+1) (U,s.2++[aaL m]):=by have hl:=Jl hm;have:=JB m.1.2.2 [0];refine⟨?_,?_,?_⟩;have:=h.1;simp only;omega;have:=h.2.1;simp;omega;intro p hp;rcases aA.1 hp with hp|hp;exact h.2.2 p hp;simp only[dC]at hp;subst hp;simp only[aaL,aS]at this⊢;omega
theorem ME {i:Nat}{s:cI×ar Port}(h:abr i s)(hi:i<=3):((0,s.1,0,false)::s.2:ar Port).length<=10^9/\∀p∈((0,s.1,0,false)::s.2:ar Port),p.2.1.length<=10^9:=by have h1:=h.1;have h2:=h.2.1;refine⟨by grind,λp hp=>?_⟩;rcases cq.1 hp with rfl|hp;simp only;omega;have:=h.2.2 p hp;omega
theorem Is (ms:ar bC)(h:∀m∈ms,m.1.2.2.length<=10^9):rR ms=some (gR ms):=by
 unfold rR gR;simp only[cm,ab];cases hn:du (ms.length:Int) 1 3 with
 |false=>rfl
 |true=>
  have Fq:=bq.1 hn;simp only[ai,ae,bj];have:=vu (T:=sJ (λ(Gb:ar Port) (_:Int)=>aa (oF Gb) λOu=>cond (!Ou) (some (([]:ar Port),false)) (some (Gb,true))) (λ(Gt:ar Port) (LQ:Bool) (_:ar Port) (_:Int)=>some (Gt,LQ)) ms ([]:ar Port) false) ms (λ(s:cI×ar Port) i=>((0,s.1,0,false)::s.2,(i:Int))) abr (λm s=>bif xl m then .ok (OD s m) else .error (some (([]:ar Port),false))) (λs=>some (bif lH ((0,s.1,0,false)::s.2) then((0,s.1,0,false)::s.2,true) else([],false))) (by omega) (λi hi s nx hI=>?hs) (λi hi s s' hI hg=>?hn) (λs nx hI=>?hf) ([0],[]) ⟨by simp,rfl,by simp⟩
  case hs=>
   simp only[sJ]
   have hm:=h _ (aE hi)
   rw[gL,aN hi,aj (n:=(i:Int)+1) (by omega) (by omega)]
   simp only[af,ab,ad5 _ hm]
   cases Rn:xl ms[i]with
   |false=>rfl
   |true=>
    have hl:=Jl Rn
    have hU:=hI.1
    have hP:=hI.2.1
    have e0:idx ((0,s.1,0,false)::s.2:ar Port) 0=some (0,s.1,0,false):=rfl
    simp only[ai,ae,af,e0,ab]
    rw[Zn s.1 _ (by omega),Zn [0] _ (by simp;omega)]
    simp only[ab]
    rw[aQ (by simp;omega)]
    rfl
  case hn=>
   cases Rn:xl ms[i]with
   |false=>grind
   |true=>
    rw[Rn]at hg
    cases hg
    have:=JB ms[i].1.2.2 s.1
    have:=Jl Rn
    exact hI.port Rn _
  case hf=>
   grind[sJ,ME,NF,ab]
  rw[Wb]at this;grind[KA]
def Zq (s:cI×ar Port)(m:bC):cI×ar Port:=(([0]++m.1.2.2).foldl EJ s.1,s.2++[aaL m])
theorem anU {s:cI×ar Port}(h:(0:Int)∈s.1):Zq s m=OD s m:=by grind[Zq,OD,aiF]
theorem Ww:∀(ms:ar bC)(s:cI×ar Port),(0:Int)∈s.1->ms.foldl Zq s=ms.foldl OD s
 |[],_,_=>rfl
 |m::ms,s,h=>by rw[List.foldl_cons,List.foldl_cons,anU h];exact Ww ms _ (R1 _ h)
theorem aeg (ms:ar bC)(h:ms≠[]):ms.foldl Zq ([],[])=ms.foldl OD ([0],[]):=by cases ms with|nil=>exact absurd rfl h|cons m ms=>rw[List.foldl_cons,List.foldl_cons];have e:Zq ([],[]) m=OD ([0],[]) m:=rfl;rw[e];exact Ww ms _ (R1 _ (by simp))
theorem ajo (k0:cI->cI->Int->au R)(k:cI->cI->au R)(hk:∀a b i,k0 a b i=k a b)(v2:ar Port)(v3:Bool)(v4:ar Port)(v18:ar bC)(v19 v20:Int)(b7:bC)(vs all:cI)(h:all.length+vs.length<=10^9): aH (my k0 v2 v3 v4 v18 v19 v20 vs (vs.length:Int) b7) fuel (all,([]:cI),0)=k (vs.foldl EJ all) (vs.foldl EJ []):=by
 have:=vu (T:=my k0 v2 v3 v4 v18 v19 v20 vs (vs.length:Int) b7) vs (λ(s:cI×cI) i=>(s.1,s.2,(i:Int))) (λi s=>s.1.length<=all.length+i/\s.2.length<=i) (λv s=> .ok (EJ s.1 v,EJ s.2 v)) (λs=>k s.1 s.2) (by omega) (λi hi s nx hI=>?hs) (λi hi s s' hI hg=>?hn) (λs nx hI=>?hf) (all,[]) ⟨by simp,by simp⟩
 case hs=>
  simp only[my]
  rw[gL,aN hi,aj (n:=(i:Int)+1) (by omega) (by omega)]
  grind[ab,HV,ahP,EJ]
 case hn=>
  grind[UB]
 case hf=>
  grind[my]
 rw[KE]at this;refine Eq.trans this ?_;have e:∀(l:cI)(s:cI×cI),l.foldl (λs v=>(EJ s.1 v,EJ s.2 v)) s=(l.foldl EJ s.1,l.foldl EJ s.2):=by intro l;induction l with|nil=>intro s;rfl|cons x l ih=>grind
 rw[e]
theorem HW (ms:ar bC)(h:∀m∈ms,m.1.2.2.length<=10^9):ru ms=some (gR ms):=by
 unfold ru gR;simp only[cr,ab];cases hn:du (ms.length:Int) 1 3 with
 |false=>rfl
 |true=>
  have Fq:=bq.1 hn;simp only[ai,ae,bj];have:=vu (T:=su (λ(Ad:ar Port) (Gt:cI) (_:Int)=>aa (idx Ad 0) λLF=>aa (idx Ad 0) λPy=>aa (nZ (List.set Ad (Int.toNat 0) (Py.1,Gt,Py.2.2))) λYX=>cond (!YX) (some (([]:ar Port),false)) (some (List.set Ad (Int.toNat 0) (Py.1,Gt,Py.2.2),true))) (λ(y20:ar Port) (y21:Bool) (_:ar Port) (_:cI) (_:Int)=>some (y20,y21)) ([]:ar Port) false ms (ms.length:Int)) ms (λ(s:cI×ar Port) i=>((0,[],0,false)::s.2,s.1,(i:Int))) abr (λm s=>bif xl m then .ok (Zq s m) else .error (some (([]:ar Port),false))) (λs=>some (bif lH ((0,s.1,0,false)::s.2) then((0,s.1,0,false)::s.2,true) else([],false))) (by omega) (λi hi s nx hI=>?hs) (λi hi s s' hI hg=>?hn) (λs nx hI=>?hf) ([],[]) ⟨by simp,rfl,by simp⟩
  case hs=>
   simp only[su]
   have hm:=h _ (aE hi)
   rw[gL,aN hi,aj (n:=(i:Int)+1) (by omega) (by omega)]
   simp only[af,ab,acL _ hm]
   cases Rn:xl ms[i]with
   |false=>rfl
   |true=>
    have hl:=Jl Rn
    have hU:=hI.1
    have hP:=hI.2.1
    simp only[ai,ae,af]
    rw[aQ (by simp;omega)]
    refine(ajo _ (λa b=>room (List.length ((0,[],0,false)::s.2:ar Port)+List.length ([(ms[i].1.1,b,0,true)]:ar Port)) (nx (((0,[],0,false)::s.2)++([(ms[i].1.1,b,0,true)]),a,(i:Int)+1))) (λ_ _ _=>rfl) _ _ _ _ _ _ _ ([0]++ms[i].1.2.2) s.1 (by grind)).trans ?_
    rw[aQ (by simp;omega)]
    rfl
  case hn=>
   cases Rn:xl ms[i]with
   |false=>grind
   |true=>
    rw[Rn]at hg
    cases hg
    have hu:=JB ([0]++ms[i].1.2.2) s.1
    have hl:=Jl Rn
    simp only[ay,aS]at hu
    exact hI.port Rn _
  case hf=>
   simp only[su]
   rw[fG]
   have hb:=ME hI (by omega)
   have e0:idx ((0,[],0,false)::s.2:ar Port) 0=some (0,[],0,false):=rfl
   have e1:List.set ((0,[],0,false)::s.2:ar Port) (Int.toNat 0) (0,s.1,0,false)=(0,s.1,0,false)::s.2:=rfl
   grind[ab,Nq]
  rw[Wb,aeg ms (by grind)]at this;grind[KA]
def eqQ (a b:α):Bool:= @decide (a=b) (Classical.propDecidable _)
theorem PO {a b:α}:eqQ a b=true↔a=b:=by grind[eqQ]
theorem afi {a b:α}{x:Bool}(h:x=true↔a=b):x=eqQ a b:=by grind[PO]
theorem azK [BEq α][LawfulBEq α](a b:α):(a==b)=eqQ a b:=afi bn
theorem abP {a b:α}(h:a=b):eqQ a b=true:=PO.2 h
theorem aiS {a b:α}(h:¬a=b):eqQ a b=false:=by grind[PO]
theorem alL {T:(Int->au R)->Int->au R}{fin hit:au R}(p:α->α->Bool)(hp:∀x y,p x y=true↔x=y)(a b:ar α)(hl:a.length=b.length)(h:a.length<=10^9)(hs:∀i (hi:i<a.length) nx,T nx (i:Int)=cond (!(p a[i] (b[i]'(hl▸hi)))) hit (nx ((i+1:Nat):Int)))(hf:∀nx,T nx (a.length:Int)=fin): aH T fuel 0=cond (eqQ a b) fin hit:=by
 have hq:∀i,i<a.length->i<b.length:=λi hi=>hl▸hi;rw[gV (fin:=fin) (hit:=hit) (λi=>eqQ a[i]? b[i]?) a.length (by omega) ?hs hf]
 case hs=>
  intro i nx hi
  rw[hs i hi,al hi,al (hq i hi)]
  have:p a[i] (b[i]'(hq i hi))=eqQ (some a[i]) (some (b[i]'(hq i hi))):=afi (by rw[hp,bf])
  rw[this]
 congr 1;apply afi;rw[aP];constructor;intro k;apply cW;intro i;by_cases hi:i<a.length;exact PO.1 (k i (bU.2 hi));rw[bL (by omega),bL (by omega)];rintro rfl i _;exact abP rfl
theorem aoE {T:(Int->au Bool)->Int->au Bool}(p:α->α->Bool)(hp:∀x y,p x y=true↔x=y)(a b:ar α)(h:a.length<=10^9)(hs:a.length=b.length->∀i (hi:i<a.length)(uw:i<b.length) nx,T nx (i:Int)=cond (!(p a[i] b[i])) (some false) (nx ((i+1:Nat):Int)))(hf:∀nx,T nx (a.length:Int)=some true): cond ((a.length:Int) !=(b.length:Int)) (some false) (aH T fuel 0)=some (eqQ a b):=by by_cases hl:a.length=b.length;rw[alL p hp a b hl h (λi hi nx=>hs hl i hi (hl▸hi) nx) hf];rw[show((a.length:Int) !=(b.length:Int))=false by simp[hl]];cases eqQ a b<;>rfl;rw[aiS (λe=>hl (by rw[e]))];rw[show((a.length:Int) !=(b.length:Int))=true by simp;omega];rfl
theorem amz (a b:cI)(h:a.length<=10^9):wG a b=some (eqQ a b):=by unfold wG;refine aoE (λx y=>x==y) (λx y=>bn) a b h (λhl i hi uw nx=>?_) (λnx=>?_);simp only[pA];rw[gL,aN hi,aN uw,aj (by omega) (by omega)];rfl;simp only[pA];rw[fG];rfl
theorem Qf (a b:Filter)(h:a.2.2.length<=10^9):yF a b=some (eqQ a b):=by grind[yF,amz,ab,azK]
def fnZ:az:=(0,0,(0,0,0),false,0,0)
def Nb (b:Cx):Bool:=du b.1 0 10000&&(du b.2.1 0 100000&&du b.2.2 0 b.2.1)
def alV (n:Int)(f:az):Bool:=du f.1 0 7&&(du f.2.1 1 (ak (n-1))&&(Nb f.2.2.1&&(du f.2.2.2.2.1 0 1000000000000&&du f.2.2.2.2.2 0 1000000000000)))
def aqj (f g:az):Bool:=(g.1==f.1)||(g.2.1==f.2.1)
def fnB (l:ar az)(n:Int)(i:Nat):Bool:=alV n (l.getD i fnZ)&&(range i).all (λj=> !(aqj (l.getD i fnZ) (l.getD j fnZ)))
def jZ (l:ar az)(ps:ar Port):Bool:=lH ps&&(range l.length).all (fnB l (ps.length:Int))
theorem KK (b:Cx):ta b=some (Nb b):=by grind[ta,cm,ab,Nb]
theorem O5 (b:Cx):xD b=some (Nb b):=KK b
theorem Oy (l:ar az)(ps:ar Port)(h:l.length<=10^9)(h1:ps.length<=10^9)(h2:∀p∈ps,p.2.1.length<=10^9):qP l ps=some (jZ l ps):=by
 unfold qP jZ;rw[gV (hit:=some false) (fin:=some true) (fnB l (ps.length:Int)) l.length (by omega) (λi nx hi=>?hs) (λnx=>?hf)]
 case hs=>
  simp only[pC]
  rw[gL,aN hi,aj (n:=(i:Int)+1) (by omega) (by omega)]
  simp only[af,ab,cm,KK,ch,cT]
  rw[gV (hit:=some false) (fin:=nx ((i:Int)+1)) (λj=> !(aqj l[i] (l.getD j fnZ))) i (by omega) (λj nx' hj=>?hs2) (λnx'=>?JF)]
  case hs2=>
   have hjl:j<l.length:=by omega
   simp only[oA]
   rw[gL,aN hjl,aj (n:=(j:Int)+1) (by omega) (by omega)]
   simp only[af,ab,ch,cT,dx hjl,lv];rfl
  all_goals grind[oA,fnB,alV]
 case hf=>
  grind[pC]
 simp only[NF ps h1 h2,ab];grind
theorem Of (l:ar az)(ps:ar Port)(h:l.length<=10^9)(h1:ps.length<=10^9)(h2:∀p∈ps,p.2.1.length<=10^9):qa l ps=some (jZ l ps):=by
 unfold qa jZ;rw[gV (hit:=some false) (fin:=some true) (fnB l (ps.length:Int)) l.length (by omega) (λi nx hi=>?hs) (λnx=>?hf)]
 case hs=>
  simp only[ph]
  rw[gL,aN hi,aj (n:=(i:Int)+1) (by omega) (by omega),WB l i (by omega)]
  simp only[af,ab,cr,O5,ch,cT]
  have hti:(l.take i).length=i:=by simp;omega
  rw[hti,gV (hit:=some false) (fin:=nx ((i:Int)+1)) (λj=> !(aqj l[i] (l.getD j fnZ))) i (by omega) (λj nx' hj=>?hs2) (λnx'=>?JF)]
  case hs2=>
   have hjl:j<l.length:=by omega
   have hjt:j<(l.take i).length:=by omega
   simp only[pj]
   rw[gL,aN hjt,aj (n:=(j:Int)+1) (by omega) (by omega),List.getElem_take]
   simp only[af,ab,ch,cT,dx hjl,lv];rfl
  all_goals grind[pj,fnB,alV]
 case hf=>
  grind[ph]
 simp only[Nq ps h1 h2,ab];grind
def MF (l:ar az)(i:Nat):Bool:=((l.getD i fnZ).1==(i:Int))&&((l.getD i fnZ).2.1==(i:Int)+1)
theorem afR (l:ar az)(h:l.length<=10^9):AX l=some ((range l.length).all (MF l)):=by unfold AX;rw[gV (hit:=some false) (fin:=some true) (MF l) l.length (by omega) (λi nx hi=>?hs) (λnx=>?hf)];all_goals grind[AY,aN,aj,ab,MF]
theorem aa4 (a b:Filter)(h:a.2.2.length<=10^9):zy a b=some (eqQ a b):=Qf a b h
theorem Ve:∀(ms:ar bC)(i:Nat)(s:cI×ar Port),abr i s->ms.all xl=true->abr (i+ms.length) (ms.foldl OD s)
 |[],i,s,h,_=>h
 |m::ms,i,s,h,hm=>by rw[bV,ah]at hm;have hu:=JB m.1.2.2 s.1;have hl:=Jl hm.1;have:=Ve ms (i+1) (OD s m) (h.port hm.1 _) hm.2;grind
theorem adv {ms:ar bC}(h:(gR ms).2=true):ms.length<=3:=by grind[gR,bq]
theorem Nx (ms:ar bC):(gR ms).1.length<=10^9/\∀p∈(gR ms).1,p.2.1.length<=10^9:=by unfold gR;cases hc:du (ms.length:Int) 1 3&&(ms.all xl&&lH (KA ms))with|false=>grind|true=>simp only[ah,bq]at hc;have:=Ve ms 0 ([0],[]) ⟨by simp,rfl,by simp⟩ hc.2.1;rw[cv]at this;exact ME this (by omega)
def iw (m:bp):Bool:=m.all (λx=>(x.length:Int)==128)&&decide ((m.length:Int)<=64)
theorem KM (m:bp)(h:m.length<=10^9):td m=some (iw m):=by
 unfold td iw;rw[vI (fin:=some (decide ((m.length:Int)<=64))) (λx:Bytes=>(x.length:Int)==128) m (by omega) (λi hi nx=>?hs) (λnx=>?hf)]
 case hs=>
  simp only[wR]
  rw[gL,aN hi,aj (by omega) (by omega)];rfl
 all_goals grind[wR]
theorem O8 (m:bp)(h:m.length<=10^9):xH m=some (iw m):=KM m h
def aay:aC:=(0,0,0,false)
def RZ (m:aC):Bool:=du m.1 0 7&&(du m.2.1 0 1023&&du m.2.2.1 0 63)
def zS (d p:Int)(m:aC):Bool:=(m.1==d)&&(m.2.1==p)
def aaw (l:ar aC)(i:Nat):Bool:=RZ (l.getD i aay)&&(range i).all (λj=> !(zS (l.getD i aay).1 (l.getD i aay).2.1 (l.getD j aay)))
def fO (l:ar aC):Bool:=decide ((l.length:Int)<=96)&&(range l.length).all (aaw l)
theorem QX (l:ar aC)(h:l.length<=10^9):sH l=some (fO l):=by
 unfold sH fO;rw[gV (hit:=some false) (fin:=some true) (aaw l) l.length (by omega) (λi nx hi=>?hs) (λnx=>?hf)]
 case hs=>
  simp only[rP]
  rw[gL,aN hi,aj (by omega) (by omega)]
  simp only[af,ab,cm,ch]
  rw[gV (hit:=some false) (fin:=nx ((i)+1)) (λj=> !(zS l[i].1 l[i].2.1 (l.getD j aay))) i (by omega) (λj nx hj=>?hs2) (λnx=>?JF)]
  case hs2=>
   grind[pE,aN,aj,ab,zS]
  all_goals grind[pE,aaw,RZ]
 all_goals grind[rP]
def adr (l:ar aC)(d p:Int):Int:=match l.findIdx? (zS d p)with|some i=>(i:Int)|none=> -1
theorem acM (l:ar aC)(d p:Int)(h:l.length<=10^9):qh l d p=some (adr l d p):=by unfold qh adr;rw[Ge (hit:=λi=>some i) (fin:=some (-1)) (zS d p) l (by omega) (λi hi nx=>?hs) (λnx=>?hf)];all_goals grind[xo,aN,aj,ab,zS]
theorem agt (l:ar aC)(i:Nat)(hi:i<l.length):(adr l l[i].1 l[i].2.1==(i:Int))=(range i).all (λj=> !(zS l[i].1 l[i].2.1 (l.getD j aay))):=by
 have HT:zS l[i].1 l[i].2.1 l[i]=true:=by simp[zS]
 unfold adr;cases hq:l.findIdx? (zS l[i].1 l[i].2.1)with
 |none=>rw[List.findIdx?_eq_none_iff]at hq;rw[hq l[i] (aE hi)]at HT;cases HT
 |some k=>
  rw[List.findIdx?_eq_some_iff_getElem]at hq;obtain⟨hk,hpk,iJ⟩:=hq;rw[dU,aP];simp only[bU,bn,aW];constructor;intro e j hj;have hjl:j<l.length:=by omega
  rw[dx hjl];have:=iJ j (by omega);simpa using this;intro LH;rcases Nat.lt_trichotomy k i with hki|hki|hki;have:=LH k hki;rw[dx hk,hpk]at this;cases this;omega;have:=iJ i hki;rw[HT]at this;simp at this
theorem Qh (l:ar aC)(h:l.length<=10^9):sr l=some (fO l):=by
 unfold sr fO;rw[gV (hit:=some false) (fin:=some (decide ((l.length:Int)<=96))) (aaw l) l.length (by omega) (λi nx hi=>?hs) (λnx=>?hf)]
 case hs=>
  simp only[rq]
  rw[gL,aN hi,aj (by omega) (by omega)]
  grind[ab,cr,acM,agt,aaw,RZ,du]
 all_goals grind[rq]
def Md (n:Int)(l:cI)(i:Nat):Bool:=du (l.getD i 0) 0 (n-1)&& !((l.take i).contains (l.getD i 0))
def ga (p:cJ):Bool:=du p.1 0 130944&&(du p.2.1 1 512&&(du p.2.2.1 0 16&&(range p.2.2.2.length).all (Md p.2.2.1 p.2.2.2)))
def LA (n:Int)(l:cI):ar Bool:=(range n.toNat).map λk:Nat=>l.contains (k:Int)
theorem Y9 (n:Int)(l:cI):(LA n l).length=n.toNat:=by simp[LA]
theorem NA (n:Int)(l:cI)(k:Nat)(h:k<(LA n l).length):(LA n l)[k]=l.contains (k:Int):=by simp[LA]
theorem akn (n:Int)(l:cI)(k:Nat)(h:k<n.toNat):(LA n l).set k true=LA n (l++[(k:Int)]):=by
 apply List.ext_getElem;simp[LA];intro j h1 h2;rw[List.getElem_set];split;rename_i e;subst e;rw[NA];simp;rename_i e;rw[NA,NA];simp only[List.contains_append];have:([(k:Int)].contains (j))=false:=by simp;omega
 rw[this];simp
theorem adu {T:(ar Bool×Int->au Bool)->ar Bool×Int->au Bool}(n:Int)(l:cI)(hl:l.length<=10^9)
 (hs:∀i (hi:i<l.length)(s:ar Bool) nx,T nx (s,(i:Int))=aa (cond (!(du l[i] 0 (n-1))) (some true) (aa (idx s l[i]) λx=>some x)) λq=>
  cond q (some false) (aa (idx s l[i]) λ_=>aa (idx s l[i]) λ_=>nx (s.set l[i].toNat true,((i+1:Nat):Int)))) (hf:∀s nx,T nx (s,(l.length:Int))=some true):
 aH T fuel (List.replicate n.toNat false,0)=some ((range l.length).all (Md n l)):=by
 have e0:(List.replicate n.toNat false,(0))=(LA n (l.take 0),((0:Nat):Int)):=by congr 1;simp only[LA,List.take_zero,List.contains_nil,List.map_const',List.length_range]
 rw[e0,M8 (λi=>(LA n (l.take i),(i:Int))) (Md n l) l.length (by omega) (λi nx hi hp=>?hs) (λ_ nx=>hf _ nx)]
 case hs=>
  rw[hs i hi]
  unfold Md
  rw[dx hi]
  by_cases vG:du l[i] 0 (n-1)=true
  ·have hb:=vG
   rw[bq]at hb
   obtain⟨k,hk⟩:∃k:Nat,l[i]=(k):=⟨l[i].toNat,by omega⟩
   have hkn:k<(LA n (l.take i)).length:=by rw[Y9];omega
   rw[vG,hk,aN hkn,NA]
   simp only[ai,ae,ab,bj,lv,aw]
   rw[akn _ _ _ (by rw[Y9]at hkn;exact hkn),<-hk,<-aO hi]
  ·have ame:du l[i] 0 (n-1)=false:=by simpa using vG
   rw[ame];rfl
 cases (range l.length).all (Md n l)<;>rfl
theorem yg (p:cJ)(h:p.2.2.2.length<=10^9):jK p=some (ga p):=by
 unfold jK ga;simp only[cm,ab,ch];by_cases hn:du p.2.2.1 0 16=true
 ·have hb:=hn;rw[bq]at hb;rw[zip,aQ (by omega),adu p.2.2.1 p.2.2.2 h (λi hi s nx=>?hs) (λs nx=>?hf)]
  case hs=>
   simp only[B7]
   rw[gL,aN hi,aj (by omega) (by omega),aj (by omega) (by omega)]
   simp only[af,ab,cm];rfl
  case hf=>
   simp only[B7]
   rw[fG];rfl
  rw[hn];cases du p.1 0 130944<;>cases du p.2.1 1 512<;>rfl
 have Fq:du p.2.2.1 0 16=false:=by simpa using hn
 rw[Fq];cases du p.1 0 130944<;>cases du p.2.1 1 512<;>rfl
theorem Au (p:cJ)(h:p.2.2.2.length<=10^9):jD p=some (ga p):=by
 unfold jD ga;simp only[cr,ab,ch];by_cases hn:du p.2.2.1 0 16=true
 ·have hb:=hn;rw[bq]at hb;rw[zip,aQ (by omega),adu p.2.2.1 p.2.2.2 h (λi hi s nx=>?hs) (λs nx=>?hf)]
  case hs=>
   simp only[AJ]
   rw[gL,aN hi,aj (by omega) (by omega),aj (by omega) (by omega)]
   simp only[af,ab,cr];rfl
  case hf=>
   simp only[AJ]
   rw[fG];rfl
  rw[hn];cases du p.1 0 130944<;>cases du p.2.1 1 512<;>rfl
 have Fq:du p.2.2.1 0 16=false:=by simpa using hn
 rw[Fq];cases du p.1 0 130944<;>cases du p.2.1 1 512<;>rfl
def mB (n:Int):Bool:=(n==2)||((n==4)||((n==8)||(n==16)))
theorem J9 (n:Int):xe n=some (mB n):=by grind[xe,ab,mB]
theorem MK (n:Int):xN n=some (mB n):=J9 n
theorem oR {n:Int}:mB n=true↔n=2\/n=4\/n=8\/n=16:=by simp[mB]
theorem JC (x:Int)(k:Nat)(hk:k<=64:=by omega):ak x%(2^k:Int)=x%(2^k:Int):=by
 obtain⟨c,hc⟩:∃c:Int,(18446744073709551616)=2^k*c:=⟨2^(64-k),by rw[<-Int.pow_add,show k+(64-k)=64 by omega];rfl⟩
 have:ak x=x\/∃q:Int,ak x=x+18446744073709551616*q:=by right;simp only[ak,gU,IntKind.wrap,IntKind.bits,IntKind.signed];simp;split;exact⟨-(x/18446744073709551616)-1,by omega⟩;exact⟨-(x/18446744073709551616),by omega⟩
 rcases this with h|⟨q,h⟩;all_goals simp_all[Int.mul_assoc]
theorem I1 (x:Int)(k:Nat)(hk:k<63:=by omega):((gv x&&&gv (2^k-1)).toNat:Int)=x%2^k:=by
 have h2:(2)^k<=2^62:=by have:(2)^k<=2^62:=Nat.pow_le_pow_right (by omega) (by omega);exact_mod_cast this
 have hm:(gv (2^k-1)).toNat=2^k-1:=by show(BitVec.ofInt 64 (2^k-1)).toNat=2^k-1;grind
 rw[BitVec.toNat_and,hm,Nat.and_two_pow_sub_one_eq_mod];have hx:0<=x%18446744073709551616:=by omega
 have e:(((x%18446744073709551616).toNat%2^k))=(x%18446744073709551616)%2^k:=by push_cast;rw[Int.toNat_of_nonneg hx]
 refine e.trans ?_;exact Int.emod_emod_of_dvd x ⟨2^(64-k),by rw[<-Int.pow_add,show k+(64-k)=64 by omega];rfl⟩
theorem R4 (x n:Int)(h0:0<n:=by omega)(h1:n<=4611686018427387904:=by omega):jE x n=some (x%n):=by unfold jE;have:=Int.emod_nonneg x (show n≠0 by omega);grind[gG,aj]
def dv (r:kl):Int:=if mB r.2.1 then(r.2.2.2-r.2.2.1)%(2*r.2.1) else 0
theorem Hw (r:kl):kB r=some (dv r):=by
 unfold kB dv;rw[J9,ab];cases hs:mB r.2.1 with
 |false=>rfl
 |true=>
  congr 1;rcases oR.1 hs with h|h|h|h<;>rw[h];have e:ak (ak (2*2)-1)=2^2-1:=by decide
  rw[e,I1 _ 2,JC _ 2,aj (by omega) (by omega)];rfl;have e:ak (ak (2*4)-1)=2^3-1:=by decide
  rw[e,I1 _ 3,JC _ 3,aj (by omega) (by omega)];rfl;have e:ak (ak (2*8)-1)=2^4-1:=by decide
  rw[e,I1 _ 4,JC _ 4,aj (by omega) (by omega)];rfl;have e:ak (ak (2*16)-1)=2^5-1:=by decide
  rw[e,I1 _ 5,JC _ 5,aj (by omega) (by omega)];rfl
theorem GO (r:kl):kv r=some (dv r):=by unfold kv dv;rw[MK,ab];cases hs:mB r.2.1 with|false=>rfl|true=>have hb:=oR.1 hs;rw[aj (by omega) (by omega)];simp only[R4 _ (2*r.2.1) (show 0<2*r.2.1 by omega),ab];grind[aj]
def fT (r:kl):Bool:=du r.1 0 130944&&(mB r.2.1&&(du r.2.2.1 0 (2*r.2.1-1)&&(du r.2.2.2 0 (2*r.2.1-1)&&decide (dv r<=r.2.1))))
theorem NB {n:Int}(h:mB n=true):ak (ak (2*n)-1)=2*n-1:=by grind[oR,aj]
theorem Ey (r:kl):kV r=some (fT r):=by unfold kV fT;simp only[cm,J9,Hw,ab,ch,cF];grind[mB,NB]
theorem Ea (r:kl):kR r=some (fT r):=by unfold kR fT;simp only[cr,MK,GO,ab,ch,cF];grind[mB,NB]
theorem CO (p:cJ)(h:p.2.2.2.length<=10^9):kD p=some p:=by grind[kD,aQ]
theorem nP (l:cI)(h:l.length<=10^9):gh l=some l:=by grind[gh,aQ]
theorem zE (p:cJ)(h:p.2.2.2.length<=10^9):jj p=some p:=by simp_all[jj,nP]
def Uf (p:cJ)(l:cI):cJ:=(p.1,p.2.1,p.2.2.1,p.2.2.2++l)
def PZ (p:cJ)(l:cI):Bool:=ga p&&ga (Uf p l)
def Vi (p:cJ)(l:cI):cJ×Bool:=bif PZ p l then(Uf p l,true) else(p,false)
theorem Wp (p:cJ)(l:cI)(h:p.2.2.2.length+l.length<=10^9):iy p l=some (Vi p l):=by unfold iy;rw[CO p (by omega),ab,aQ (by omega),yg p (by omega)];rw[yg (p.1,p.2.1,p.2.2.1,p.2.2.2++l) (by simp;omega)];show _=some (bif ga p&&ga (p.1,p.2.1,p.2.2.1,p.2.2.2++l) then _ else _);cases ga p<;>cases ga (p.1,p.2.1,p.2.2.1,p.2.2.2++l)<;>rfl
theorem VA (p:cJ)(l:cI)(h:p.2.2.2.length+l.length<=10^9):gy p l=some (Vi p l):=by unfold gy;rw[zE p (by omega),ab,aQ (by omega),Au p (by omega)];rw[Au (p.1,p.2.1,p.2.2.1,p.2.2.2++l) (by simp;omega)];show _=some (bif ga p&&ga (p.1,p.2.1,p.2.2.1,p.2.2.2++l) then _ else _);cases ga p<;>cases ga (p.1,p.2.1,p.2.2.1,p.2.2.2++l)<;>rfl
theorem alX (p:cJ)(l:cI):(Vi p l).2=PZ p l:=by grind[Vi]
def jR (n:Int)(s:ie):Bool:=du s.2.1 1 n&&du s.1 0 65535
def cG (l:ar ie):cI:=l.flatMap (·.2.2)
def eK (l:ar ie):Int:=(l.map (·.2.1)).sum
def Tv (t:bX):Bool:=fT t.1&&(ga t.2.1&&(du t.2.2.2 0 65535&&(t.2.2.1.all (jR t.1.2.1)&&(PZ t.2.1 (cG t.2.2.1)&&decide (eK t.2.2.1<=t.1.2.1)))))
theorem PL (n:Int):∀l:ar ie,l.all (jR n)=true->0<=eK l
 |[],_=>by simp[eK]
 |x::l,h=>by simp only[bV,ah]at h;have:=PL n l h.2;grind[jR,bq,eK]
theorem Zj (p:cJ)(n:Int)(hn:0<=n/\n<=16)(fin:Int×cI->au Bool)(nk:∀s:Int×cI,p.2.2.2.length+s.2.length<=10^9->fin s=some (PZ p s.2&&decide (s.1<=n))):
 ∀(l:ar ie)(sum:Int)(acc:cI),0<=sum->sum+16*l.length<=100000000000->p.2.2.2.length+(acc.length+(cG l).length)<=10^9->
 zG (λx (s:Int×cI) k=>cond (!(jR n x)) (some false) (room (s.2.length+x.2.2.length) (k (ak (s.1+x.2.1),s.2++x.2.2)))) fin l (sum,acc)
  =some (l.all (jR n)&&(PZ p (acc++cG l)&&decide (sum+eK l<=n)))
 |[],sum,acc,h0,h1,h2=>by simp_all[zG,cG,eK]
 |x::l,sum,acc,h0,h1,h2=>by
  have hb:cG (x::l)=x.2.2++cG l:=by simp[cG]
  rw[hb,ay]at h2;rw[zG,bV];cases hx:jR n x with
  |false=>rfl
  |true=>
   have Fe:=hx;unfold jR at Fe;simp only[ah,bq]at Fe;simp only[bJ,dg,dh]at h1;simp only[ai,ae,bj];rw[aQ (by omega),aj (by omega) (by omega),Zj p n hn fin nk l _ _ (by omega) (by omega) (by rw[ay];omega)];rw[hb,aX];have e:sum+x.2.1+eK l=sum+eK (x::l):=by grind[eK]
   rw[e]
theorem YA (p:cJ)(n:Int)(hn:n<=16)(fin:Int×cI->au Bool)(nk:∀s:Int×cI,p.2.2.2.length+s.2.length<=10^9->fin s=some (PZ p s.2)):
 ∀(l:ar ie)(left:Int)(acc:cI),0<=left->left<=n->p.2.2.2.length+(acc.length+(cG l).length)<=10^9->
 zG (λx (s:Int×cI) k=>cond (decide (x.2.1<1)||(decide (x.2.1>s.1)|| !(du x.1 0 65535))) (some false) (room (s.2.length+x.2.2.length) (k (ak (s.1-x.2.1),s.2++x.2.2)))) fin l (left,acc)
  =some (l.all (jR n)&&(PZ p (acc++cG l)&&decide (eK l<=left)))
 |[],left,acc,h0,h1,h2=>by rw[zG,nk _ (by exact h2)];simp[cG,eK,h0]
 |x::l,left,acc,h0,h1,h2=>by
  have hb:cG (x::l)=x.2.2++cG l:=by simp[cG]
  have hc:eK (x::l)=x.2.1+eK l:=by simp only[eK,ew,List.sum_cons]
  rw[hb,ay]at h2;rw[zG,bV,hb,hc];by_cases c1:x.2.1<1;have e:jR n x=false:=by unfold jR du;rw[aq (show¬1<=x.2.1 by omega)];rfl
  rw[e,ax c1];rfl;rw[aq c1];by_cases c2:x.2.1>left;rw[ax c2];cases ha:l.all (jR n)with|false=>simp|true=>have:=PL n l ha;rw[aq (show¬x.2.1+eK l<=left by omega)];simp
  rw[aq c2];have e:jR n x=du x.1 0 65535:=by have:du x.2.1 1 n=true:=bq.2 ⟨by omega,by omega⟩;unfold jR;rw[this];rfl
  rw[e];cases du x.1 0 65535 with
  |false=>rfl
  |true=>
   simp only[cC,ai,ae,bj];rw[aQ (by omega),aj (by omega) (by omega),YA p n hn fin nk l _ _ (by omega) (by omega) (by rw[ay];omega),aX];have e:decide (eK l<=left-x.2.1)=decide (x.2.1+eK l<=left):=by simp;omega
   rw[e]
theorem agY (t:bX)(h1:t.2.2.1.length<=10^9)(h2:t.2.1.2.2.2.length+(cG t.2.2.1).length<=10^9):Gr t=some (Tv t):=by
 unfold Gr Tv;simp only[Ey,yg _ (show t.2.1.2.2.2.length<=10^9 by omega),cm,ab,ch];cases hr:fT t.1 with
 |false=>rfl
 |true=>
  have hn:0<=t.1.2.1/\t.1.2.1<=16:=by grind[fT,oR]
  have Ae:=da;have key:=CN (T:=Cd (λ(y9) (uu) (_)=>aa (iy t.2.1 uu) λpz=>some (bif pz.2 then decide (y9<=t.1.2.1) else false)) (λ(Ad) (_) (_) (_)=>some Ad) false t) t.2.2.1 (λ(s) i=>(s.1,s.2,(i))) (λx (s) k=>cond (!(jR t.1.2.1 x)) (some false) (room (s.2.length+x.2.2.length) (k (ak (s.1+x.2.1),s.2++x.2.2)))) (λs=>aa (iy t.2.1 s.2) λpz=>some (pz.2&&decide (s.1<=t.1.2.1))) (λi hi s nx=>by simp(disch:=omega)[Cd,ax,aN,aj,cm,jR]) (λs nx=>by grind[Cd]) fuel 0 (0,([])) (by omega) (by omega);rw[fJ,Zj t.2.1 t.1.2.1 hn _ (λs hs=>by grind[Wp,ab,alX]) _ _ _ (by omega) (by omega) (by simpa using h2)]at key;grind
theorem afX (t:bX)(h1:t.2.2.1.length<=10^9)(h2:t.2.1.2.2.2.length+(cG t.2.2.1).length<=10^9):Gg t=some (Tv t):=by
 unfold Gg Tv;simp only[Ea,Au _ (show t.2.1.2.2.2.length<=10^9 by omega),cr,ab,ch];cases hr:fT t.1 with
 |false=>rfl
 |true=>
  have hn:0<=t.1.2.1/\t.1.2.1<=16:=by grind[fT,oR]
  have Ae:=da;have key:=CN (T:=AO (λ(_) (y9) (_)=>aa (gy t.2.1 y9) λtX=>some tX.2) (λ(Gb) (_) (_) (_)=>some Gb) false t.2.2.1 ((List.length t.2.2.1)) t) t.2.2.1 (λ(s) i=>(s.1,s.2,(i))) (λx (s) k=>cond (decide (x.2.1<1)||(decide (x.2.1>s.1)|| !(du x.1 0 65535))) (some false) (room (s.2.length+x.2.2.length) (k (ak (s.1-x.2.1),s.2++x.2.2)))) (λs=>aa (gy t.2.1 s.2) λpz=>some pz.2) (λi hi s nx=>by simp(disch:=omega)[AO,ax,aN,aj,cr,ch]) (λs nx=>by grind[AO]) fuel 0 (t.1.2.1,([])) (by omega) (by omega);rw[fJ,YA t.2.1 t.1.2.1 (by omega) _ (λs hs=>by grind[VA,ab,alX]) _ _ _ (by omega) (by omega) (by simpa using h2)]at key;grind
def QL (s:ej):Bool:=du s.2.1 0 65535&&(du s.2.2.1 0 65535&&(!decide ((List.length s.2.2.2.2.2.2.2:Int)>320)&&
 (bif s.1==17 then(s.2.2.2.1==0)&&((s.2.2.2.2.1==0)&&((s.2.2.2.2.2.1==0)&&(s.2.2.2.2.2.2.1==0)))
  else(s.1==6)&&(du s.2.2.2.1 0 4294967295&&(du s.2.2.2.2.1 0 4294967295&&(du s.2.2.2.2.2.1 0 31&&du s.2.2.2.2.2.2.1 0 65535))))))
theorem aio (s:ej):vB s=some (QL s):=by simp_all[vB,cm,ch,Bool.and_assoc,QL]
theorem ahV (s:ej):uN s=some (QL s):=by simp only[uN,cr,ab,ch,cF,cT,cN,Bool.not_or,lv,Bool.and_assoc,QL];by_cases h:s.1=17;rw[h];rfl;rw[show(s.1==17)=false from by simpa using h];cases s.1==6<;>rfl
def Mb (f:Int):Bool:=(f==16)||(f==17)||(f==24)||(f==25)
theorem U9 (f:Int)(h:du f 0 31=true):(ak (toNat (gv f&&&~~~ gv 9))==16)=Mb f:=by
 have key:∀k:Fin 32,(ak (toNat (gv (k.val:Int)&&&~~~ gv 9))==16)=Mb (k.val:Int):=by decide
 rw[bq]at h;have:=key ⟨f.toNat,by omega⟩;grind
theorem U8 (f:Int)(h:du f 0 31=true):uS f=some (Mb f):=by
 have key:∀k:Fin 32,((ak (toNat (gv (k.val:Int)&&&gv 16)) !=0)&&(ak (toNat (gv (k.val:Int)&&&~~~ gv 25))==0))=Mb (k.val:Int):=by decide
 rw[bq]at h;have:=key ⟨f.toNat,by omega⟩;rw[show((f.toNat:Nat):Int)=f by omega]at this;grind[uS,ab]
theorem Sm {s:ej}(h:QL s=true)(h6:(s.1==6)=true):du s.2.2.2.2.2.1 0 31=true:=by grind[QL]
def Mh (p:aR):Bool:=du p.1 0 281474976710655&&(du p.2.1 0 281474976710655&&(du p.2.2.1 (-1) 4095&&(du p.2.2.2.1 0 255&&(du p.2.2.2.2.2.1 0 255&&(du p.2.2.2.2.1 0 65535&&(du p.2.2.2.2.2.2.1 0 4294967295&&(du p.2.2.2.2.2.2.2.1 0 4294967295&&QL p.2.2.2.2.2.2.2.2)))))))
def dL (p:aR):Bool:=Mh p&&(decide ((List.length p.2.2.2.2.2.2.2.2.2.2.2.2.2.2.2:Int)<=128)||(p.2.2.2.2.2.2.2.2.1==6)&&Mb p.2.2.2.2.2.2.2.2.2.2.2.2.2.1)
theorem Vo (h:Mh p=true):QL p.2.2.2.2.2.2.2.2=true:=by grind[Mh]
theorem qG (p:aR):gP p=some (dL p):=by unfold gP dL;simp only[cm,aio,ab,ch,cF,cT,cN,Bool.not_or,lv];rw[show(du p.1 0 281474976710655&&(du p.2.1 0 281474976710655&&(du p.2.2.1 (-1) 4095&&(du p.2.2.2.1 0 255&&(du p.2.2.2.2.2.1 0 255&&(du p.2.2.2.2.1 0 65535&&(du p.2.2.2.2.2.2.1 0 4294967295&&(du p.2.2.2.2.2.2.2.1 0 4294967295&&QL p.2.2.2.2.2.2.2.2))))))))=Mh p from rfl];grind[U9,Sm,Vo,Bool.or_comm]
theorem nC (p:aR):gm p=some (dL p):=by unfold gm dL;simp only[cr,ahV,ab];grind[Mh,U8,Sm,ab]
def iG (q:Cx):Bool:=du q.1 0 130944&&(mB q.2.1&&du q.2.2 0 (ak ((ak (2*q.2.1))-1)))
theorem Su (q:Cx):rU q=some (iG q):=by grind[rU,cm,J9,ab,iG]
theorem RP (q:Cx):rA q=some (iG q):=by grind[rA,cr,MK,ab,iG]
def akT:kY:=((0,0,0,0,0,0,0,0,0,0,0,0,0,0,0,([]:Bytes)),0,0)
def aek (p:kY):Bool:=(p.1.1==0)&&((p.1.2.1==0)&&((p.1.2.2.1==0)&&((p.1.2.2.2.1==0)&&((p.1.2.2.2.2.1==0)&&((p.1.2.2.2.2.2.1==0)&&((p.1.2.2.2.2.2.2.1==0)&&((p.1.2.2.2.2.2.2.2.1==0)&&((p.1.2.2.2.2.2.2.2.2.1==0)&&((p.1.2.2.2.2.2.2.2.2.2.1==0)&&((p.1.2.2.2.2.2.2.2.2.2.2.1==0)&&((p.1.2.2.2.2.2.2.2.2.2.2.2.1==0)&&((p.1.2.2.2.2.2.2.2.2.2.2.2.2.1==0)&&((p.1.2.2.2.2.2.2.2.2.2.2.2.2.2.1==0)&&((p.1.2.2.2.2.2.2.2.2.2.2.2.2.2.2.1==0)&&((p.1.2.2.2.2.2.2.2.2.2.2.2.2.2.2.2==([]:Bytes))&&((p.2.1==0)&&((p.2.2==0)&&true)))))))))))))))))
def QK (r:bk):Bool:=(fT r.1&&(iG r.2.1&&(iG r.2.2.1&&((r.2.1.1==r.2.2.1.1)&&((r.2.1.2.1==r.2.2.1.2.1)&&du r.2.2.2.2.2 0 1000000000000)))))&&
 (bif r.2.2.2.2.1 then dL r.2.2.2.1.1&&(du r.2.2.2.1.2.1 0 320&&du r.2.2.2.1.2.2 1 320) else aek r.2.2.2.1)
theorem anV (p:kY):aek p=true↔p=akT:=by grind[aek,akT]
theorem aba (r:bk):C1 r=some (QK r):=by unfold C1 QK aek;simp_all[Ey,Su,cm,qG,ch,bne]
theorem aas (r:bk):CL r=some (QK r):=by unfold CL QK aek;simp_all[Ea,RP,cr,nC,ch,bne]
def uq (v:Vector):Bool:=(kC v).getD false
theorem CY (v:Vector):kC v=some (uq v):=by simp_all[kC,vC,cm,ch,uq]
theorem GP (v:Vector):oN v=some (uq v):=CY v
theorem Sg (l:ar α)(p:α->Bool):(range l.length).all (λi=>l[i]?.all p)=l.all p:=by rw[dU,aP,aP];constructor;intro h x hx;obtain⟨i,hi,rfl⟩:=List.getElem_of_mem hx;have:=h i (bU.2 hi);rwa[al hi]at this;intro h i hi;rw[al (bU.1 hi)];exact h _ (aE _)
theorem ahs (l:ar α)(p q:α->Bool):l.all (λx=>p x&&q x)=(l.all p&&l.all q):=by grind
def kK (h:Host):cI:=[h.2.2.2.2.2.2.2.2.2.2.2.2.2.2.1,h.2.2.2.2.2.2.2.2.2.2.2.2.2.2.2.1,h.2.2.2.2.2.2.2.2.2.2.2.2.2.2.2.2.1,h.2.2.2.2.2.2.2.2.2.2.2.2.2.2.2.2.2.1,h.2.2.2.2.2.2.2.2.2.2.2.2.2.2.2.2.2.2]
def zR (h:Host):Bool:=du (h.2.2.2.1.length:Int) 1 2&&(((h.2.2.2.2.1.length:Int)==(h.2.2.2.1.length:Int))&&(((h.2.2.2.2.2.1.length:Int)==(h.2.2.2.1.length:Int))&&((h.2.2.2.2.2.2.1.length:Int)==(h.2.2.2.1.length:Int))))
def Y4 (h:Host):Bool:=h.2.2.2.1.all QK&&(h.2.2.2.2.1.all ga&&h.2.2.2.2.2.1.all uq)
def fy (h:Host):Bool:=iw h.1&&(fO h.2.1&&(Tv h.2.2.1&&(il h.2.2.2.2.2.2.2.1&&(zR h&&(jd h.2.2.2.2.2.2.2.2.1 (h.2.2.2.1.length:Int)&&(Y4 h&&(kK h).all (λx=>du x 0 1000000000000)))))))
structure LX (h:Host):Prop where
 a1:h.1.length<=10^9
 a2:h.2.1.length<=10^9
 t1:h.2.2.1.2.2.1.length<=10^9
 t2:h.2.2.1.2.1.2.2.2.length+(cG h.2.2.1.2.2.1).length<=10^9
 f1:h.2.2.2.2.2.2.2.1.2.2.length<=10^9
 s1:h.2.2.2.2.2.2.2.2.1.1.length<=10^9
 s2:h.2.2.2.2.2.2.2.2.1.2.1.length<=10^9
 s3:h.2.2.2.2.2.2.2.2.1.2.2.2.length<=10^9
 p1:∀p∈h.2.2.2.2.1,p.2.2.2.length<=10^9
theorem px (l:zR h=true):h.2.2.2.1.length<=2/\h.2.2.2.2.1.length=h.2.2.2.1.length/\h.2.2.2.2.2.1.length=h.2.2.2.1.length/\h.2.2.2.2.2.2.1.length=h.2.2.2.1.length:=by grind[zR,bq]
theorem Y5 {T:(Int->au R)->Int->au R}{fin hit:au R}(l:zR h=true)(hs:∀i (hi:i<h.2.2.2.1.length) nx,T nx (i:Int)=cond (!(QK h.2.2.2.1[i]&&(ga (h.2.2.2.2.1[i]'((px l).2.1▸hi))&&uq (h.2.2.2.2.2.1[i]'((px l).2.2.1▸hi))))) hit (nx ((i+1:Nat):Int)))(hf:∀nx,T nx (h.2.2.2.1.length:Int)=fin):aH T fuel 0=cond (Y4 h) fin hit:=by
 have hl:=px l;rw[gV (fin:=fin) (hit:=hit) (λi=>h.2.2.2.1[i]?.all QK&&(h.2.2.2.2.1[i]?.all ga&&h.2.2.2.2.2.1[i]?.all uq)) h.2.2.2.1.length (by omega) ?hs hf]
 case hs=>
  grind
 rw[ahs,ahs,Sg];have e1:=Sg h.2.2.2.2.1 ga;have e2:=Sg h.2.2.2.2.2.1 uq;rw[hl.2.1]at e1;rw[hl.2.2.1]at e2;rw[e1,e2];rfl
theorem SJ {T:(Int->au R)->Int->au R}{fin hit:au R}(h:Host)(hs:∀i (hi:i<(kK h).length) nx,T nx (i:Int)=cond (!(du (kK h)[i] 0 1000000000000)) hit (nx ((i+1:Nat):Int)))(hf:∀nx,T nx ((kK h).length:Int)=fin):aH T fuel 0=cond ((kK h).all (λx=>du x 0 1000000000000)) fin hit:=vI (λx=>du x 0 1000000000000) (kK h) (by simp[kK]) hs hf
theorem vw (h:Host)(z:LX h):jJ h=some (fy h):=by
 unfold jJ fy;simp only[KM _ z.a1,QX _ z.a2,agY _ z.t1 z.t2,zw _ z.f1,Q2 _ _ z.s1 z.s2 z.s3,cm,ab,ch];cases iw h.1;rfl;cases fO h.2.1;rfl;cases Tv h.2.2.1;rfl;cases il h.2.2.2.2.2.2.2.1;rfl;simp only[ai,ae,cT,bne];rw[show(!du (h.2.2.2.1.length:Int) 1 2||(!((h.2.2.2.2.1.length:Int)==(h.2.2.2.1.length:Int))||(!((h.2.2.2.2.2.1.length:Int)==(h.2.2.2.1.length:Int))||(!((h.2.2.2.2.2.2.1.length:Int)==(h.2.2.2.1.length:Int))|| !jd h.2.2.2.2.2.2.2.2.1 (h.2.2.2.1.length:Int)))))= !(zR h&&jd h.2.2.2.2.2.2.2.2.1 (h.2.2.2.1.length:Int)) by unfold zR;simp only[Bool.not_and,Bool.or_assoc]];cases hl:zR h;rfl;cases jd h.2.2.2.2.2.2.2.2.1 (h.2.2.2.1.length:Int);rfl;have hL:=px hl;simp only[gw,ai,ae,bj];rw[Y5 (h:=h) (hit:=some false) (fin:=some ((kK h).all (λx=>du x 0 1000000000000))) hl ?hs ?hf]
 case hs=>
  intro i hi nx
  simp only[B0]
  rw[gL,aN hi,aN (hL.2.1▸hi),aN (hL.2.2.1▸hi),aj (n:=(i:Int)+1) (by omega) (by omega)]
  simp only[af,ab,aba,CY,yg _ (z.p1 _ (aE _)),ch,cT,Bool.not_and]
  rfl
 case hf=>
  intro nx
  simp only[B0]
  rw[fG]
  simp only[ae]
  refine(SJ (fin:=some true) (hit:=some false) h ?_ ?_).trans ?_
  ·intro i hi nx
   simp only[yM]
   have uw:i<5:=hi
   change (bif decide ((i:Int)<5) then aa (idx (kK h) (i:Int)) _ else _)=_
   rw[gL,aN hi,aj (n:=(i:Int)+1) (by omega) (by omega),ab,cm]
   rfl
  ·intro nx
   simp only[yM]
   rw[aq (by simp[kK])];rfl
  ·cases (kK h).all (λx=>du x 0 1000000000000)<;>rfl
 cases Y4 h<;>rfl
theorem As (h:Host)(z:LX h):jC h=some (fy h):=by
 unfold jC fy;simp only[O8 _ z.a1,Qh _ z.a2,afX _ z.t1 z.t2,uK _ z.f1,Qn _ _ z.s1 z.s2 z.s3,cr,ab,ch];cases iw h.1;rfl;cases fO h.2.1;rfl;cases Tv h.2.2.1;rfl;cases il h.2.2.2.2.2.2.2.1;rfl;simp only[ai,ae,cT,bne];rw[show(!du (h.2.2.2.1.length:Int) 1 2||(!((h.2.2.2.2.1.length:Int)==(h.2.2.2.1.length:Int))||(!((h.2.2.2.2.2.1.length:Int)==(h.2.2.2.1.length:Int))|| !((h.2.2.2.2.2.2.1.length:Int)==(h.2.2.2.1.length:Int)))))= !(zR h) by unfold zR;simp only[Bool.not_and]];cases hl:zR h;rfl;have hL:=px hl;simp only[ai,ae,bj];rw[Y5 (h:=h) (hit:=some false) (fin:=some ((kK h).all (λx=>du x 0 1000000000000)&&jd h.2.2.2.2.2.2.2.2.1 (h.2.2.2.1.length:Int))) hl ?hs ?hf]
 case hs=>
  intro i hi nx
  simp only[AE]
  rw[gL,aN hi,aN (hL.2.1▸hi),aN (hL.2.2.1▸hi),aj (n:=(i:Int)+1) (by omega) (by omega)]
  simp only[af,ab,aas,GP,Au _ (z.p1 _ (aE _)),ch,cT,Bool.not_and]
  rfl
 case hf=>
  intro nx
  simp only[AE]
  rw[fG]
  simp only[ae]
  refine(SJ (fin:=some (jd h.2.2.2.2.2.2.2.2.1 (h.2.2.2.1.length:Int))) (hit:=some false) h ?_ ?_).trans ?_
  ·intro i hi nx
   simp only[yw]
   have uw:i<5:=hi
   change (bif decide ((i:Int)<5) then aa (idx (kK h) (i:Int)) _ else _)=_
   rw[gL,aN hi,aj (n:=(i:Int)+1) (by omega) (by omega),ab,cr]
   rfl
  ·intro nx
   simp only[yw]
   rw[aq (by simp[kK])];rfl
  ·cases (kK h).all (λx=>du x 0 1000000000000)<;>rfl
 cases Y4 h<;>cases jd h.2.2.2.2.2.2.2.2.1 (h.2.2.2.1.length:Int)<;>cases (kK h).all (λx=>du x 0 1000000000000)<;>rfl
def aoT (v:Int)(b:Bytes):Bytes:=((gT v++gT (b.length:Int))++b)++gT (XX ((gT v++gT (b.length:Int))++b))
def qz (v:Int)(b:Bytes):Bytes×Bool:=bif du v 0 1000000&&decide (b.length<=84) then(aoT v b,true) else([],false)
theorem anL (v:Int)(b:Bytes)(h:b.length<=10^9):B5 v b=some (qz v b):=by have l1:=dD v;have l2:=dD (b.length:Int);unfold B5 qz;rw[aj (by omega) (by omega)];simp only[cm,ab];cases du v 0 1000000 with|false=>rfl|true=>by_cases hb:b.length<=84;have l3:=dD (XX ((gT v++gT (b.length:Int))++b));rw[aq (show¬((b.length:Int)+12>96) by omega),ax hb];simp only[ai,ae,ab,cB,af,lK];rw[aQ (by omega),aQ (by simp only[ay];omega),aim _ (by simp only[ay];omega)];simp only[ab,lK];rw[aQ (by simp only[ay];omega)];rfl;rw[ax (show((b.length:Int)+12>96) by omega),aq hb];rfl
theorem amD (v:Int)(b:Bytes)(h:b.length<=10^9):AG v b=some (qz v b):=by have l1:=dD v;have l2:=dD (b.length:Int);unfold AG qz;rw[aj (by omega) (by omega)];simp only[cr,ab];cases du v 0 1000000 with|false=>rfl|true=>by_cases hb:b.length<=84;have l3:=dD (XX ((gT v++gT (b.length:Int))++b));rw[aq (show¬(12+(b.length:Int)>96) by omega),ax hb];simp only[ai,ae,ab,cB,af,zu];rw[aQ (by omega),aQ (by simp only[ay];omega),ahS _ (by simp only[ay];omega)];simp only[ab,zu];rw[aQ (by simp only[ay];omega)];rfl;rw[ax (show(12+(b.length:Int)>96) by omega),aq hb];rfl
def aoe (s:Bytes)(n:Nat):Int:=bif (qz (ec s 0) ((s.take (8+n)).drop 8)).2&&((qz (ec s 0) ((s.take (8+n)).drop 8)).1==s.take (12+n)) then ec s 0 else-1
def jM (s:Bytes):Int:=if 0<=ec s 4/\ec s 4<=(s.length:Int)-12 then aoe s (ec s 4).toNat else-1
theorem acf (s:Bytes)(a:Int): -1<=ec s a/\ec s a<=4294967295:=by grind[ec,fw]
theorem ak2 {n:Nat}(h:¬n<=84)(hs:n+12<=s.length):aoe s n= -1:=by grind[qz,aoe]
theorem Um (s:Bytes)(h:s.length<=10^9):jt s=some (jM s):=by
 unfold jt jM;have hg:=acf s 4;simp only[CW s _ h,cm,ab];rw[aj (n:=ec s 4+12) (by omega) (by omega),aj (n:=8+ec s 4) (by omega) (by omega)];generalize ec s 4=n at hg;by_cases hc:0<=n/\n<=(s.length:Int)-12;rw[aM hc];obtain⟨m,rfl⟩:=aD hc.1;by_cases h84:m<=84;have e1:du (m:Int) 0 84=true:=bq.2 (by omega);have e2:sub s 8 (8+(m:Int))=some ((s.take (8+m)).drop 8):=by unfold sub;rw[zip];rfl
 have e3:sub s 0 ((m:Int)+12)=some (s.take (12+m)):=by unfold sub;rw[zip,show((m:Int)+12).toNat=12+m by omega];rfl
 rw[e1,aq (show¬((m:Int)+12>(s.length:Int)) by omega),e2,e3];simp only[ai,ae,ab,aw];rw[anL _ _ (by simp only[bl,bm];omega)];unfold aoe;simp only[ab];cases (qz (ec s 0) ((s.take (8+m)).drop 8)).2<;>cases ((qz (ec s 0) ((s.take (8+m)).drop 8)).1==s.take (12+m))<;>rfl;have e1:du (m:Int) 0 84=false:=by rw[Bool.eq_false_iff,ne_eq,bq];omega
 rw[e1,aw,ak2 h84 (by omega)];rfl;rw[aK hc];by_cases hb:du n 0 84=true;have:=bq.1 hb;rw[hb,ax (show n+12>(s.length:Int) by omega)];rfl;have ig:du n 0 84=false:=by simpa using hb
 rw[ig];rfl
theorem Qr (s:Bytes)(h:s.length<=10^9:=by omega):jn s=some (jM s):=by
 unfold jn jM;have hg:=acf s 4;simp only[CJ s _ h,ab];rw[aj (n:=12+ec s 4) (by omega) (by omega),aj (n:=8+ec s 4) (by omega) (by omega),aj (n:=(s.length:Int)-12) (by omega) (by omega)];generalize ec s 4=n at hg;by_cases hc:0<=n/\n<=(s.length:Int)-12;rw[aM hc];obtain⟨m,rfl⟩:=aD hc.1;have e2:sub s 8 (8+(m:Int))=some ((s.take (8+m)).drop 8):=by unfold sub;rw[zip];rfl
 have e3:sub s 0 (12+(m:Int))=some (s.take (12+m)):=by unfold sub;rw[zip,show(12+(m:Int)).toNat=12+m by omega];rfl
 rw[aq (show¬((m:Int)<0) by omega),aq (show¬((m:Int)>(s.length:Int)-12) by omega),e2,e3];simp only[ae,ab,aw];rw[amD _ _ (by simp only[bl,bm];omega)];unfold aoe;simp only[ab];cases (qz (ec s 0) ((s.take (8+m)).drop 8)).2<;>cases ((qz (ec s 0) ((s.take (8+m)).drop 8)).1==s.take (12+m))<;>rfl;rw[aK hc];by_cases h0:n<0;rw[ax h0];rfl;rw[aq h0,ax (show n>(s.length:Int)-12 by omega)];rfl
def iS (f:bp):Bool:=((f.length:Int)==2)&&((((f.getD 0 []).length:Int)==96)&&(((f.getD 1 []).length:Int)==96))
theorem zF {f:bp}(h:iS f=true):f=[f.getD 0 [],f.getD 1 []]/\(f.getD 0 []).length=96/\(f.getD 1 []).length=96:=by simp only[iS,ah,bn]at h;match f,h with|[a,b],h=>grind
theorem NC (f:bp):wN f=some (iS f):=by unfold wN iS;match f with|[]=>rfl|[a]=>rfl|[a,b]=>simp_all[idx]|a::b::c::r=>rfl
theorem RN (f:bp):Az f=some (iS f):=NC f
def pR (f:bp):Int:=bif iS f then(if jM (f.getD 0 [])<0/\jM (f.getD 1 [])<0 then-1 else if jM (f.getD 1 [])>jM (f.getD 0 []) then 1 else 0) else-1
theorem Wl (f:bp):sZ f=some (pR f):=by unfold sZ pR;rw[NC,ab];cases hf:iS f with|false=>rfl|true=>obtain⟨e,l0,l1⟩:=zF hf;generalize f.getD 0 []=a at*;generalize f.getD 1 []=b at*;subst e;have i0:idx [a,b] 0=some a:=rfl;have i1:idx [a,b] 1=some b:=rfl;grind[ab,Um]
theorem Vx (f:bp):sQ f=some (pR f):=by
 unfold sQ pR;rw[RN,ab];cases hf:iS f with
 |false=>rfl
 |true=>
  obtain⟨e,l0,l1⟩:=zF hf;generalize f.getD 0 []=a at*;generalize f.getD 1 []=b at*;subst e;have i0:idx [a,b] 0=some a:=rfl;have i1:idx [a,b] 1=some b:=rfl;simp only[ai,ae,af,i0,i1,ab,Qr a,Qr b];by_cases r:jM b>jM a;have r':¬jM a>=jM b:=by omega
  by_cases p:jM a<0<;>by_cases q:jM b<0<;>simp[p,q,r,r'];have r':jM a>=jM b:=by omega
  by_cases p:jM a<0<;>by_cases q:jM b<0<;>simp[p,q,r,r']
def Gw (c:kl):Bool:=du c.1 0 1125899906842624&&(du c.2.1 0 1048575&&(du c.2.2.1 0 67108864&&du c.2.2.2 0 1099511627776))
theorem Sp (c:kl):wK c=some (Gw c):=by grind[wK,cm,ab,Gw]
theorem Ys (c:kl):Ay c=some (Gw c):=Sp c
def PI (c:cn)(i:Nat):Bool:=(c.1[i]?.all fy)&&eqQ (c.1[i]?.map (·.2.2.2.2.2.2.2.1)) (c.2.2.1[i]?.map (·.1))
def Oj (c:cn):Bool:=((c.1.length:Int)==(c.2.2.1.length:Int))&&((c.2.1.length:Int)==(c.2.2.1.length:Int))
def gW (c:cn):Bool:=(gR c.2.2.1).2&&(Oj c&&(jZ c.2.1 (gR c.2.2.1).1&&((!decide (pR c.2.2.2.1<0)&&Gw c.2.2.2.2.1)&&((range c.1.length).all (PI c)&&(range c.1.length).all (MF c.2.1)))))
structure Uv (c:cn):Prop where
 h0:c.1.length<=10^9
 f0:c.2.1.length<=10^9
 m:∀m∈c.2.2.1,m.1.2.2.length<=10^9
 h1:∀h∈c.1,LX h
theorem Gi {c:cn}(h:Oj c=true):c.1.length=c.2.2.1.length/\c.2.1.length=c.2.2.1.length:=by grind[Oj]
theorem JK {c:cn}(i:Nat)(hi:i<c.1.length)(hj:i<c.2.2.1.length):PI c i=(fy c.1[i]&&eqQ c.1[i].2.2.2.2.2.2.2.1 c.2.2.1[i].1):=by grind[PI,PO]
theorem Jx (c:cn)(z:Uv c):ox c=some (gW c):=by
 have hp:=Nx c.2.2.1;unfold ox gW;simp only[Is _ z.m,Oy _ _ z.f0 hp.1 hp.2,Wl,Sp,ab,ch,cT,bne];rw[show((!((c.1.length:Int)==(c.2.2.1.length:Int)))||((!((c.2.1.length:Int)==(c.2.2.1.length:Int)))||((!jZ c.2.1 (gR c.2.2.1).1)||(decide (pR c.2.2.2.1<0)|| !Gw c.2.2.2.2.1))))= !(Oj c&&(jZ c.2.1 (gR c.2.2.1).1&&(!decide (pR c.2.2.2.1<0)&&Gw c.2.2.2.2.1))) by grind[Oj]];cases (gR c.2.2.1).2;rfl;cases hl:Oj c;rfl;cases jZ c.2.1 (gR c.2.2.1).1;rfl;cases (!decide (pR c.2.2.2.1<0)&&Gw c.2.2.2.2.1);rfl;have hL:=Gi hl;have h0:=z.h0;simp only[ai,cC,gw,ae,bj];rw[gV (hit:=some false) (fin:=some true) (λi=>PI c i&&MF c.2.1 i) c.2.2.1.length (by omega) (λi nx hi=>?hs) (λnx=>?hf)]
 case hs=>
  have q1:i<c.1.length:=by omega
  have q2:i<c.2.1.length:=by omega
  have hm:=aE q1
  rw[JK i q1 hi]
  simp only[BV]
  rw[gL,aN q1,aN hi,aN q2,aj (n:=(i:Int)+1) (by omega) (by omega)]
  simp only[af,ab,vw _ (z.h1 _ hm),aa4 _ _ (z.h1 _ hm).f1,ch,cT,bne,MF,dx q2]
  grind
 case hf=>
  grind[BV]
 grind
theorem Jd (c:cn)(z:Uv c):nS c=some (gW c):=by
 have hp:=Nx c.2.2.1;unfold nS gW;simp only[HW _ z.m,Of _ _ z.f0 hp.1 hp.2,afR _ z.f0,Vx,Ys,ab,ch,cT,cF,bne];rw[show((!((c.1.length:Int)==(c.2.2.1.length:Int)))|| !((c.2.1.length:Int)==(c.2.2.1.length:Int)))= !(Oj c) by grind[Oj]];cases (gR c.2.2.1).2;rfl;cases hl:Oj c;rfl;have hL:=Gi hl;have h0:=z.h0;simp only[ai,cC,ae,bj];have hd:decide (pR c.2.2.2.1>=0)= !decide (pR c.2.2.2.1<0):=by grind
 rw[hd,gV (hit:=some false) (fin:=some (jZ c.2.1 (gR c.2.2.1).1&&((range c.2.1.length).all (MF c.2.1)&&(!decide (pR c.2.2.2.1<0)&&Gw c.2.2.2.2.1)))) (PI c) c.1.length (by omega) (λi nx hi=>?hs) (λnx=>?hf)]
 case hs=>
  have q1:i<c.2.2.1.length:=by omega
  have hm:=aE hi
  rw[JK i hi q1]
  simp only[Ax]
  rw[gL,aN hi,aN q1,aj (n:=(i:Int)+1) (by omega) (by omega)]
  simp only[af,ab,As _ (z.h1 _ hm),Qf _ _ (z.h1 _ hm).f1,ch,cT]
  grind
 all_goals grind[Ax]
def UG (s:Bytes)(i:Nat):Nat:=bZ s (i/8)/2^(7-i%8)%2
theorem PE (s:Bytes)(i:Nat):UG s i<2:=Nat.mod_lt _ (by omega)
theorem abA (b k:Nat)(hb:b<256)(hk:k<=7):ak (toNat (gv (ak (fdiv (b:Int) ((2^k:Nat):Int)))&&&gv 1))=((b/2^k%2:Nat):Int):=by have e:fdiv (b:Int) ((2^k:Nat):Int)=((b/2^k:Nat):Int):=(Int.ofNat_fdiv b (2^k)).symm;have h1:b/2^k<=b:=Nat.div_le_self _ _;rw[e,gu (n:=b/2^k) (by omega)];have:=apL (b/2^k) 1;grind[gu]
theorem ahQ (s:Bytes)(i:Nat)(hi:i/8<s.length:=by omega)(h:s.length<=10^9:=by omega):Ed s (i:Int)=some ((UG s i:Nat):Int):=by
 have e1:Int.tdiv (i:Int) 8=((i/8:Nat):Int):=(Int.ofNat_tdiv i 8).symm;have e2:tmod (i:Int) 8=((i%8:Nat):Int):=(Int.ofNat_tmod i 8).symm;unfold Ed;rw[ny,e1,aj (n:=((i/8:Nat):Int)) (by omega) (by omega),aN hi,ab,ny,e2,aj (n:=7-((i%8:Nat):Int)) (by omega) (by omega),ny];have e3:(2:Int)^(min (Int.toNat (7-((i%8:Nat):Int))) (IntKind.bits .u8))=((2^(7-i%8):Nat):Int):=by grind[Int.toNat,IntKind.bits]
 grind[abA,lZ,UG,bZ]
theorem aik (s:Bytes)(i:Nat)(hi:i/8<s.length:=by omega)(h:s.length<=10^9:=by omega):EA s (i:Int)=some ((UG s i:Nat):Int):=by
 have e1:Int.tdiv (i:Int) 8=((i/8:Nat):Int):=(Int.ofNat_tdiv i 8).symm;have e2:tmod (i:Int) 8=((i%8:Nat):Int):=(Int.ofNat_tmod i 8).symm;have hb:=lZ s[i/8];unfold EA;rw[ny,e1,aj (n:=((i/8:Nat):Int)) (by omega) (by omega),aN hi,ab,ny,e2,aj (n:=7-((i%8:Nat):Int)) (by omega) (by omega),ny,gu (n:=s[i/8].toNat) (by omega)];have e3:(2:Int)^(min (Int.toNat (7-((i%8:Nat):Int))) (IntKind.bits .i64))=((2^(7-i%8):Nat):Int):=by grind[Int.toNat,IntKind.bits]
 have e4:fdiv ((s[i/8].toNat:Nat):Int) ((2^(7-i%8):Nat):Int)=((s[i/8].toNat/2^(7-i%8):Nat):Int):=(Int.ofNat_fdiv _ _).symm;have h1:s[i/8].toNat/2^(7-i%8)<=s[i/8].toNat:=Nat.div_le_self _ _;have key:=abA s[i/8].toNat (7-i%8) hb (by omega);rw[e4,gu (n:=s[i/8].toNat/2^(7-i%8)) (by omega)]at key;simp_all[UG,bZ]
def win (s:Bytes)(a:Nat):Nat->Nat
 |0=>0
 |j+1=>2*win s a j+UG s (a+j)
theorem aof (s:Bytes)(a:Nat):∀j,win s a j<2^j
 |0=>by simp[win]
 |j+1=>by have:=aof s a j;grind[PE,win]
theorem WT (s:Bytes)(a j:Nat)(hj:j<=32):win s a j<4294967296:=iH (aof s a j) (Nat.pow_le_pow_right (n:=2) (by omega) hj)
def aeK (s:Bytes)(a:Int):Int:=bif ((s.length:Int) !=16)|| !du a 0 96 then-1 else((win s a.toNat 32:Nat):Int)
theorem ao1 (s:Bytes)(a:Int):AF s a=some (aeK s a):=by
 unfold AF aeK;rw[cr];cases hs:(s.length:Int) !=16;case true=>rfl
 cases ha:du a 0 96;rfl;have h1:=bq.1 ha;have h2:s.length=16:=by simp at hs;omega
 obtain⟨a,rfl⟩:=aD h1.1;simp only[ae,ab,ai,bO,aw];refine bz (λi=>(((win s a i:Nat):Int),((a+i:Nat):Int))) 32 (by omega) (λi nx hi=>?_) (λnx=>?_);have hw:=WT s a i (by omega);have hb:=PE s (a+i);simp only[tG];rw[aj (n:=(a:Int)+32) (by omega) (by omega),gL,af,ny,ahQ s (a+i),ab,aj (n:=((a+i:Nat):Int)+1) (by omega) (by omega)];have e1:ak (((win s a i:Nat):Int)*2^(vH 1))=((2^1*win s a i:Nat):Int):=by have:(2:Int)^(vH 1)=2:=rfl;rw[this,aj (by omega) (by omega)];omega
 rw[e1,Pe _ _ _];rw[show(((a+i:Nat):Int)+1)=((a+(i+1):Nat):Int) by omega];rfl;simp only[tG];rw[aj (n:=(a:Int)+32) (by omega) (by omega),fG];rfl
theorem apm (s:Bytes)(a:Int):B4 s a=some (aeK s a):=by
 unfold B4 aeK;rw[cm];cases hs:(s.length:Int) !=16;case true=>rfl
 cases ha:du a 0 96;rfl;have h1:=bq.1 ha;have h2:s.length=16:=by simp at hs;omega
 obtain⟨a,rfl⟩:=aD h1.1;simp only[ae,ab,ai,bO,aw];refine bz (λi=>(((win s a i:Nat):Int),(i:Int))) 32 (by omega) (λi nx hi=>?_) (λnx=>?_);have hw:=WT s a i (by omega);have hb:=PE s (a+i);simp only[ug];rw[gL,af,aj (n:=(a:Int)+(i:Int)) (by omega) (by omega),show(a:Int)+(i:Int)=((a+i:Nat):Int) by omega,aik s (a+i),ab,aj (n:=(i:Int)+1) (by omega) (by omega)];rw[aj (n:=2*((win s a i:Nat):Int)) (by omega) (by omega),aj (by omega) (by omega),win];congr 1;simp only[ug];rw[fG];rfl
def N5 (s v:Bytes):Nat->Nat
 |0=>0
 |i+1=>if UG v i=1 then N5 s v i^^^win s i 32 else N5 s v i
theorem Vm (s v:Bytes):∀i,N5 s v i<4294967296
 |0=>by simp[N5]
 |i+1=>by have:=Vm s v i;grind[N5,IV,WT]
def HR (s v:Bytes):Int:=bif ((s.length:Int) !=16)||decide ((v.length:Int)>12) then-1 else((N5 s v (8*v.length):Nat):Int)
theorem amx (s v:Bytes):AA s v=some (HR s v):=by
 unfold AA HR;cases hs:(s.length:Int) !=16;case true=>rfl
 cases hv:decide ((v.length:Int)>12);case true=>rfl
 have h2:s.length=16:=by simp at hs;omega
 have h3:v.length<=12:=by simp at hv;omega
 simp only[ae,ab,bO];refine bz (λi=>(((N5 s v i:Nat):Int),(i:Int))) (8*v.length) (by omega) (λi nx hi=>?_) (λnx=>?_);have hw:=WT s i 32 (by omega);have hh:=Vm s v i;have hb:=PE v i;have eW:aeK s (i:Int)=((win s i 32:Nat):Int):=by unfold aeK;rw[hs,bq.2 (show(0:Int)<=(i:Int)/\(i:Int)<=96 by omega)];rfl
 simp only[tD];rw[aj (n:=8*(v.length:Int)) (by omega) (by omega),gL,af,ahQ v i,ab,ao1,ab,eW,aiB _ _ (by omega) (by omega),aj (n:=(i:Int)+1) (by omega) (by omega),gu (Nat.lt_trans (IV hh hw) (by omega)),N5];by_cases h1:UG v i=1;rw[h1,aM rfl];rfl;rw[aK h1,show(((UG v i:Nat):Int)==1)=false from by simp;omega];rfl;simp only[tD];rw[aj (n:=8*(v.length:Int)) (by omega) (by omega),fG];rfl
theorem anH (s v:Bytes):BW s v=some (HR s v):=by
 unfold BW HR;cases hs:(s.length:Int) !=16;case true=>rfl
 cases hv:decide ((v.length:Int)>12);case true=>rfl
 have h2:s.length=16:=by simp at hs;omega
 have h3:v.length<=12:=by simp at hv;omega
 simp only[ae,ab,bO];refine bz (λi=>(((N5 s v i:Nat):Int),(i:Int))) (8*v.length) (by omega) (λi nx hi=>?_) (λnx=>?_);have hw:=WT s i 32 (by omega);have hh:=Vm s v i;have hb:=PE v i;have eW:aeK s (i:Int)=((win s i 32:Nat):Int):=by unfold aeK;rw[hs,bq.2 (show(0:Int)<=(i:Int)/\(i:Int)<=96 by omega)];rfl
 simp only[uc];rw[aj (n:=8*(v.length:Int)) (by omega) (by omega),gL,af,aik v i,ab,apm,ab,eW,aiB _ _ (by omega) (by omega),aj (n:=(i:Int)+1) (by omega) (by omega),gu (Nat.lt_trans (IV hh hw) (by omega)),N5];by_cases h1:UG v i=1;rw[h1,aM rfl];rfl;rw[aK h1,show(((UG v i:Nat):Int)==1)=false from by simp;omega];rfl;simp only[uc];rw[aj (n:=8*(v.length:Int)) (by omega) (by omega),fG];rfl
def EO (f:K5):Bytes:=((gT f.2.1++gT f.2.2.1)++cw f.2.2.2.1)++cw f.2.2.2.2
theorem afO (f:K5):AB f=some (EO f):=by have:=dD f.2.1;have:=dD f.2.2.1;have:=bQ f.2.2.2.1;have:=bQ f.2.2.2.2;simp only[AB,zu,mG,ab];rw[aQ (by omega),aQ (by grind),aQ (by grind)];rfl
theorem agR (f:K5):BX f=some (EO f):=by have:=dD f.2.1;have:=dD f.2.2.1;have:=bQ f.2.2.2.1;have:=bQ f.2.2.2.2;simp only[BX,lK,iU,ab];rw[aQ (by omega),aQ (by grind),aQ (by grind)];rfl
theorem Qg (s:Bytes)(f:K5):xF s f=some (HR s (EO f)):=by grind[xF,afO,amx,ab]
theorem QW (s:Bytes)(f:K5):yj s f=some (HR s (EO f)):=by grind[yj,agR,anH,ab]
def Iy (s:jN)(f:K5):Int:=bif ((s.2.length:Int)==0)||decide (HR s.1 (EO f)<0) then-1 else tmod (HR s.1 (EO f)) (s.2.length:Int)
theorem ajk (s:jN)(f:K5):Fx s f=some (Iy s f):=by grind[Fx,Iy,Qg,ab]
theorem aku (s:jN)(f:K5):FW s f=some (Iy s f):=by grind[FW,Iy,QW,ab]
theorem RA (s:jN)(f:K5)(h:¬Iy s f<0):∃n:Nat,Iy s f=(n:Int)/\n<s.2.length:=by
 unfold Iy at h⊢;cases hc:((s.2.length:Int)==0)||decide (HR s.1 (EO f)<0)with
 |true=>grind
 |false=>
  rw[hc]at h;simp only[dy,cz,cM]at hc;simp only[ae]at h⊢;have h1:0<=HR s.1 (EO f):=by omega
  rw[fu h1]at h⊢;have:=gG (HR s.1 (EO f)) (show(0:Int)<s.2.length by omega);grind[aD]
def NL (s:jN)(q:Int)(f:K5):Int:=bif !F7 s q||decide (Iy s f<0) then-1 else s.2.getD (Iy s f).toNat 0
theorem acT (s:jN)(q:Int)(f:K5)(h:s.2.length<=10^9):vY s q f=some (NL s q f):=by unfold vY NL;grind[ajk,ab,VE,RA,iI,aN]
theorem aea (s:jN)(q:Int)(f:K5)(h:s.2.length<=10^9):wW s q f=some (NL s q f):=by unfold wW NL;grind[aku,ab,Pk,RA,iI,aN]
theorem ZC (t:ar Slot)(f:K5)(h:∀j,j<8->sN (gI t j) f=false):∀n k,walk t f n k= -1
 |0,_=>rfl
 |n+1,k=>by unfold walk;rw[h _ (Rk f k),ZC t f h n (k+1)];split<;>rfl
theorem SM (f:K5):∀(t:ar Slot)(m:Int),(∀s∈t,sN s f=false)->EM f t m= -1
 |[],_,_=>rfl
 |s::r,m,h=>by unfold EM;rw[h s (by simp)];exact SM f r (m+1) (λx hx=>h x (by simp[hx]))
theorem afw (t:ar Slot)(f:K5)(h:Cl t=true):EM f t 0=walk t f 8 0:=by simp only[Cl,ah,bn,aP,bU]at h;obtain⟨h8,hs⟩:=h;by_cases hex:∃j,j<t.length/\sN (gI t j) f=true;obtain⟨j,hj,hu,e⟩:=Ma f t 0 hex;have:=hs j (by omega);simp only[qF,ah,dA,aW,bn]at this;simp only[sN,ah,bn,bK]at hu;rcases this.2 with g|g;rw[hu.1]at g;simp at g;rw[hu.2]at g;rw[show((0:Int))=((0:Nat):Int) from rfl,e,g];omega;have hn:∀j,j<t.length->sN (gI t j) f=false:=λj hj=>Bool.eq_false_iff.2 λhu=>hex ⟨j,hj,hu⟩;rw[ZC t f (λj hj=>hn j (by omega)),SM];intro s yu;obtain⟨j,hj,rfl⟩:=List.getElem_of_mem yu;have:=hn j hj;rwa[CV hj]at this
def findF (t:ar Slot)(f:K5):Int:=bif Cl t then walk t f 8 0 else-1
theorem aan (t:ar Slot)(f:K5)(h:t.length<=10^9):Di t f=some (findF t f):=by grind[Di,findF,YD,ab,acS,afw]
theorem aa5 (t:ar Slot)(f:K5):DN t f=some (findF t f):=by grind[DN,findF,Zl,ab,Cl,ad1]
theorem aiz (t:ar Slot)(f:K5):∀n k,walk t f n k= -1\/∃m:Nat,walk t f n k=(m:Int)/\m<8
 |0,_=> .inl rfl
 |n+1,k=>by unfold walk;split;exact .inl rfl;split;exact .inr ⟨_,rfl,Rk f k⟩;exact aiz t f n (k+1)
theorem U6 (t:ar Slot)(f:K5)(h:findF t f>=0):∃m:Nat,findF t f=(m:Int)/\m<t.length:=by
 unfold findF at h⊢;cases ht:Cl t with
 |false=>grind
 |true=>
  rw[ht]at h;simp only[af]at h⊢;have h8:t.length=8:=by grind[Cl]
  rcases aiz t f 8 0 with g|⟨m,g,hm⟩;all_goals grind
def Ah (f:Filter)(p:aR):Bool:=il f&&(((p.1==f.1)||((p.1==281474976710655)||f.2.1))&&((p.2.2.1== -1)||hasB f.2.2 p.2.2.1))
theorem acz (f:Filter)(p:aR)(h:f.2.2.length<=10^9):Ft f p=some (Ah f p):=by grind[Ft,uK,HV,ab,Ah]
theorem adS (f:Filter)(p:aR)(h:f.2.2.length<=10^9):FR f p=some (Ah f p):=by grind[FR,zw,KL,ab,Ah]
def preB (a b n:Int):Bool:=fdiv a (2^(min (Int.toNat (ak (32-n))) (IntKind.bits .i64)))==fdiv b (2^(min (Int.toNat (ak (32-n))) (IntKind.bits .i64)))
theorem Y6 {r:gF}(h:Jt r=true):0<=r.2.2.2.1/\r.2.2.2.1<=32:=by grind[Jt,oG,cm,ab,du]
def alr (r:gF)(p:aR):Bool:=preB r.2.2.1 p.2.2.2.2.2.2.1 r.2.2.2.1&&(du p.2.2.2.2.2.2.2.2.2.2.1 r.2.2.2.2.1 r.2.2.2.2.2.1&&((r.2.2.2.2.2.2.1== -2)||(r.2.2.2.2.2.2.1==p.2.2.1)))
def MB (r:gF)(p:aR):Bool:=Jt r&&(dL p&&(((r.2.1==0)||(r.2.1==p.2.2.2.2.2.2.2.2.1))&&alr r p))
theorem aoY (a b n:Int)(h0:0<=n)(h1:n<=32):sA a b n=some (preB a b n):=by grind[sA,preB,aj]
theorem ajq (r:gF)(p:aR):vW r p=some (MB r p):=by unfold vW MB;rw[amI,ab];grind[Y6,nC,aoY,cr,ab,alr]
theorem aky (r:gF)(p:aR):wT r p=some (MB r p):=by
 unfold wT MB;rw[Ws,ab];cases hr:Jt r;rfl;have hp:=Y6 hr;have hw:¬ak (32-r.2.2.2.1)<0:=by grind[aj]
 simp only[qG,E7,aK hw,cm,ab,alr];rw[show(fdiv r.2.2.1 (2^(min (Int.toNat (ak (32-r.2.2.2.1))) (IntKind.bits .i64)))==fdiv p.2.2.2.2.2.2.1 (2^(min (Int.toNat (ak (32-r.2.2.2.1))) (IntKind.bits .i64))))=preB r.2.2.1 p.2.2.2.2.2.2.1 r.2.2.2.1 from rfl];cases dL p<;>cases r.2.1==0<;>cases r.2.1==p.2.2.2.2.2.2.2.2.1<;>cases preB r.2.2.1 p.2.2.2.2.2.2.1 r.2.2.2.1<;>cases du p.2.2.2.2.2.2.2.2.2.2.1 r.2.2.2.2.1 r.2.2.2.2.2.1<;>cases r.2.2.2.2.2.2.1== -2<;>rfl
def Te:gF:=(0,0,0,0,0,0,0,0,0)
def E9 (l:ar gF)(p:aR):Nat->Int
 |0=> -1
 |i+1=>bif MB (l.getD i Te) p&&(decide (E9 l p i<0)||decide ((l.getD i Te).1<(l.getD (E9 l p i).toNat Te).1)) then(i:Int) else E9 l p i
theorem UD (l:ar gF)(p:aR):∀i,E9 l p i= -1\/∃n:Nat,E9 l p i=(n:Int)/\n<i
 |0=> .inl rfl
 |i+1=>by rw[E9];cases MB (l.getD i Te) p&&(decide (E9 l p i<0)||decide ((l.getD i Te).1<(l.getD (E9 l p i).toNat Te).1))with|true=>grind|false=>rcases UD l p i with h|⟨n,h,hn⟩;all_goals grind
theorem XQ (l:ar gF)(p:aR)(i:Nat)(hi:i<l.length)(nx:Int×Int->au R): (aa (cond (MB l[i] p) (cond (decide (E9 l p i<0)) (some true) (aa (idx l (E9 l p i)) λx4=>some (decide (l[i].1<x4.1)))) (some false)) λq5=>cond q5 (nx ((i:Int),((i+1:Nat):Int))) (nx (E9 l p i,((i+1:Nat):Int))))=nx (E9 l p (i+1),((i+1:Nat):Int)):=by
 rw[E9,dx hi];cases MB l[i] p;rfl;rcases UD l p i with h|⟨n,h,hn⟩;rw[h];rfl;have hl:n<l.length:=by omega
 rw[h,aq (show¬(n:Int)<0 by omega),aN hl];simp only[af,ae,ab,aw,dx hl,bj,cC];cases decide (l[i].1<l[n].1)<;>rfl
def L9 (l:ar gF)(p:aR):Int:=bif Ht l then E9 l p l.length else-1
theorem U7 (l:ar gF)(p:aR)(h:L9 l p>=0):∃n:Nat,L9 l p=(n:Int)/\n<l.length:=by unfold L9 at h⊢;cases hr:Ht l with|false=>grind|true=>rw[hr]at h;simp only[af]at h⊢;rcases UD l p l.length with g|g;omega;exact g
theorem ajn (l:ar gF)(p:aR)(h:l.length<=10^9):Dj l p=some (L9 l p):=by unfold Dj L9;rw[Yz l h,ab];cases Ht l;rfl;simp only[ai,ae,af];refine bz (λi=>(E9 l p i,(i:Int))) l.length (by omega) (λi nx hi=>?_) (λnx=>?_);simp only[vQ];rw[gL,aN hi,aj (n:=(i:Int)+1) (by omega) (by omega)];simp only[af,ab,ajq];exact XQ l p i hi nx;simp only[vQ];rw[fG];rfl
theorem akw (l:ar gF)(p:aR)(h:l.length<=10^9):DP l p=some (L9 l p):=by
 have Ae:=da;unfold DP L9;cases hr:Ht l with
 |false=>
  obtain⟨f,hf⟩:∃f,fuel=f+1:=⟨fuel-1,by omega⟩
  rw[hf,aH];simp only[qM,NH l h,hr,ab];cases decide ((0:Int)<(l.length:Int))<;>rfl
 |true=>simp only[af];refine bz (λi=>(E9 l p i,(i:Int))) l.length (by omega) (λi nx hi=>?_) (λnx=>?_);simp only[qM,NH l h,hr];rw[gL,aN hi,aj (n:=(i:Int)+1) (by omega) (by omega)];simp only[af,ab,aky];exact XQ l p i hi nx;simp only[qM];rw[fG];rfl
def oL (p:aR):K5:=(p.2.2.2.2.2.2.2.2.1,p.2.2.2.2.2.2.1,p.2.2.2.2.2.2.2.1,p.2.2.2.2.2.2.2.2.2.1,p.2.2.2.2.2.2.2.2.2.2.1)
theorem Vz (p:aR):zK p=some (oL p):=rfl
theorem Wo (p:aR):zZ p=some (oL p):=rfl
def ar9:Slot:=(0,(0,0,0,0,0),0)
def zA (s:fI)(q:Int)(p:aR):Int:=
 bif !jd s q|| !dL p then-1 else
 bif decide (L9 s.1 p>=0) then(bif (s.1.getD (L9 s.1 p).toNat Te).2.2.2.2.2.2.2.1==1 then-1 else(s.1.getD (L9 s.1 p).toNat Te).2.2.2.2.2.2.2.2) else
 bif decide (findF s.2.1 (oL p)>=0) then(s.2.1.getD (findF s.2.1 (oL p)).toNat ar9).2.2 else NL s.2.2 q (oL p)
theorem ajz (s:fI)(q:Int)(p:aR)(h1:s.1.length<=10^9)(h2:s.2.1.length<=10^9)(h3:s.2.2.2.length<=10^9):vZ s q p=some (zA s q p):=by unfold vZ zA;rw[Qn s q h1 h2 h3,ab,nC,ab];cases jd s q;rfl;cases dL p;rfl;simp only[ai,ae,ab,bO,ajn s.1 p h1,Vz,aan s.2.1 _ h2,acT s.2.2 q _ h3];grind[U7,aN,ab,U6]
theorem akG (s:fI)(q:Int)(p:aR)(h1:s.1.length<=10^9)(h2:s.2.1.length<=10^9)(h3:s.2.2.2.length<=10^9):wX s q p=some (zA s q p):=by unfold wX zA;rw[Q2 s q h1 h2 h3,ab,qG,ab];cases jd s q;rfl;cases dL p;rfl;simp only[ai,ae,ab,bO,akw s.1 p h1,Wo,aa5 s.2.1 _,aea s.2.2 q _ h3];grind[U7,aN,ab,U6]
def aiE (a b:Int):Int:=(rK a b).getD 0
theorem Ul (a b:Int):rK a b=some (aiE a b):=by grind[aiE,rK,cm,ab]
theorem acA (a b:Int):Fu a b=some (aiE a b):=Ul a b
theorem aom {b:Int}(h:0<=a/\a<=65535)(k:0<=b/\b<=65535):0<=aiE a b/\aiE a b<=65535:=by have e:=Ul a b;simp only[rK,cm,ab,bq.2 h,bq.2 k,ai,ae]at e;rw[aj (n:=a+b) (by omega) (by omega)]at e;by_cases hc:a+b>65535;rw[ax hc,af,aj (by omega) (by omega)]at e;rw[<-cY e];omega;rw[aq hc,ae]at e;rw[<-cY e];omega
def sw (s:Bytes):Nat->Int
 |0=>0
 |j+1=>aiE (sw s j) ((bZ s (2*j)*256+bZ s (2*j+1):Nat):Int)
theorem anW (s:Bytes):∀j,0<=sw s j/\sw s j<=65535
 |0=>by simp[sw]
 |j+1=>by have b0:=fw s (2*j);have b1:=fw s (2*j+1);exact aom (anW s j) (by omega)
theorem OP {i:Nat}(h:s.length<=i:=by omega):bZ s i=0:=by simp_all[bZ]
theorem apl (s:Bytes)(h:s.length<=10^9):DZ s=some (sw s ((s.length+1)/2)):=by
 unfold DZ;refine bz (λj=>(sw s j,((2*j:Nat):Int))) ((s.length+1)/2) (by omega) (λj nx hj=>?_) (λnx=>?_);have b0:=fw s (2*j);have b1:=fw s (2*j+1);obtain⟨x,hx,ex⟩:=lO (s:=s) (i:=2*j);simp only[wZ];rw[gL,af,hx,ab,ny,aj (n:=((2*j:Nat):Int)+1) (by omega) (by omega),aj (n:=((2*j:Nat):Int)+2) (by omega) (by omega),ex,gu (by omega)];have e8:vH 8=8:=rfl;have en:((2*j:Nat):Int)+2=((2*(j+1):Nat):Int):=by omega
 rw[e8,aj (n:=((bZ s (2*j):Nat):Int)*2^8) (by omega) (by omega)];by_cases hc:2*j+1<s.length;obtain⟨y,hy,ey⟩:=lO (s:=s) (i:=2*j+1) hc;rw[gL,af,show((2*j:Nat):Int)+1=((2*j+1:Nat):Int) by omega,hy,ab,ey,gu (n:=bZ s (2*j+1)) (by omega),aj (by omega) (by omega),Ul,ab,en,show((bZ s (2*j):Nat):Int)*2^8+((bZ s (2*j+1):Nat):Int)=((bZ s (2*j)*256+bZ s (2*j+1):Nat):Int) by omega];rfl;have hz:=OP (s:=s) (i:=2*j+1);rw[fG,ae,Ul,ab,en,show((bZ s (2*j):Nat):Int)*2^8=((bZ s (2*j)*256+bZ s (2*j+1):Nat):Int) by rw[hz];omega];rfl;simp only[wZ];rw[fG];rfl
theorem aoZ (s:Bytes)(h:s.length<=10^9):Dv s=some (sw s ((s.length+1)/2)):=by
 unfold Dv;refine bz (λj=>(sw s j,((2*j:Nat):Int))) ((s.length+1)/2) (by omega) (λj nx hj=>?_) (λnx=>?_);have b0:=fw s (2*j);have b1:=fw s (2*j+1);obtain⟨x,hx,ex⟩:=lO (s:=s) (i:=2*j);simp only[we];rw[gL,af,hx,ab,ny,aj (n:=((2*j:Nat):Int)+1) (by omega) (by omega),aj (n:=((2*j:Nat):Int)+2) (by omega) (by omega),ex,gu (by omega)];have e8:vH 8=8:=rfl;have en:((2*j:Nat):Int)+2=((2*(j+1):Nat):Int):=by omega
 rw[e8,show((bZ s (2*j):Nat):Int)*2^8=((2^8*bZ s (2*j):Nat):Int) by omega,gu (n:=2^8*bZ s (2*j)) (by omega)];by_cases hc:2*j+1<s.length;obtain⟨y,hy,ey⟩:=lO (s:=s) (i:=2*j+1) hc;rw[gL,af,show((2*j:Nat):Int)+1=((2*j+1:Nat):Int) by omega,hy,ab,ey,gu (n:=bZ s (2*j+1)) (by omega),Pe (bZ s (2*j)) 8 (bZ s (2*j+1)),acA,ab,en,show 2^8*bZ s (2*j)+bZ s (2*j+1)=bZ s (2*j)*256+bZ s (2*j+1) by omega];rfl;have hz:=OP (s:=s) (i:=2*j+1);rw[fG,ae,acA,ab,en,show((2^8*bZ s (2*j):Nat):Int)=((bZ s (2*j)*256+bZ s (2*j+1):Nat):Int) by rw[hz];omega];rfl;simp only[we];rw[fG];rfl
def ZP (s:Bytes):Int:=65535-sw s ((s.length+1)/2)
theorem QS (s:Bytes)(h:s.length<=10^9):mu s=some (ZP s):=by have:=anW s ((s.length+1)/2);simp only[mu,apl s h,ab];rw[aj (by omega) (by omega)];rfl
theorem Ub (s:Bytes)(h:s.length<=10^9):kq s=some (ZP s):=by have:=anW s ((s.length+1)/2);simp only[kq,aoZ s h,ab];rw[aj (by omega) (by omega)];rfl
def xv (s:Bytes)(a:Int)(p:Bytes):Bytes:=bif fP s a (p.length:Int) then(s.take a.toNat++p)++s.drop (a.toNat+p.length) else s
theorem Eu (s:Bytes)(a:Int)(p:Bytes):(xv s a p).length=s.length:=by grind[xv,fP]
theorem adB (s:Bytes)(a:Int)(p:Bytes)(h:s.length<=10^9)(hw:fP s a (p.length:Int)=true): (aa (sub s 0 a) λx2=>room (List.length x2+List.length p) (aa (sub s (ak (a+((List.length p:Int)))) ((List.length s:Int))) λx3=>room (List.length (x2++p)+List.length x3) (some ((x2++p)++x3))))=some (xv s a p):=by
 have hw':=hw;simp only[fP,bK]at hw';obtain⟨n,rfl⟩:=aD hw'.1;have e1:sub s 0 (n:Int)=some (s.take n):=by grind[sub]
 have e2:sub s (((n+p.length:Nat):Int)) (s.length:Int)=some (s.drop (n+p.length)):=by grind[sub,bA]
 rw[e1,aj (by omega) (by omega),show(n:Int)+(p.length:Int)=((n+p.length:Nat):Int) by omega,e2,ab,aQ (by grind),ab,aQ (by grind)];grind[xv]
theorem FQ (s:Bytes)(a:Int)(p:Bytes)(h:s.length<=10^9):eF s a p=some (xv s a p):=by grind[eF,MQ,ab,xv,adB]
theorem J3 (s:Bytes)(a:Int)(p:Bytes)(h:s.length<=10^9:=by omega)(hp:p.length<=10^9:=by omega):gb s a p=some (xv s a p):=by
 unfold gb;rw[aj (n:=(s.length:Int)-(p.length:Int)) (by omega) (by omega)];cases hw:fP s a (p.length:Int)with
 |true=>have hw':=hw;simp only[fP,bK]at hw';rw[aq (show¬a<0 by omega),aq (show¬a>(s.length:Int)-(p.length:Int) by omega)];exact adB s a p h hw
 |false=>
  have hp:xv s a p=s:=by grind[xv]
  rw[hp];simp only[fP,cM]at hw;by_cases h0:a<0;all_goals simp(disch:=omega)[ax]
def bs2 (x y:Int):Bytes:=aU [x,y]
theorem ZN (x y:Int):(bs2 x y).length=2:=rfl
def FL (a b k n:Int):Bool:=du a 0 4294967295&&(du b 0 4294967295&&(du k 0 255&&du n 0 65535))
def CR (a b k n:Int):Bytes:=((gT a++gT b)++bs2 0 (gU k))++cw n
theorem Ny (a b k n:Int):(CR a b k n).length<=12:=by grind[dD,bQ,CR,ZN]
theorem KN (a b k n:Int):lr a b k n=some (bif FL a b k n then(CR a b k n,true) else([],false)):=by have:=dD a;have:=dD b;have:=bQ n;unfold lr FL;simp only[cm,ab,lK,iU];cases du a 0 4294967295;rfl;cases du b 0 4294967295;rfl;cases du k 0 255;rfl;cases du n 0 65535;rfl;simp only[ai,ae,cB,af,ab];have e:(aU [0,gU k]).length=2:=rfl;rw[aQ (by omega),aQ (by grind),aQ (by grind)];rfl
theorem VD (a b k n:Int):tI a b k n=some (bif FL a b k n then(CR a b k n,true) else([],false)):=KN a b k n
def bare (g:ej):Bytes:=bif g.1==6 then
    (((((cw g.2.1++cw g.2.2.1)++gT g.2.2.2.1)++gT g.2.2.2.2.1)++bs2 80 (gU g.2.2.2.2.2.1))++cw g.2.2.2.2.2.2.1)++gT 0++g.2.2.2.2.2.2.2
 else(((cw g.2.1++cw g.2.2.1)++cw (8+(g.2.2.2.2.2.2.2.length:Int)))++cw 0)++g.2.2.2.2.2.2.2
theorem ZL (g:ej):(bare g).length<=20+g.2.2.2.2.2.2.2.length:=by have:=bQ g.2.1;have:=bQ g.2.2.1;have:=dD g.2.2.2.1;have:=dD g.2.2.2.2.1;have:=bQ g.2.2.2.2.2.2.1;have:=dD 0;have:=bQ 0;have:=bQ (8+(g.2.2.2.2.2.2.2.length:Int));unfold bare;cases g.1==6<;>simp only[af,ae,ay,ZN]<;>omega
theorem ak3:cw 0++cw 0=gT 0:=by rfl
theorem amu (g:ej)(h:g.2.2.2.2.2.2.2.length<=1000000):wo g=some (bare g):=by have:=bQ g.2.1;have:=bQ g.2.2.1;have:=dD g.2.2.2.1;have:=dD g.2.2.2.2.1;have:=bQ g.2.2.2.2.2.2.1;have:=bQ 0;have:=bQ (8+(g.2.2.2.2.2.2.2.length:Int));have e:∀x,(aU [80,gU x]).length=2:=λ_=>rfl;unfold wo bare;rw[aj (n:=8+(g.2.2.2.2.2.2.2.length:Int)) (by omega) (by omega)];simp only[mG,zu,ab];rw[aQ (by omega)];cases g.1==6 with|true=>simp only[af];rw[aQ (by simp only[ay,e];omega),aQ (by simp only[ay,e];omega),aQ (by simp only[ay,e];omega),aQ (by simp only[ay,e];omega),aQ (by simp only[ay,e];omega),aQ (by simp only[ay,e];omega),aQ (by simp only[ay,e];omega)];rw[<-ak3];simp only[bs2,aX]|false=>simp only[ae];rw[aQ (by simp only[ay];omega),aQ (by simp only[ay];omega),aQ (by simp only[ay];omega)]
def air (a b:Int)(g:ej):Int:=bif (ZP (CR a b g.1 ((bare g).length:Int)++bare g)==0)&&(g.1==17) then 65535 else ZP (CR a b g.1 ((bare g).length:Int)++bare g)
def aie (a b:Int)(g:ej):Bytes:=xv (bare g) (bif g.1==6 then 16 else 6) (cw (air a b g))
def Wg (a b:Int)(g:ej):Bool:=QL g&&FL a b g.1 ((bare g).length:Int)
def IM (a b:Int)(g:ej):Bytes×Bool:=bif Wg a b g then(aie a b g,true) else([],false)
theorem QM {g:ej}(h:QL g=true):g.2.2.2.2.2.2.2.length<=320:=by grind[QL]
theorem MP (a b:Int)(g:ej):lp a b g=some (IM a b g):=by
 unfold lp IM Wg;rw[aio,ab];cases hg:QL g;rfl;have hb:=QM hg;have hl:=ZL g;have hp:=Ny a b g.1 ((bare g).length:Int);have:=bQ g.2.1;have:=bQ g.2.2.1;have:=dD g.2.2.2.1;have:=dD g.2.2.2.2.1;have:=bQ g.2.2.2.2.2.2.1;have:=dD 0;have:=bQ 0;have:=bQ (8+(g.2.2.2.2.2.2.2.length:Int));have e:∀x,(aU [80,gU x]).length=2:=λ_=>rfl;rw[aj (n:=8+(g.2.2.2.2.2.2.2.length:Int)) (by omega) (by omega)];simp only[iU,lK,ab,ai,ae,bj];rw[aQ (by omega)];cases h6:g.1==6 with
 |true=>
  have al1:bare g=(((((cw g.2.1++cw g.2.2.1)++gT g.2.2.2.1)++gT g.2.2.2.2.1)++aU [80,gU g.2.2.2.2.2.1])++cw g.2.2.2.2.2.2.1)++gT 0++g.2.2.2.2.2.2.2:=by unfold bare;rw[h6];rfl
  simp only[af];rw[aQ (by grind),aQ (by grind),aQ (by grind),aQ (by grind),aQ (by grind),aQ (by grind),<-al1,KN,ab];cases FL a b g.1 ((bare g).length:Int);rfl;simp only[af,ai,ae];rw[aQ (by omega),QS _ (by grind)];simp only[ab,ch,FQ _ _ _ (show(bare g).length<=10^9 by omega),aie,air,h6,af,cF];cases (ZP (CR a b g.1 ((bare g).length:Int)++bare g)==0)&&(g.1==17)<;>rfl
 |false=>
  have al1:bare g=(((cw g.2.1++cw g.2.2.1)++cw (8+(g.2.2.2.2.2.2.2.length:Int)))++cw 0)++g.2.2.2.2.2.2.2:=by unfold bare;rw[h6];rfl
  simp only[ae];rw[aQ (by simp_all;omega),aQ (by simp_all;omega),aQ (by simp_all;omega),<-al1,KN,ab];cases FL a b g.1 ((bare g).length:Int);rfl;simp only[af,ai,ae];rw[aQ (by omega),QS _ (by simp_all;omega)];simp only[ab,ch,FQ _ _ _ (show(bare g).length<=10^9 by omega),aie,air,h6,ae,cF];cases (ZP (CR a b g.1 ((bare g).length:Int)++bare g)==0)&&(g.1==17)<;>rfl
theorem Ms (a b:Int)(g:ej):lh a b g=some (IM a b g):=by
 unfold lh IM Wg;rw[ahV,ab];cases hg:QL g;rfl;have hb:=QM hg;have hl:=ZL g;have hp:=Ny a b g.1 ((bare g).length:Int);have P9:fN g.1=some (bif g.1==6 then 16 else 6):=by unfold fN;rw[ch]
 have w1:=bQ 65535;have w2:=bQ (ZP (CR a b g.1 ((bare g).length:Int)++bare g));simp only[amu g (by omega),VD,ab,ai,ae,bj];cases FL a b g.1 ((bare g).length:Int);rfl;simp only[af,ai,ae];rw[aQ (by omega),Ub _ (by grind)];simp only[ab,ch,P9,mG,J3 _ _ _ (show(bare g).length<=10^9 by omega) (show(cw 65535).length<=10^9 by omega),J3 _ _ _ (show(bare g).length<=10^9 by omega) (show(cw (ZP (CR a b g.1 ((bare g).length:Int)++bare g))).length<=10^9 by omega),aie,air,cF];grind
theorem apg (a b:Int)(g:ej):(IM a b g).1.length<=340:=by unfold IM;cases h:Wg a b g with|false=>exact eh _|true=>simp only[Wg,ah]at h;have:=QM h.1;have:=ZL g;show(xv _ _ _).length<=340;rw[Eu];omega
def ipB (d:Ip):Bool:=du d.1 0 255&&(du d.2.2.1 0 255&&(du d.2.2.2.1 0 255&&(du d.2.1 0 65535&&(du d.2.2.2.2.1 0 4294967295&&(du d.2.2.2.2.2.1 0 4294967295&&decide ((d.2.2.2.2.2.2.length:Int)<=380))))))
theorem ad2 (d:Ip):NI d=some (ipB d):=by simp_all[NI,cm,ch,ipB]
theorem amB (d:Ip):RS d=some (ipB d):=ad2 d
def VJ (d:Ip):Bytes:=((((((bs2 69 (gU d.1)++cw (20+(d.2.2.2.2.2.2.length:Int)))++cw d.2.1)++cw 16384)++bs2 (gU d.2.2.1) (gU d.2.2.2.1))++cw 0)++gT d.2.2.2.2.1)++gT d.2.2.2.2.2.1
theorem VK (d:Ip):(VJ d).length<=20:=by have:=bQ (20+(d.2.2.2.2.2.2.length));have:=bQ d.2.1;have:=bQ 16384;have:=bQ 0;have:=dD d.2.2.2.2.1;have:=dD d.2.2.2.2.2.1;simp_all[VJ,ZN];omega
def VI (d:Ip):Bytes:=xv (VJ d) 10 (cw (ZP (VJ d)))
theorem agS (d:Ip):DT d=some (bif ipB d then(VI d,true) else([],false)):=by
 unfold DT;rw[ad2,ab];cases hd:ipB d;rfl;have hn:(d.2.2.2.2.2.2.length)<=380:=by grind[ipB]
 have:=bQ (20+(d.2.2.2.2.2.2.length));have:=bQ d.2.1;have:=bQ 16384;have:=bQ 0;have:=dD d.2.2.2.2.1;have:=dD d.2.2.2.2.2.1;have hl:=VK d;have e:∀x y,(aU [x,y]).length=2:=λ_ _=>rfl;rw[aj (by omega) (by omega)];simp only[iU,lK,ab,ai,ae,af];rw[aQ (by grind),aQ (by grind),aQ (by simp_all;omega),aQ (by simp_all;omega),aQ (by simp_all;omega),aQ (by simp_all;omega),aQ (by simp_all;omega)];have hp:((((((aU [69,gU d.1]++cw (20+(d.2.2.2.2.2.2.length)))++cw d.2.1)++cw 16384)++aU [gU d.2.2.1,gU d.2.2.2.1])++cw 0)++gT d.2.2.2.2.1)++gT d.2.2.2.2.2.1=VJ d:=rfl;rw[hp,QS _ (by omega),ab,FQ _ _ _ (by omega)];rfl
theorem afP (d:Ip):Dp d=some (bif ipB d then(VI d,true) else([],false)):=by
 unfold Dp;rw[amB,ab];cases hd:ipB d;rfl;have hn:(d.2.2.2.2.2.2.length)<=380:=by grind[ipB]
 have:=bQ (20+(d.2.2.2.2.2.2.length));have:=bQ d.2.1;have:=bQ 16384;have:=bQ 0;have:=dD d.2.2.2.2.1;have:=dD d.2.2.2.2.2.1;have hl:=VK d;have hw:=bQ (ZP (VJ d));have e:∀x y,(aU [x,y]).length=2:=λ_ _=>rfl;rw[aj (by omega) (by omega)];simp only[mG,zu,ab,ai,ae,af];rw[aQ (by grind),aQ (by grind),aQ (by simp_all;omega),aQ (by simp_all;omega),aQ (by simp_all;omega),aQ (by simp_all;omega),aQ (by simp_all;omega)];have hp:((((((aU [69,gU d.1]++cw (20+(d.2.2.2.2.2.2.length)))++cw d.2.1)++cw 16384)++aU [gU d.2.2.1,gU d.2.2.2.1])++cw 0)++gT d.2.2.2.2.1)++gT d.2.2.2.2.2.1=VJ d:=rfl;rw[hp,Ub _ (by omega),ab,J3 _ _ _];rfl
def ipR (d:Ip):Bytes×Bool:=bif ipB d then(VI d++d.2.2.2.2.2.2,true) else([],false)
theorem RV (d:Ip):(VI d).length<=20:=by grind[VI,Eu,VK]
theorem anJ (d:Ip):BT d=some (ipR d):=by grind[BT,ipR,agS,ab,ipB,RV,aQ]
theorem amA (d:Ip):Av d=some (ipR d):=by grind[Av,ipR,afP,ab,ipB,RV,aQ]
def JE (n:Nat):Bytes:=aU (List.replicate n (0:Int))
theorem SE (n:Nat):(JE n).length=n:=by simp[JE,aU]
theorem ad3 (n:Nat)(h:n<=10^9:=by omega):mj (n:Int) 0=some (JE n):=by unfold mj;rw[zip,aQ (by omega),aw];refine bz (λi=>(List.replicate n (0),(i:Int))) n (by omega) (λi nx hi=>?_) (λnx=>?_);simp only[nK];rw[gL,aN (by simpa using hi),aj (by omega) (by omega)];simp only[af,ab,aw,List.set_replicate_self];rfl;simp only[nK];rw[fG];rfl
theorem ahU (n:Nat)(h:n<=10^9:=by omega):re 0 (n:Int)=some (JE n):=by unfold re;rw[zip,aQ (by omega),aw];refine bz (λi=>(List.replicate n (0),(i:Int))) n (by omega) (λi nx hi=>?_) (λnx=>?_);simp only[Ba];rw[ax (by simp;omega),aN (by simpa using hi),aj (by omega) (by omega)];simp only[af,ab,aw,List.set_replicate_self];rfl;simp only[Ba];rw[aq (by simp)];rfl
def pad (s:Bytes):Bytes:=if s.length<46 then s++JE (46-s.length) else s
theorem aaJ (s:Bytes):(pad s).length=max 46 s.length:=by grind[pad,SE]
theorem apk (s:Bytes)(h:s.length<=10^9):FX s=some (pad s):=by unfold FX pad;by_cases hc:s.length<46;rw[gL,aM hc,aj (by omega) (by omega),show(46:Int)-(s.length)=((46-s.length:Nat)) by omega,ad3 _];simp only[af,ab];rw[aQ (by rw[SE];omega)];rw[fG,aK hc];rfl
theorem aoX (s:Bytes)(h:s.length<=10^9):Fy s=some (pad s):=by unfold Fy pad;by_cases hc:s.length<46;rw[fG,aM hc,aj (by omega) (by omega),show(46:Int)-(s.length)=((46-s.length:Nat)) by omega,ahU _];simp only[ae,ab];rw[aQ (by rw[SE];omega)];rw[gL,aK hc];rfl
def GB (e:WZ):Bool:=du e.1 0 281474976710655&&(du e.2.1 0 281474976710655&&(du e.2.2.1 (-1) 4095&&(du e.2.2.2.1 1536 65535&&((e.2.2.2.1 !=33024)&&du (e.2.2.2.2.length:Int) 46 400))))
theorem Sr (e:WZ):C0 e=some (GB e):=by simp_all[C0,cm,ch,GB]
theorem Yu (e:WZ):GS e=some (GB e):=Sr e
def mac (a:Int):Bytes:=(jL a).getD []
theorem Ir (a:Int):jL a=some (mac a)/\(mac a).length<=6:=by
 have h:∃x,jL a=some x/\x.length<=6:=by unfold jL;simp only[iU,lK,ab];have h1:=bQ (fdiv a (2^(vH 32)));grind[dD,aQ]
 grind[mac]
theorem aoW (a:Int):Dw a=some (mac a):=(Ir a).1
def X6 (e:WZ):Bytes:=(bif decide (e.2.2.1>=0) then(((mac e.1++mac e.2.1)++cw 33024)++cw e.2.2.1) else mac e.1++mac e.2.1)++cw e.2.2.2.1++e.2.2.2.2
theorem alM (e:WZ):(X6 e).length<=18+e.2.2.2.2.length:=by have:=(Ir e.1).2;have:=(Ir e.2.1).2;grind[bQ,X6]
def abW (e:WZ):Bytes×Bool:=bif GB e then(X6 e,true) else([],false)
theorem apj (e:WZ):DJ e=some (abW e):=by
 unfold DJ abW;rw[Sr,ab];cases he:GB e;rfl;have hn:(e.2.2.2.2.length)<=400:=by grind[GB,bq]
 have:=(Ir e.1).2;have:=(Ir e.2.1).2;have:=bQ 33024;have:=bQ e.2.2.1;have:=bQ e.2.2.2.1;simp only[(Ir _).1,iU,ab,ai,ae,af,X6];grind[aQ]
theorem aoV (e:WZ):De e=some (abW e):=by
 unfold De abW;rw[Yu,ab];cases he:GB e;rfl;have hn:(e.2.2.2.2.length)<=400:=by grind[GB,bq]
 have:=(Ir e.1).2;have:=(Ir e.2.1).2;have:=bQ 33024;have:=bQ e.2.2.1;have:=bQ e.2.2.2.1;simp only[aoW,mG,ab,ai,ae,af,X6];grind[aQ]
def ar8 (p:aR):Bytes×Bool:=IM p.2.2.2.2.2.2.1 p.2.2.2.2.2.2.2.1 p.2.2.2.2.2.2.2.2
def ipP (p:aR):Bytes×Bool:=ipR (p.2.2.2.1,p.2.2.2.2.1,p.2.2.2.2.2.1,p.2.2.2.2.2.2.2.2.1,p.2.2.2.2.2.2.1,p.2.2.2.2.2.2.2.1,(ar8 p).1)
def aoG (p:aR):Bytes×Bool:=abW (p.1,p.2.1,p.2.2.1,2048,pad (ipP p).1)
def eS (p:aR):Bytes×Bool:=bif dL p then aoG p else([],false)
theorem aat (p:aR):(ipP p).1.length<=360:=by grind[apg,ipP,ipR,ar8,RV]
theorem Jy (p:aR):ic p=some (eS p):=by have hl:=aat p;unfold ic eS;simp only[qG,MP,anJ,ab];rw[show(ipR (p.2.2.2.1,p.2.2.2.2.1,p.2.2.2.2.2.1,p.2.2.2.2.2.2.2.2.1,p.2.2.2.2.2.2.1,p.2.2.2.2.2.2.2.1,(IM p.2.2.2.2.2.2.1 p.2.2.2.2.2.2.2.1 p.2.2.2.2.2.2.2.2).1))=ipP p from rfl,apk _ (by omega),ab,apj];cases dL p<;>rfl
theorem Je (p:aR):ia p=some (eS p):=by have hl:=aat p;unfold ia eS;simp only[nC,Ms,amA,ab];rw[show(ipR (p.2.2.2.1,p.2.2.2.2.1,p.2.2.2.2.2.1,p.2.2.2.2.2.2.2.2.1,p.2.2.2.2.2.2.1,p.2.2.2.2.2.2.2.1,(IM p.2.2.2.2.2.2.1 p.2.2.2.2.2.2.2.1 p.2.2.2.2.2.2.2.2).1))=ipP p from rfl,aoX _ (by omega),ab,aoV];cases dL p<;>rfl
theorem Jc (h:dL p=true):(eS p).2=true:=by grind[aat,Mh,dL,aaJ,eS,aoG,abW,GB,bq]
theorem CH (p:aR):(eS p).1.length<=378:=by grind[aat,aaJ,eS,aoG,abW,alM]
def fcs (c:Int):Bytes:=aU [gU c,gU (fdiv c (2^(vH 8))),gU (fdiv c (2^(vH 16))),gU (fdiv c (2^(vH 24)))]
def K3 (s:Bytes):Bytes:=s++fcs (XX s)
theorem aoI (c:Int):(fcs c).length=4:=rfl
theorem ain (s:Bytes)(h:s.length<=10^9):Ce s=some (K3 s):=by unfold Ce;rw[aim s h,ab,ny,ny,ny];exact aQ (by show s.length+4<=_;omega)
theorem ahT (s:Bytes)(h:s.length<=10^9):AP s=some (K3 s):=by unfold AP;rw[ahS s h,ab,ny,ny,ny];exact aQ (by show s.length+4<=_;omega)
def fX (p:aR):Bool:=dL p&&decide ((p.2.2.2.2.2.2.2.2.2.2.2.2.2.2.2.length:Int)<=128)
theorem CX (p:aR):kA p=some (fX p):=by grind[kA,qG,ab,fX]
theorem CK (p:aR):ku p=some (fX p):=by grind[ku,nC,ab,fX]
def GG (p:aR):Bytes×Bool:=bif fX p then(K3 (eS p).1,true) else([],false)
theorem Zg (p:aR):sE p=some (GG p):=by grind[CH,sE,CX,Jy,ain,ab,GG]
theorem Yv (p:aR):sk p=some (GG p):=by grind[CH,sk,CK,Je,ahT,ab,GG,fX,Jc]
theorem Nj (p:aR):(GG p).1.length<=382:=by grind[CH,GG,K3,aoI]
def V2 (p:aR)(z:Int)(k:Nat):aR:=
 (p.1,p.2.1,p.2.2.1,p.2.2.2.1,tmod (ak (p.2.2.2.2.1+(k:Int))) 65536,p.2.2.2.2.2.1,p.2.2.2.2.2.2.1,p.2.2.2.2.2.2.2.1,p.2.2.2.2.2.2.2.2.1,p.2.2.2.2.2.2.2.2.2.1,p.2.2.2.2.2.2.2.2.2.2.1,
   tmod (ak (p.2.2.2.2.2.2.2.2.2.2.2.1+((k:Int)*z))) 4294967296,p.2.2.2.2.2.2.2.2.2.2.2.2.1,
   (bif decide (((k:Int)+1)*z<(p.2.2.2.2.2.2.2.2.2.2.2.2.2.2.2.length:Int)) then ak (toNat (gv p.2.2.2.2.2.2.2.2.2.2.2.2.2.1&&&~~~ gv 9)) else p.2.2.2.2.2.2.2.2.2.2.2.2.2.1),
   p.2.2.2.2.2.2.2.2.2.2.2.2.2.2.1,(p.2.2.2.2.2.2.2.2.2.2.2.2.2.2.2.take (min ((k+1)*z.toNat) p.2.2.2.2.2.2.2.2.2.2.2.2.2.2.2.length)).drop (k*z.toNat))
def ln (n z:Nat):Nat:=(n+z-1)/z
def IQ (p:aR)(z:Int):ar aR:=bif dL p&&du z 1 128 then
    (bif (p.2.2.2.2.2.2.2.2.1 !=6)||decide ((p.2.2.2.2.2.2.2.2.2.2.2.2.2.2.2.length:Int)<=z) then [p] else(range (ln p.2.2.2.2.2.2.2.2.2.2.2.2.2.2.2.length z.toNat)).map (V2 p z)) else []
theorem Se {n z k:Nat}(hz:0<z:=by omega):k<ln n z↔k*z<n:=by grind[ln,Nat.lt_div_iff_mul_lt]
theorem C5 (h:dL p=true):p.2.2.2.2.2.2.2.2.2.2.2.2.2.2.2.length<=320:=by grind[dL,QM,Vo]
theorem Zo {b:Bytes}{k z:Nat}(hk:k*z<b.length)(hb:b.length<=320):sub b ((k*z:Nat):Int) ((min ((k+1)*z) b.length:Nat):Int)=some ((b.take (min ((k+1)*z) b.length)).drop (k*z)):=by grind[sub]
theorem akF (p:aR)(z:Int):KP p z=some (IQ p z):=by
 unfold KP IQ;simp only[qG,cm,ab];cases hs:dL p;rfl;cases hz:du z 1 128;rfl;have hz':=bq.1 hz;have hb:=C5 hs;simp only[ai,ae,cB,af,ab,ch,cT];cases hq:(p.2.2.2.2.2.2.2.2.1 !=6)||decide ((p.2.2.2.2.2.2.2.2.2.2.2.2.2.2.2.length)<=z)with
 |true=>rfl
 |false=>
  obtain⟨m,rfl⟩:=aD (show 0<=z by omega);have hN:∀k,k<ln p.2.2.2.2.2.2.2.2.2.2.2.2.2.2.2.length m↔k*m<p.2.2.2.2.2.2.2.2.2.2.2.2.2.2.2.length:=λk=>Se;have NS:ln p.2.2.2.2.2.2.2.2.2.2.2.2.2.2.2.length m<=320:=by rcases bS 320 (ln p.2.2.2.2.2.2.2.2.2.2.2.2.2.2.2.length m)with h|h;have:=(hN 320).1 h;omega;exact h
  refine bz (λk=>((range k).map (V2 p (m)),(k:Int))) (ln p.2.2.2.2.2.2.2.2.2.2.2.2.2.2.2.length m) (by omega) (λk nx hk=>?_) (λnx=>?_);have hkm:=(hN k).1 hk;have hk1:(k+1)*m=k*m+m:=by rw[cx,eH]
  have e1:(k:Int)*(m)=((k*m:Nat)):=by push_cast;rfl
  have e2:((k:Int)+1)*(m)=(((k+1)*m:Nat)):=by push_cast;rfl
  simp only[DY];rw[aj (n:=(k)+1) (by omega) (by omega),e1,e2,gu (by omega),gu (by omega),gL,af];have e3:(if(((k+1)*m:Nat):Int)<(p.2.2.2.2.2.2.2.2.2.2.2.2.2.2.2.length) then(((k+1)*m:Nat):Int) else(p.2.2.2.2.2.2.2.2.2.2.2.2.2.2.2.length))=((min ((k+1)*m) p.2.2.2.2.2.2.2.2.2.2.2.2.2.2.2.length)):=by split<;>omega
  rw[e3,Zo hkm hb,ab,ny,ny];rw[List.range_succ,eu,List.map_singleton];simp only[V2,e1,e2,aw];cases decide ((((k+1)*m:Nat):Int)<(p.2.2.2.2.2.2.2.2.2.2.2.2.2.2.2.length))with|true=>rw[aQ (by simp;omega)];rfl|false=>simp only[ae];rw[aQ (by simp;omega)];rfl
  have hkm:¬ln p.2.2.2.2.2.2.2.2.2.2.2.2.2.2.2.length m*m<p.2.2.2.2.2.2.2.2.2.2.2.2.2.2.2.length:=λh=>absurd ((hN _).2 h) (pP _);have hub:ln p.2.2.2.2.2.2.2.2.2.2.2.2.2.2.2.length m*m<=320*128:=Nat.mul_le_mul NS (by omega);have e1:((ln p.2.2.2.2.2.2.2.2.2.2.2.2.2.2.2.length m):Int)*(m)=((ln p.2.2.2.2.2.2.2.2.2.2.2.2.2.2.2.length m*m:Nat)):=by push_cast;rfl
  simp only[DY];rw[e1,gu (by omega),fG];rfl
theorem ajy (p:aR)(z:Int):J5 p z=some (IQ p z):=by
 unfold J5 IQ;simp only[nC,cr,ab];cases hs:dL p;rfl;cases hz:du z 1 128;rfl;have hz':=bq.1 hz;have hb:=C5 hs;simp only[ai,ae,cB,af,ab,ch,cT];cases hq:(p.2.2.2.2.2.2.2.2.1 !=6)||decide ((p.2.2.2.2.2.2.2.2.2.2.2.2.2.2.2.length)<=z)with
 |true=>rfl
 |false=>
  obtain⟨m,rfl⟩:=aD (show 0<=z by omega);have hN:∀k,k<ln p.2.2.2.2.2.2.2.2.2.2.2.2.2.2.2.length m↔k*m<p.2.2.2.2.2.2.2.2.2.2.2.2.2.2.2.length:=λk=>Se;have NS:ln p.2.2.2.2.2.2.2.2.2.2.2.2.2.2.2.length m<=320:=by rcases bS 320 (ln p.2.2.2.2.2.2.2.2.2.2.2.2.2.2.2.length m)with h|h;have:=(hN 320).1 h;omega;exact h
  refine bz (λk=>((range k).map (V2 p (m)),(k:Int))) (ln p.2.2.2.2.2.2.2.2.2.2.2.2.2.2.2.length m) (by omega) (λk nx hk=>?_) (λnx=>?_);have hkm:=(hN k).1 hk;have hk1:(k+1)*m=k*m+m:=by rw[cx,eH]
  have e1:(k:Int)*(m)=((k*m:Nat)):=by push_cast;rfl
  have e2:((k:Int)+1)*(m)=(((k+1)*m:Nat)):=by push_cast;rfl
  have ti:=Zo hkm hb;simp only[Dt];rw[aj (n:=(k)+1) (by omega) (by omega),e1,e2,gu (by omega),gu (by omega),gL,af];rw[List.range_succ,eu,List.map_singleton];simp only[V2,e1,e2,aw];by_cases hc:(((k+1)*m:Nat):Int)<(p.2.2.2.2.2.2.2.2.2.2.2.2.2.2.2.length);rw[ax hc];rw[show min ((k+1)*m) p.2.2.2.2.2.2.2.2.2.2.2.2.2.2.2.length=(k+1)*m by omega]at ti⊢;rw[ti,ab,ny,ny,aQ (by simp;omega)];rfl;rw[aq hc];rw[show min ((k+1)*m) p.2.2.2.2.2.2.2.2.2.2.2.2.2.2.2.length=p.2.2.2.2.2.2.2.2.2.2.2.2.2.2.2.length by omega]at ti⊢;rw[ti,ab,ny,ny,aQ (by simp;omega)];rfl;have hkm:¬ln p.2.2.2.2.2.2.2.2.2.2.2.2.2.2.2.length m*m<p.2.2.2.2.2.2.2.2.2.2.2.2.2.2.2.length:=λh=>absurd ((hN _).2 h) (pP _);have hub:ln p.2.2.2.2.2.2.2.2.2.2.2.2.2.2.2.length m*m<=320*128:=Nat.mul_le_mul NS (by omega);have e1:((ln p.2.2.2.2.2.2.2.2.2.2.2.2.2.2.2.length m):Int)*(m)=((ln p.2.2.2.2.2.2.2.2.2.2.2.2.2.2.2.length m*m:Nat)):=by push_cast;rfl
  simp only[Dt];rw[e1,gu (by omega),fG];rfl
theorem Po (p:aR)(z:Int):(IQ p z).length<=320:=by unfold IQ;cases hs:dL p&&du z 1 128;exact eh _;simp only[ah,bq]at hs;have hb:=C5 hs.1;cases (p.2.2.2.2.2.2.2.2.1 !=6)||decide ((p.2.2.2.2.2.2.2.2.2.2.2.2.2.2.2.length)<=z)with|true=>simp only[af,aS];omega|false=>simp only[af,ae,bW,List.length_range];rcases bS 320 (ln p.2.2.2.2.2.2.2.2.2.2.2.2.2.2.2.length z.toNat)with h|h;have:=(Se).1 h;omega;exact h
def Uz (acc:bp)(p:aR):bp:=bif (GG p).2 then acc++[(GG p).1] else acc
theorem UA (acc:bp)(p:aR):(Uz acc p).length<=acc.length+1:=by grind[Uz]
def Nk (l:ar aR):bp:=l.foldl Uz []
theorem SN:∀(l:ar aR)(acc:bp),(l.foldl Uz acc).length<=acc.length+l.length
 |[],acc=>by simp
 |p::l,acc=>by have:=SN l (Uz acc p);grind[UA]
theorem N4:∀(l:ar aR)(acc:bp),(∀x∈acc,x.length<=382)->∀x∈l.foldl Uz acc,x.length<=382
 |[],acc,h=>h
 |p::l,acc,h=>by refine N4 l _ (λx hx=>?_);grind[Uz,Nj]
theorem agO (l:ar aR)(h:l.length<=10^9):DQ l=some (Nk l):=by
 unfold DQ Nk;have:=vu (T:=qO (λ(y3) (_)=>some y3) l) l (λ(s) i=>(s,(i))) (λi s=>s.length<=i) (λp s=> .ok (Uz s p)) (λs=>some s) (by omega) (λi hi s nx hI=>?hs) (λi hi s s' hI hg=>?hn) (λs nx hI=>?hf) [] (by simp)
 case hs=>
  grind[qO,aN,aj,ab,Zg,Uz,aQ]
 all_goals grind[UA,qO,KE]
theorem afL (l:ar aR)(h:l.length<=10^9):Dk l=some (Nk l):=by
 unfold Dk Nk;have:=vu (T:=pZ (λ(y3) (_)=>some y3) l (l.length)) l (λ(s) i=>(s,(i))) (λi s=>s.length<=i) (λp s=> .ok (Uz s p)) (λs=>some s) (by omega) (λi hi s nx hI=>?hs) (λi hi s s' hI hg=>?hn) (λs nx hI=>?hf) [] (by simp)
 case hs=>
  grind[pZ,aN,aj,ab,Yv,Uz,aQ]
 all_goals grind[UA,pZ,KE]
def Zb (p:aR)(z:Int):bp:=Nk (IQ p z)
theorem anR (p:aR)(z:Int):yR p z=some (Zb p z):=by have:=Po p z;simp only[yR,akF,agO _ (show(IQ p z).length<=10^9 by omega),ab];rfl
theorem amJ (p:aR)(z:Int):yA p z=some (Zb p z):=by have:=Po p z;simp only[yA,ajy,afL _ (show(IQ p z).length<=10^9 by omega),ab];rfl
theorem akp (p:aR)(z:Int):(Zb p z).length<=320/\∀x∈Zb p z,x.length<=382:=by have:=Po p z;have:=SN (IQ p z) [];exact⟨by grind[Zb,Nk],N4 _ [] (by simp)⟩
theorem I8 (h0:0<=a:=by omega)(h:a+2<=(s.length:Int):=by omega):0<=cO s a/\cO s a<=65535:=by grind[fw,cO,fP]
theorem I9 (h0:0<=a:=by omega)(h:a+4<=(s.length:Int):=by omega):0<=ec s a/\ec s a<=4294967295:=by grind[fw,ec,fP]
theorem amU {x y:Int}(hx:0<=x/\x<=65535)(hy:0<=y/\y<=4294967295):ak (toNat (gv (ak (x*2^(vH 32)))|||gv y))=x*4294967296+y:=by have e:(2:Int)^(vH 32)=4294967296:=rfl;obtain⟨x,rfl⟩:=aD hx.1;obtain⟨y,rfl⟩:=aD hy.1;rw[e,aj (n:=(x:Int)*4294967296) (by omega) (by omega),show(x:Int)*4294967296=((2^32*x:Nat):Int) by omega,Pe x 32 y];omega
theorem ahZ {x y:Int}(hx:0<=x/\x<=65535)(hy:0<=y/\y<=4294967295):ak (ak (x*2^(vH 32))+y)=x*4294967296+y:=by grind[IntKind.bits,aj]
theorem D4 {l:ar α}{n:Int}(h0:0<=n)(h1:n<=(l.length:Int)):sub l 0 n=some (l.take n.toNat):=by grind[sub]
theorem xi {l:ar α}(k:Nat)(h:k<=l.length:=by omega)(ha:a=(k:Int):=by omega):sub l a (l.length:Int)=some (l.drop k):=by simp_all[sub]
theorem Ra {l:ar α}(k:Nat){n:Int}(ha:a=(k:Int))(h0:a<=n)(h1:n<=(l.length:Int)):sub l a n=some ((l.take n.toNat).drop k):=by grind[sub]
def JM (s:Bytes):Bytes×Bool:=bif decide ((s.length:Int)<4) then([],false) else bif K3 (s.take ((s.length:Int)-4).toNat)==s then(s.take ((s.length:Int)-4).toNat,true) else([],false)
theorem agL (s:Bytes)(h:s.length<=10^9):DK s=some (JM s):=by unfold DK JM;rw[aj (n:=(s.length:Int)-4) (by omega) (by omega)];by_cases h4:(s.length:Int)<4;rw[ax h4];rfl;rw[aq h4,D4 (by omega) (by omega)];simp only[ae,ab,ain _ (show(s.take ((s.length:Int)-4).toNat).length<=10^9 by rw[bm];omega)];cases K3 (s.take ((s.length:Int)-4).toNat)==s<;>rfl
theorem afI (s:Bytes)(h:s.length<=10^9):Df s=some (JM s):=by unfold Df JM;rw[aj (n:=(s.length:Int)-4) (by omega) (by omega)];by_cases h4:(s.length:Int)<4;rw[ax (show(s.length:Int)-4<0 by omega),ax h4];rfl;rw[aq (show¬(s.length:Int)-4<0 by omega),aq h4,D4 (by omega) (by omega)];simp only[ae,ab,ahT _ (show(s.take ((s.length:Int)-4).toNat).length<=10^9 by rw[bm];omega)];cases K3 (s.take ((s.length:Int)-4).toNat)==s<;>rfl
def aoF:WZ:=(0,0,0,0,([]:Bytes))
def Ok (s:Bytes)(a:Int):Int:=cO s a*4294967296+ec s (a+2)
def UW (s:Bytes):WZ:=(Ok s 0,Ok s 6,cO s 14,cO s 16,s.drop 18)
def I3 (s:Bytes):WZ:=(Ok s 0,Ok s 6, -1,cO s 12,s.drop 14)
def gr (s:Bytes):WZ×Bool:=bif decide ((s.length:Int)<18) then(aoF,false) else
 bif cO s 12==33024 then(bif GB (UW s) then(UW s,true) else(aoF,false)) else bif GB (I3 s) then(I3 s,true) else(aoF,false)
theorem aa6 (s:Bytes)(h:s.length<=10^9):DU s=some (gr s):=by unfold DU gr;by_cases h8:(s.length:Int)<18;rw[ax h8];rfl;rw[aq h8];simp only[ae,wI s _ h,CW s _ h,ab];rw[ny,ny,xi (l:=s) 14 (by omega) (show(14:Int)=((14:Nat):Int) from rfl),ab,xi (l:=s) 18 (by omega) (show(18:Int)=((18:Nat):Int) from rfl)];rw[ahZ (I8 (s:=s) (a:=0)) (I9 (s:=s) (a:=2)),ahZ (I8 (s:=s) (a:=6)) (I9 (s:=s) (a:=8))];simp only[ab,Sr];rw[show((cO s 0*4294967296+ec s 2,cO s 6*4294967296+ec s 8,cO s 14,cO s 16,s.drop 18):WZ)=UW s from rfl,show((cO s 0*4294967296+ec s 2,cO s 6*4294967296+ec s 8, -1,cO s 12,s.drop 14):WZ)=I3 s from rfl];cases cO s 12==33024<;>cases GB (UW s)<;>cases GB (I3 s)<;>rfl
theorem Qi (s:Bytes)(h:s.length<=10^9):xI s=some (gr s):=by
 unfold xI gr;by_cases h4:(s.length:Int)<14;rw[ax h4,ax (show(s.length:Int)<18 by omega)];rfl;rw[aq h4];simp only[ae,CI s _ h,CJ s _ h,ab];rw[ny,ny,xi (l:=s) 14 (by omega) (show(14:Int)=((14:Nat):Int) from rfl),ab];rw[amU (I8 (s:=s) (a:=0)) (I9 (s:=s) (a:=2)),amU (I8 (s:=s) (a:=6)) (I9 (s:=s) (a:=8))];simp only[ab,Yu];rw[show((cO s 0*4294967296+ec s 2,cO s 6*4294967296+ec s 8, -1,cO s 12,s.drop 14):WZ)=I3 s from rfl];by_cases h8:(s.length:Int)<18;have hB:GB (I3 s)=false:=by
  unfold GB I3;have:du ((s.drop 14).length:Int) 46 400=false:=by rw[Bool.eq_false_iff,ne_eq,bq,bl];omega
  simp only[this,la]
 rw[ax h8,aq (show¬(s.length:Int)>=18 by omega),hB];cases cO s 12==33024<;>rfl;rw[aq h8,ax (show(s.length:Int)>=18 by omega),xi (l:=s) 18 (by omega) (show(18:Int)=((18:Nat):Int) from rfl)];simp only[ab];rw[show((cO s 0*4294967296+ec s 2,cO s 6*4294967296+ec s 8,cO s 14,cO s 16,s.drop 18):WZ)=UW s from rfl];cases cO s 12==33024<;>cases GB (UW s)<;>cases GB (I3 s)<;>rfl
def ip0:Ip:=(0,0,0,0,0,0,([]:Bytes))
def Pb (s:Bytes):Ip:=((bZ s 1:Int),cO s 4,(bZ s 8:Int),(bZ s 9:Int),ec s 12,ec s 16,(s.take (cO s 2).toNat).drop 20)
def ot (s:Bytes):Ip×Bool:=bif decide ((s.length:Int)<20)||(decide (cO s 2<20)||decide (cO s 2>(s.length:Int))) then(ip0,false) else
 bif (ipR (Pb s)).2&&((ipR (Pb s)).1==s.take (cO s 2).toNat) then(Pb s,true) else(ip0,false)
theorem ad7 (s:Bytes)(h:s.length<=10^9):FY s=some (ot s):=by
 unfold FY ot;simp only[wI s _ h,CW s _ h,ab];by_cases h1:(s.length:Int)<20;rw[ax h1];rfl;by_cases h2:cO s 2<20;rw[aq h1,ax h2];rfl;by_cases h3:cO s 2>(s.length:Int);rw[aq h1,aq h2,ax h3];rfl;rw[aq h1,aq h2,aq h3];have b1:=lZ (s[1]'(by omega));have b8:=lZ (s[8]'(by omega));have b9:=lZ (s[9]'(by omega));have i1:idx s 1=some (s[1]'(by omega)):=aN (i:=1) (by omega);have i8:idx s 8=some (s[8]'(by omega)):=aN (i:=8) (by omega);have i9:idx s 9=some (s[9]'(by omega)):=aN (i:=9) (by omega);simp only[ae,ab,bO,i1,i8,i9];rw[Ra (l:=s) 20 (show(20:Int)=((20:Nat):Int) from rfl) (by omega) (by omega),D4 (by omega) (by omega),gu (n:=(s[1]'(by omega)).toNat) (by omega),gu (n:=(s[8]'(by omega)).toNat) (by omega),gu (n:=(s[9]'(by omega)).toNat) (by omega)];have e:(((s[1]'(by omega)).toNat:Int),cO s 4,((s[8]'(by omega)).toNat:Int),((s[9]'(by omega)).toNat:Int),ec s 12,ec s 16,(s.take (cO s 2).toNat).drop 20)=Pb s:=by grind[Pb,bZ]
 simp only[ab,e,anJ];cases (ipR (Pb s)).2<;>cases (ipR (Pb s)).1==s.take (cO s 2).toNat<;>rfl
theorem acN (s:Bytes)(h:s.length<=10^9):Fz s=some (ot s):=by
 unfold Fz ot;simp only[CI s _ h,CJ s _ h,ab];by_cases h1:(s.length:Int)<20;rw[ax h1];rfl;by_cases h2:cO s 2<20;rw[aq h1,ax h2];rfl;by_cases h3:cO s 2>(s.length:Int);rw[aq h1,aq h2,ax h3];rfl;rw[aq h1,aq h2,aq h3];have b1:=lZ (s[1]'(by omega));have b8:=lZ (s[8]'(by omega));have b9:=lZ (s[9]'(by omega));have i1:idx s 1=some (s[1]'(by omega)):=aN (i:=1) (by omega);have i8:idx s 8=some (s[8]'(by omega)):=aN (i:=8) (by omega);have i9:idx s 9=some (s[9]'(by omega)):=aN (i:=9) (by omega);simp only[ae,ab,bO,i1,i8,i9];rw[Ra (l:=s) 20 (show(20:Int)=((20:Nat):Int) from rfl) (by omega) (by omega),D4 (by omega) (by omega),gu (n:=(s[1]'(by omega)).toNat) (by omega),gu (n:=(s[8]'(by omega)).toNat) (by omega),gu (n:=(s[9]'(by omega)).toNat) (by omega)];have e:(((s[1]'(by omega)).toNat:Int),cO s 4,((s[8]'(by omega)).toNat:Int),((s[9]'(by omega)).toNat:Int),ec s 12,ec s 16,(s.take (cO s 2).toNat).drop 20)=Pb s:=by grind[Pb,bZ]
 simp only[ab,e,amA];cases (ipR (Pb s)).2<;>cases (ipR (Pb s)).1==s.take (cO s 2).toNat<;>rfl
def aq0:ej:=(0,0,0,0,0,0,0,([]:Bytes))
def Wh (k:Int)(s:Bytes):ej:=(k,cO s 0,cO s 2,ec s 4,ec s 8,(bZ s 13:Int),cO s 14,s.drop 20)
def aaX (k:Int)(s:Bytes):ej:=(k,cO s 0,cO s 2,0,0,0,0,s.drop 8)
def yc (a b k:Int)(s:Bytes):ej×Bool:=
 bif (k==6)&&decide ((s.length:Int)>=20) then(bif (IM a b (Wh k s)).2&&((IM a b (Wh k s)).1==s) then(Wh k s,true) else(aq0,false)) else
 bif (k==17)&&decide ((s.length:Int)>=8) then(bif (IM a b (aaX k s)).2&&((IM a b (aaX k s)).1==s) then(aaX k s,true) else(aq0,false)) else(aq0,false)
theorem aa7 (a b k:Int)(s:Bytes)(h:s.length<=10^9):uh a b k s=some (yc a b k s):=by
 unfold uh yc;simp only[wI s _ h,CW s _ h,ab];rw[show(aa (cond (k==6) (some (decide ((s.length:Int)>=20))) (some false)):(Bool->au (ej×Bool))->au (ej×Bool))=λK=>K ((k==6)&&decide ((s.length:Int)>=20)) from by funext K;cases k==6<;>rfl];rw[show(aa (cond (k==17) (some (decide ((s.length:Int)>=8))) (some false)):(Bool->au (ej×Bool))->au (ej×Bool))=λK=>K ((k==17)&&decide ((s.length:Int)>=8)) from by funext K;simp_all];simp only;cases h1:(k==6)&&decide ((s.length:Int)>=20)with
 |true=>
  simp only[ah,bK]at h1;have bb:=lZ (s[13]'(by omega));have i:idx s 13=some (s[13]'(by omega)):=aN (i:=13) (by omega);have e:(k,cO s 0,cO s 2,ec s 4,ec s 8,((s[13]'(by omega)).toNat:Int),cO s 14,s.drop 20)=Wh k s:=by grind[Wh,bZ]
  simp only[af,i,ab];rw[xi (l:=s) 20 (by omega) (show(20:Int)=((20:Nat):Int) from rfl),gu (n:=(s[13]'(by omega)).toNat) (by omega)];simp only[ab,e,MP];cases (IM a b (Wh k s)).2<;>cases (IM a b (Wh k s)).1==s<;>rfl
 |false=>simp only[ae];cases h2:(k==17)&&decide ((s.length:Int)>=8)with|false=>rfl|true=>simp only[ah,bK]at h2;rw[xi (l:=s) 8 (by omega) (show(8:Int)=((8:Nat):Int) from rfl)];simp only[af,ab,show((k,cO s 0,cO s 2,0,0,0,0,s.drop 8):ej)=aaX k s from rfl,MP];cases (IM a b (aaX k s)).2<;>cases (IM a b (aaX k s)).1==s<;>rfl
theorem aao (a b k:Int)(s:Bytes)(h:s.length<=10^9):tH a b k s=some (yc a b k s):=by
 unfold tH yc;simp only[CI s _ h,CJ s _ h,ab];rw[show(aa (cond (k==6) (some (decide ((s.length:Int)>=20))) (some false)):(Bool->au (ej×Bool))->au (ej×Bool))=λK=>K ((k==6)&&decide ((s.length:Int)>=20)) from by funext K;cases k==6<;>rfl];rw[show(aa (cond (k==17) (some (decide ((s.length:Int)>=8))) (some false)):(Bool->au (ej×Bool))->au (ej×Bool))=λK=>K ((k==17)&&decide ((s.length:Int)>=8)) from by funext K;simp_all];simp only;cases h1:(k==6)&&decide ((s.length:Int)>=20)with
 |true=>
  simp only[ah,bK]at h1;have bb:=lZ (s[13]'(by omega));have i:idx s 13=some (s[13]'(by omega)):=aN (i:=13) (by omega);have e:(k,cO s 0,cO s 2,ec s 4,ec s 8,((s[13]'(by omega)).toNat:Int),cO s 14,s.drop 20)=Wh k s:=by grind[Wh,bZ]
  simp only[af,i,ab];rw[xi (l:=s) 20 (by omega) (show(20:Int)=((20:Nat):Int) from rfl),gu (n:=(s[13]'(by omega)).toNat) (by omega)];simp only[ab,e,Ms];cases (IM a b (Wh k s)).2<;>cases (IM a b (Wh k s)).1==s<;>rfl
 |false=>simp only[ae];cases h2:(k==17)&&decide ((s.length:Int)>=8)with|false=>rfl|true=>simp only[ah,bK]at h2;rw[xi (l:=s) 8 (by omega) (show(8:Int)=((8:Nat):Int) from rfl)];simp only[af,ab,show((k,cO s 0,cO s 2,0,0,0,0,s.drop 8):ej)=aaX k s from rfl,Ms];cases (IM a b (aaX k s)).2<;>cases (IM a b (aaX k s)).1==s<;>rfl
def pk0:aR:=(0,0,0,0,0,0,0,0,0,0,0,0,0,0,0,([]:Bytes))
def zW (s:Bytes):aR×Int:=
 let e:=gr s
 bif !e.2||(e.1.2.2.2.1 !=2048) then(pk0,2) else
 let i:=ot e.1.2.2.2.2
 bif !i.2 then(pk0,3) else
 let g:=yc i.1.2.2.2.2.1 i.1.2.2.2.2.2.1 i.1.2.2.2.1 i.1.2.2.2.2.2.2
 bif !g.2 then(pk0,4) else
 bif !dL (e.1.1,e.1.2.1,e.1.2.2.1,i.1.1,i.1.2.1,i.1.2.2.1,i.1.2.2.2.2.1,i.1.2.2.2.2.2.1,g.1) then(pk0,5) else
 ((e.1.1,e.1.2.1,e.1.2.2.1,i.1.1,i.1.2.1,i.1.2.2.1,i.1.2.2.2.2.1,i.1.2.2.2.2.2.1,g.1),0)
theorem Ky (s:Bytes):(gr s).1.2.2.2.2.length<=s.length:=by grind[gr,aoF,UW,I3]
theorem S8 (s:Bytes):(ot s).1.2.2.2.2.2.2.length<=s.length:=by grind[ot,ip0,Pb]
theorem NG (s:Bytes)(h:s.length<=10^9):ju s=some (zW s):=by
 have h1:=Ky s;unfold ju zW;rw[aa6 s h,ab];generalize gr s=e at h1⊢;have h2:=S8 e.1.2.2.2.2;simp only;cases e.2;rfl;cases e.1.2.2.2.1 !=2048;case true=>rfl
 simp only[ai,ae,ab,bO,ad7 _ (show e.1.2.2.2.2.length<=10^9 by omega)];generalize ot e.1.2.2.2.2=i at h2⊢;cases i.2;rfl;simp only[ai,ae,ab,aa7 _ _ _ _ (show i.1.2.2.2.2.2.2.length<=10^9 by omega)];generalize yc i.1.2.2.2.2.1 i.1.2.2.2.2.2.1 i.1.2.2.2.1 i.1.2.2.2.2.2.2=g;cases g.2;rfl;simp only[ai,ae,ab,qG];cases dL (e.1.1,e.1.2.1,e.1.2.2.1,i.1.1,i.1.2.1,i.1.2.2.1,i.1.2.2.2.2.1,i.1.2.2.2.2.2.1,g.1)<;>rfl
theorem Nr (s:Bytes)(h:s.length<=10^9):jo s=some (zW s):=by
 have h1:=Ky s;unfold jo zW;rw[Qi s h,ab];generalize gr s=e at h1⊢;have h2:=S8 e.1.2.2.2.2;simp only;cases e.2;rfl;cases e.1.2.2.2.1 !=2048;case true=>rfl
 simp only[ai,ae,ab,bO,acN _ (show e.1.2.2.2.2.length<=10^9 by omega)];generalize ot e.1.2.2.2.2=i at h2⊢;cases i.2;rfl;simp only[ai,ae,ab,aao _ _ _ _ (show i.1.2.2.2.2.2.2.length<=10^9 by omega)];generalize yc i.1.2.2.2.2.1 i.1.2.2.2.2.2.1 i.1.2.2.2.1 i.1.2.2.2.2.2.2=g;cases g.2;rfl;simp only[ai,ae,ab,nC];cases dL (e.1.1,e.1.2.1,e.1.2.2.1,i.1.1,i.1.2.1,i.1.2.2.1,i.1.2.2.2.2.1,i.1.2.2.2.2.2.1,g.1)<;>rfl
def jI (s:Bytes):aR×Int:=
 let c:=JM s
 bif !c.2 then(pk0,1) else
 let r:=zW c.1
 bif r.2 !=0 then(pk0,r.2) else
 bif !fX r.1 then(pk0,5) else(r.1,0)
theorem UO (s:Bytes):(JM s).1.length<=s.length:=by grind[JM]
theorem Sv (s:Bytes)(h:s.length<=10^9):qU s=some (jI s):=by
 have h1:=UO s;unfold qU jI;rw[agL s h,ab];generalize JM s=c at h1⊢;simp only;cases c.2;rfl;simp only[ai,ae,ab,NG _ (show c.1.length<=10^9 by omega)];generalize zW c.1=r;cases r.2 !=0;case true=>rfl
 simp only[ae,ab,CX];cases fX r.1<;>rfl
theorem RQ (s:Bytes)(h:s.length<=10^9):qd s=some (jI s):=by
 have h1:=UO s;unfold qd jI;rw[afI s h,ab];generalize JM s=c at h1⊢;simp only;cases c.2;rfl;simp only[ai,ae,ab,Nr _ (show c.1.length<=10^9 by omega)];generalize zW c.1=r;cases r.2 !=0;case true=>rfl
 simp only[ae,ab,CK];cases fX r.1<;>rfl
theorem gx (a:bp)(h:a.length<=1073741824:=by omega):dz a=some a:=by simp_all[dz,ir,aQ]
theorem iT (a:bp)(h:a.length<=1073741824:=by omega):dH a=some a:=by grind[dH,aQ]
theorem nB (l:bp)(h:l.length<=10^9):ir l=some l:=by grind[ir,fb]
theorem pT (f:Filter)(h:f.2.2.length<=10^9):ff f=some f:=by grind[ff,nP,ab]
theorem qE (f:Filter)(h:f.2.2.length<=10^9):gQ f=some f:=by simp only[gQ,fb h,bH]
theorem ET (l:ar Stream)(h:l.length<=10^9:=by omega):mA l=some l:=by grind[mA,fb]
theorem Xi (t:ar Slot)(h:t.length<=10^9):AU t=some t:=by grind[AU,fb]
theorem Vy (s:jN)(h:s.2.length<=10^9):yE s=some s:=by grind[yE,nP,ab]
theorem Xh (s:fI)(h1:s.1.length<=10^9)(h2:s.2.1.length<=10^9)(h3:s.2.2.2.length<=10^9):tP s=some s:=by simp only[tP,fb h1,Xi _ h2,Vy _ h3,ab,bH]
theorem Xz (t:ar Slot)(h:t.length<=10^9):F1 t=some t:=by grind[F1,fb]
theorem Xy (s:fI)(h1:s.1.length<=10^9)(h2:s.2.1.length<=10^9)(h3:s.2.2.2.length<=10^9):F3 s=some s:=by simp only[F3,fb h1,Xz _ h2,fb h3,ab,bH]
theorem Zc (l:ar ie)(i:Nat)(hi:i<l.length):l.take i++[(l[i].1,l[i].2.1,l[i].2.2)]=l.take (i+1):=(aO hi).symm
theorem Qd (l:ar ie)(h:l.length<=10^9)(hx:∀x∈l,x.2.2.length<=10^9):xL l=some l:=by unfold xL;refine(bz (λi=>(l.take i,(i:Int))) l.length (by omega) (λi nx hi=>?_) (λnx=>?_));simp only[wv];rw[gL,aN hi,aj (by omega) (by omega)];simp only[af,ab,nP _ (hx _ (aE hi))];rw[aQ (by simp;omega),Zc l i hi];rfl;simp only[wv];rw[fG,bA];rfl
structure aeR (t:bX):Prop where
 p:t.2.1.2.2.2.length<=10^9
 w:t.2.2.1.length<=10^9
 x:∀x∈t.2.2.1,x.2.2.length<=10^9
theorem O6 (t:bX)(z:aeR t):uP t=some t:=by simp only[uP,zE _ z.p,Qd _ z.w z.x,ab]
theorem Hv (t:bX)(z:aeR t):kE t=some t:=by have h:=z.w;unfold kE;simp only[CO _ z.p,ab];refine(bz (λi=>((i:Int),t.1,t.2.1,t.2.2.1.take i,t.2.2.2)) t.2.2.1.length (by omega) (λi nx hi=>?_) (λnx=>?_));simp only[yY];rw[gL,aN hi,aj (by omega) (by omega)];simp only[af,ab,fb (z.x _ (aE hi)),bH];rw[aQ (by simp;omega),Zc _ i hi];rfl;simp only[yY];rw[fG,bA];rfl
theorem apX (z:bt 1000000000 cS h):aeR h.2.2.1:=⟨z.2.2.1.2.1.2.2.2.1,z.2.2.1.2.2.1.1,λx hx=>(z.2.2.1.2.2.1.2 x hx).2.2.1⟩
theorem ko (h:Host)(z:bt 1000000000 cS h):ib h=some h:=by have hp:h.2.2.2.2.1.length<=10^9:=z.2.2.2.2.1.1;have hm:h.1.length<=10^9:=z.1.1;unfold ib;simp only[gx _ (show h.1.length<=1073741824 by omega),AR,fb z.2.1.1,O6 _ (apX z),fb z.2.2.2.1.1,ab,bH];refine(bz (λi=>((i:Int),h.1,h.2.1,h.2.2.1,h.2.2.2.1,h.2.2.2.2.1.take i,h.2.2.2.2.2)) h.2.2.2.2.1.length (by omega) (λi nx hi=>?_) (λnx=>?_));simp only[wu];rw[gL,aN hi,aj (by omega) (by omega)];simp only[af,ab,zE _ (z.2.2.2.2.1.2 _ (aE hi)).2.2.2.1];rw[aQ (by simp;omega),<-aO hi];rfl;simp only[wu];rw[fG,bA];simp only[ae,fb z.2.2.2.2.2.1.1,fb z.2.2.2.2.2.2.1.1,pT _ z.2.2.2.2.2.2.2.1.2.2.1,Xh _ z.2.2.2.2.2.2.2.2.1.1.1 z.2.2.2.2.2.2.2.2.1.2.1.1 z.2.2.2.2.2.2.2.2.1.2.2.2.1,ET _ z.2.2.2.2.2.2.2.2.2.1.1,nB _ z.2.2.2.2.2.2.2.2.2.2.2.1.1,nP _ z.2.2.2.2.2.2.2.2.2.2.2.2.1.1,nP _ z.2.2.2.2.2.2.2.2.2.2.2.2.2.1.1,ab,bH]
theorem kz (h:Host)(z:bt 1000000000 cS h):iR h=some h:=by have hp:h.2.2.2.2.1.length<=10^9:=z.2.2.2.2.1.1;have hm:h.1.length<=10^9:=z.1.1;unfold iR;simp only[iT _ (show h.1.length<=1073741824 by omega),fb z.2.1.1,Hv _ (apX z),fb z.2.2.2.1.1,ab,bH];refine(bz (λi=>((i:Int),h.1,h.2.1,h.2.2.1,h.2.2.2.1,h.2.2.2.2.1.take i,h.2.2.2.2.2)) h.2.2.2.2.1.length (by omega) (λi nx hi=>?_) (λnx=>?_));simp only[za];rw[gL,aN hi,aj (by omega) (by omega)];simp only[af,ab,CO _ (z.2.2.2.2.1.2 _ (aE hi)).2.2.2.1];rw[aQ (by simp;omega),<-aO hi];rfl;simp only[za];rw[fG,bA];simp only[ae,fb z.2.2.2.2.2.1.1,fb z.2.2.2.2.2.2.1.1,qE _ z.2.2.2.2.2.2.2.1.2.2.1,Xy _ z.2.2.2.2.2.2.2.2.1.1.1 z.2.2.2.2.2.2.2.2.1.2.1.1 z.2.2.2.2.2.2.2.2.1.2.2.2.1,fb z.2.2.2.2.2.2.2.2.2.1.1,fb z.2.2.2.2.2.2.2.2.2.2.2.1.1,fb z.2.2.2.2.2.2.2.2.2.2.2.2.1.1,fb z.2.2.2.2.2.2.2.2.2.2.2.2.2.1.1,ab,bH]
theorem ahz:∀l:ar ie,(cG l).length<=mm (.sl kZ) l
 |[]=>by simp[cG]
 |x::l=>by have:=ahz l;grind[cG,mm]
end
end Go.Pu
