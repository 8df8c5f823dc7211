import Derived.Test.YthmhicidfohmeaaGreatDnData
import Derived.Test.YthmhicidfohmeaaGreatPure
namespace Go.Pu
open Go.Dn
set_option linter.unusedSimpArgs false
set_option linter.unusedVariables false
noncomputable section
/- Plain laws of the partial operations and of loops. -/
theorem wrap64 {n:Int}(h1: -9223372036854775808≤n)(h2:n≤9223372036854775807):ao n=n:=by simp only[ao,fg,IntKind.wrap,IntKind.bits,IntKind.signed];simp;omega
@[simp] theorem ab {α R:Type}(a:α)(k:α→Option R):aa (some a) k=k a:=rfl
@[simp] theorem aaU {α R:Type}(k:α→Option R):aa none k=none:=rfl
@[simp] theorem yC {α R:Type}(c:Bool)(x y:α)(k:α→Option R):aa (cond c (some x) (some y)) k=k (cond c x y):=by cases c<;>rfl
theorem ba {α:Type}(c:Bool)(x y:α):cond c (some x) (some y)=some (cond c x y):=by cases c<;>rfl
theorem aK {R:Type}{n:Nat}{k:Option R}(h:n≤1073741824):room n k=k:=by simp[room,h]
theorem Et {α:Type}(xs:List α)(i:Nat):idx xs (i:Int)=xs[i]?:=rfl
theorem aU {α:Type}{xs:List α}{i:Nat}(h:i<xs.length):idx xs (i:Int)=some xs[i]:=by rw[Et];exact List.getElem?_eq_getElem h
def Yf {σ R:Type}(step:Nat→σ→(σ→Option R)→Option R)(fin:σ→Option R)(N:Nat):Nat→Nat→σ→Option R
 |0,_,s=>fin s
 |n+1,i,s=>step i s (λs'=>Yf step fin N n (i+1) s')
theorem Ak {X σ R:Type}{T:(X→Option R)→X→Option R}(N:Nat)(e:σ→Nat→X)(step:Nat→σ→(σ→Option R)→Option R)(fin:σ→Option R)(hs:∀i s nx,i<N→T nx (e s i)=step i s (λs'=>nx (e s' (i+1))))(hf:∀s nx,T nx (e s N)=fin s): ∀n i s,i≤N→N-i<n→aJ T n (e s i)=Yf step fin N (N-i) i s:=by
 intro n;induction n with
 |zero=>intro i s _ h;omega
 |succ n ih=>
  intro i s hi hn;rw[aJ];rcases bB i N with hlt|hge;rw[hs i s _ hlt,show N-i=(N-(i+1))+1 by omega,Yf];congr 1;funext s';exact ih (i+1) s' (by omega) (by omega);have:i=N:=by omega
  subst this;rw[hf,dV,Yf]
def pA {α σ R:Type}(step:α→σ→(σ→Option R)→Option R)(fin:σ→Option R):List α→σ→Option R
 |[],s=>fin s
 |x::xs,s=>step x s (pA step fin xs)
theorem rO {α X σ R:Type}{T:(X→Option R)→X→Option R}(xs:List α)(e:σ→Nat→X)(step:α→σ→(σ→Option R)→Option R)(fin:σ→Option R)(hs:∀i (h:i<xs.length) s nx,T nx (e s i)=step xs[i] s (λs'=>nx (e s' (i+1))))(hf:∀s nx,T nx (e s xs.length)=fin s): ∀n i s,i≤xs.length→xs.length-i<n→aJ T n (e s i)=pA step fin (xs.drop i) s:=by
 intro n;induction n with
 |zero=>intro i s _ h;omega
 |succ n ih=>
  intro i s hi hn;rw[aJ];rcases bB i xs.length with hlt|hge;rw[hs i hlt s _,bA hlt,pA];congr 1;funext s';exact ih (i+1) s' (by omega) (by omega);have:i=xs.length:=by omega
  subst this;rw[hf,eI,pA]
def gC:(t:CT)→t.D→Nat
 | .int _,_=>0
 | .bool,_=>0
 | .str,s=>s.length
 | .sl e,xs=>xs.length+(xs.map (gC e)).sum
 | .pair a b,x=>gC a x.1+gC b x.2
def bw (n:Nat):(t:CT)→t.D→Prop
 | .int _,_=>True
 | .bool,_=>True
 | .str,s=>s.length≤n
 | .sl e,xs=>xs.length≤n∧∀x∈xs,bw n e x
 | .pair a b,x=>bw n a x.1∧bw n b x.2
theorem Bz {α:Type}(f:α→Nat):∀(xs:List α)(x:α),x∈xs→f x≤(xs.map f).sum
 |y::ys,x,h=>by rcases bM.1 h with rfl|h;simp;have:=Bz f ys x h;simp;omega
theorem Az {n:Nat}:∀{t:CT}{x:t.D},gC t x≤n→bw n t x
 | .int _,_,_=>trivial
 | .bool,_,_=>trivial
 | .str,_,h=>h
 | .sl e,xs,h=>by simp only[gC]at h;exact⟨by omega,λx hx=>Az (by have:=Bz (gC e) xs x hx;omega)⟩
 | .pair a b,x,h=>by simp only[gC]at h;exact⟨Az (by omega),Az (by omega)⟩
theorem bw.mono {n m:Nat}(h:n≤m):∀{t:CT}{x:t.D},bw n t x→bw m t x
 | .int _,_,_=>trivial
 | .bool,_,_=>trivial
 | .str,_,k=>aH k h
 | .sl _,_,k=>⟨aH k.1 h,λx hx=>bw.mono h (k.2 x hx)⟩
 | .pair _ _,_,k=>⟨bw.mono h k.1,bw.mono h k.2⟩
def kA:(t:CT)→t.D→Prop
 | .int k,n=>k.min≤n∧n≤k.max
 | .bool,_=>True
 | .str,s=>s.length≤9223372036854775807
 | .sl e,xs=>xs.length≤9223372036854775807∧∀x∈xs,kA e x
 | .pair a b,x=>kA a x.1∧kA b x.2
def hH (l n:Int):Int:=if n≤l then l-n else-1
def ED {α β R:Type}(f:α→Option β)(k0:List β→Int→Option R)(v0:List α)(nx:List β×Int→Option R)(x:List β×Int):Option R:=
 cond (decide (x.2<(List.length v0:Int))) (
  aa (idx v0 x.2) λx1=>
  aa (f x1) λr2=>
  aa (idx x.1 x.2) λ_=>
  aa (idx x.1 x.2) λ_=>
  nx (List.set x.1 (Int.toNat x.2) r2,ao (x.2+1))) (
  k0 x.1 x.2)
noncomputable def Lh {α β:Type}(f:α→Option β)(z:β)(a0:List α):Option (List β):=
 if 0≤((List.length a0:Int))∧((List.length a0:Int))≤((List.length a0:Int)) then(
 room (Int.toNat ((List.length a0:Int))) (
 aJ (ED f (λy5 _=>some y5) a0) fuel (List.replicate (Int.toNat ((List.length a0:Int))) z,0))) else none
theorem gD {α:Type}{f:α→Option α}{z:α}{a:List α}(hn:a.length≤1073741824)(hf:∀x∈a,f x=some x):Lh f z a=some a:=by
 unfold Lh;have hfu:=cC;rw[ay (by omega),aK (by simp;omega)]
 have key:=Ak (T:=ED f (λy5 _=>some y5) a) a.length (λ(_:Unit) i=>(a.take i++List.replicate (a.length-i) z,(i:Int))) (λ_ s k=>k s) (λ_=>some a)
  (λi s nx hi=>by
   have h1:(a.take i).length=i:=by simp;omega
   have hl:i<(a.take i++List.replicate (a.length-i) z).length:=by simp;omega
   simp only[ED];rw[ai (by omega)];simp only[ah,aU hi,ab,hf _ (aW hi),aU hl];congr 1;refine Prod.ext ?_ (wrap64 (by omega) (by omega));simp only[ax];rw[List.set_append_right _ _ (by omega),h1,dV,bh hi,show a.length-i=(a.length-(i+1))+1 by omega,List.replicate_succ,List.set_cons_zero,aE,List.singleton_append])
  (λs nx=>by simp only[ED];rw[ae (by omega)];simp)
  fuel 0 () (by omega) (by omega)
 simp only[List.take_zero,bc,Nat.sub_zero,ax]at key⊢;have e:((0:Nat):Int)=0:=rfl;rw[e]at key;rw[key];have:∀n i,Yf (R:=List α) (λ_ (s:Unit) k=>k s) (λ_=>some a) a.length n i ()=some a:=by intro n;induction n with|zero=>intro i;rfl|succ n ih=>intro i;rw[Yf];exact ih _
 exact this _ _
def EC {α R:Type}(f:α→Int→Option Int)(k0:Int→Int→Option R)(k1:Int→Int→Int→Option R)(v0:List α)(nx:Int×Int→Option R)(x:Int×Int):Option R:=
 cond (decide (x.2<((List.length v0:Int)))) (
  aa (idx v0 x.2) λx1=>
  aa (f x1 x.1) λr2=>
  cond (decide (r2<0)) (
   k1 r2 (-1) x.2) (
   nx (r2,ao (x.2+1)))) (
  k0 x.1 x.2)
noncomputable def EB {α:Type}(f:α→Int→Option Int)(a0:List α)(a1:Int):Option Int:=
 cond (decide ((ao (a1-((List.length a0:Int))))<0)) (
  some (-1)) (
  aJ (EC f (λy3 _=>some y3) (λ_ y6 _=>some y6) a0) fuel (ao (a1-((List.length a0:Int))),0))
theorem Hb {α:Type}{f:α→Int→Option Int}{s:α→Nat}{a:List α}{l:Int}(h0:0≤l)(h1:l≤1048576)(hm:a.length≤9223372036854775807)(hf:∀x∈a,∀l:Int,0≤l→l≤1048576→∃r,f x l=some r∧((s x:Int)≤l→r=l-s x)∧(¬(s x:Int)≤l→r<0)):EB f a l=some (hH l ((a.length+(a.map s).sum:Nat):Int)):=by
 unfold EB;have hfu:=cC;rw[wrap64 (by omega) (by omega)];rcases Int.lt_or_le (l-a.length) 0 with hneg|hpos;rw[ai hneg];simp only[ah,hH];rw[aq (by omega)];rw[ae (by omega)];simp only[af];have key:=rO (T:=EC f (λy3 _=>some y3) (λ_ y6 _=>some y6) a) a (λ(q:Int) i=>(q,(i:Int))) (λx q k=>aa (f x q) λr=>cond (decide (r<0)) (some (-1)) (k r)) (λq=>some q) (λi hi q nx=>by simp only[EC];rw[ai (by omega)];simp only[ah,aU hi,ab];rw[wrap64 (by omega) (by omega)];rfl) (λq nx=>by simp only[EC];rw[ae (by omega)];rfl) fuel 0 (l-a.length) (by omega) (by omega);have e:((0:Nat):Int)=0:=rfl;rw[e,cK]at key;rw[key];have main:∀(b:List α)(q:Int),0≤q→q≤1048576→(∀x∈b,x∈a)→pA (λx q k=>aa (f x q) λr=>cond (decide (r<0)) (some (-1)) (k r)) (λq=>some q) b q=some (hH q ((b.map s).sum:Nat)):=by intro b;induction b with|nil=>intro q hq _ _;simp[pA,hH,hq]|cons x b ih=>intro q hq hq2 hb;obtain⟨r,hr,hr1,hr2⟩:=hf x (hb x (by simp)) q hq hq2;rw[pA,hr,ab];by_cases hle:(s x:Int)≤q;have:=hr1 hle;subst this;rw[ae (by omega)];simp only[af];rw[ih _ (by omega) (by omega) (λy hy=>hb y (by simp[hy]))];simp only[hH,bW,List.sum_cons];congr 1;split<;>split<;>omega;rw[ai (hr2 hle)];simp only[ah,hH,bW,List.sum_cons];rw[aq (by omega)]
 rw[main a _ (by omega) (by omega) (λx h=>h)];simp only[hH];congr 1;split<;>split<;>omega
def Er {α R:Type}(f:α→α→Option Bool)(k0:Int→Option R)(k1:Bool→Int→Option R)(v0 v1:List α)(nx:Int→Option R)(x:Int):Option R:=
 cond (decide (x<((List.length v0:Int)))) (
  aa (idx v0 x) λx1=>
  aa (idx v1 x) λx2=>
  aa (f x1 x2) λr3=>
  cond (!r3) (
   k1 false x) (
   nx (ao (x+1)))) (
  k0 x)
noncomputable def Ke {α:Type}(f:α→α→Option Bool)(a0 a1:List α):Option Bool:=
 cond (((List.length a0:Int)) !=((List.length a1:Int))) (
  some false) (
  aJ (Er f (λ_=>some true) (λy5 _=>some y5) a0 a1) fuel 0)
theorem eU {α:Type}{f:α→α→Option Bool}{a:List α}(hm:a.length≤1000000000000)(hf:∀x∈a,f x x=some true):Ke f a a=some true:=by
 unfold Ke;have hfu:=cC;simp only[eu,af];have key:=rO (T:=Er f (λ_=>some true) (λy5 _=>some y5) a a) a (λ(_:Unit) i=>(i:Int)) (λx s k=>aa (f x x) λr=>cond (!r) (some false) (k s)) (λ_=>some true) (λi hi s nx=>by simp only[Er];rw[ai (by omega)];simp only[ah,aU hi,ab];rw[wrap64 (by omega) (by omega)];rfl) (λs nx=>by simp only[Er];rw[ae (by omega)];rfl) fuel 0 () (by omega) (by omega);have e:((0:Nat):Int)=0:=rfl;rw[e,cK]at key;rw[key];have main:∀(b:List α),(∀x∈b,x∈a)→pA (λx s k=>aa (f x x) λr=>cond (!r) (some false) (k s)) (λ_=>some true) b ()=some true:=by intro b;induction b with|nil=>intro _;rfl|cons x b ih=>intro hb;rw[pA,hf x (hb x (by simp))];simp only[ab,al,af];exact ih (λy hy=>hb y (by simp[hy]))
 exact main a (λx h=>h)
theorem BH {α:Type}{z:α}{a:List α}(hn:a.length≤1073741824):Lh some z a=some a:=gD hn (λ_ _=>rfl)
theorem xy {α:Type}[BEq α][LawfulBEq α]{a:List α}(hm:a.length≤1000000000000):Ke (λx y:α=>some (x==y)) a a=some true:=eU hm (λx _=>by simp)
theorem tu {α:Type}{f:α→Nat}:∀{xs:List α},(∀x∈xs,f x=0)→(xs.map f).sum=0
 |[],_=>rfl
 |x::xs,h=>by have:=tu (xs:=xs) (f:=f) (λy hy=>h y (by simp[hy]));simp[h x (by simp),this]
def b5 (f:Int→Option Int)(n:Nat):Prop:=∀l:Int,0≤l→l≤1048576→f l=some (hH l n)
theorem b5.nil:b5 (λl=>some l) 0:=λl h0 _=>by simp[hH,h0]
theorem b5.len {n m:Nat}(hn:n≤9223372036854775807){k:Int→Option Int}(h:b5 k m): b5 (λl=>cond (decide (ao (l-(n:Int))<0)) (some (-1)) (k (ao (l-(n:Int))))) (n+m):=by intro l h0 h1;simp only;rw[wrap64 (by omega) (by omega)];by_cases hl:l-(n:Int)<0;rw[ai hl];simp only[ah,hH];rw[aq (by omega)];rw[ae hl];simp only[af];rw[h _ (by omega) (by omega)];simp only[hH];congr 1;split<;>split<;>omega
theorem b5.sub {f k:Int→Option Int}{n m:Nat}(hf:b5 f n)(h:b5 k m):b5 (λl=>aa (f l) λr=>cond (decide (r<0)) (some (-1)) (k r)) (n+m):=by
 intro l h0 h1;simp only;rw[hf l h0 h1,ab];by_cases hl:(n:Int)≤l;have e:hH l n=l-n:=by simp[hH,hl]
 rw[e,ae (by omega)];simp only[af];rw[h _ (by omega) (by omega)];simp only[hH];congr 1;split<;>split<;>omega;have e:hH l n= -1:=by simp[hH,hl]
 rw[e];simp only[hH];rw[aq (by omega)];rfl
theorem b5.cast {f:Int→Option Int}{n m:Nat}(h:b5 f n)(e:n=m):b5 f m:=e▸h
theorem b5.list {α:Type}{f:α→Int→Option Int}{s:α→Nat}{a:List α}(hm:a.length≤9223372036854775807)(hf:∀x∈a,b5 (f x) (s x)):b5 (EB f a) (a.length+(a.map s).sum):=λ_ h0 h1=>Hb h0 h1 hm (λx hx l h0 h1=>⟨_,hf x hx l h0 h1,λh=>by simp[hH,h],λh=>by simp[hH,h]⟩)
theorem b5.flat {n:Nat}(hn:n≤9223372036854775807):b5 (λl=>cond (decide (ao (l-(n:Int))<0)) (some (-1)) (some (ao (l-(n:Int))))) n:=(b5.len (n:=n) hn b5.nil).cast (by omega)
theorem b5.strs {a:List (List UInt8)}(hm:kA (.sl .str) a):b5 (EB (λx l=>some (ao (l-(x.length:Int)))) a) (gC (.sl .str) a):=λ_ h0 h1=>Hb (s:=gC .str) h0 h1 hm.1 (λx hx l h0 h1=>⟨l-x.length,by have:x.length≤9223372036854775807:=hm.2 x hx;rw[wrap64 (by omega) (by omega)],λ_=>rfl,λh=>by simp only[gC]at h;omega⟩)
theorem b5.use {f:Int→Option Int}{n:Nat}(hf:b5 f n){l:Int}(h0:0≤l)(h1:l≤1048576){k:Int→Option Bool}(hk:(n:Int)≤l→k (l-n)=some true): (aa (f l) λr=>cond (decide (r<0)) (some true) (k r))=some true:=by
 rw[hf l h0 h1,ab];by_cases hl:(n:Int)≤l;have e:hH l n=l-n:=by simp[hH,hl]
 rw[e,ae (by omega)];exact hk hl;have e:hH l n= -1:=by simp[hH,hl]
 rw[e];rfl
theorem Lv {α R:Type}{T:(Int→Option R)→Int→Option R}{fin hit:Option R}(p:α→Bool)(a:List α)(h:a.length≤1000000000000)(hs:∀i (hi:i<a.length) nx,T nx (i:Int)=cond (p a[i]) hit (nx ((i+1:Nat):Int)))(hf:∀nx,T nx (a.length:Int)=fin): aJ T fuel 0=cond (a.any p) hit fin:=by
 have hfu:=cC;have key:∀n i,i≤a.length→a.length-i<n→aJ T n (i:Int)=cond ((a.drop i).any p) hit fin:=by
  intro n;induction n with
  |zero=>intro i _ h;omega
  |succ n ih=>
   intro i hi hn;rw[aJ];rcases bB i a.length with hlt|hge;rw[hs i hlt,bA hlt,List.any_cons];cases hq:p a[i]with|true=>rfl|false=>exact ih (i+1) (by omega) (by omega)
   have:i=a.length:=by omega
   subst this;rw[hf,eI];rfl
 exact key fuel 0 (by omega) (by omega)
theorem eO {R:Type}{T:(Int→Option R)→Int→Option R}{fin hit:Option R}(p:Nat→Bool)(N:Nat)(h:N≤1000000000000)(hs:∀i nx,i<N→T nx (i:Int)=cond (!(p i)) hit (nx ((i+1:Nat):Int)))(hf:∀nx,T nx (N:Int)=fin): aJ T fuel 0=cond ((List.range N).all p) fin hit:=by
 have hfu:=cC;have key:∀n i,i≤N→N-i<n→aJ T n (i:Int)=cond ((List.range' i (N-i)).all p) fin hit:=by
  intro n;induction n with
  |zero=>intro i _ h;omega
  |succ n ih=>
   intro i hi hn;rw[aJ];rcases bB i N with hlt|hge;rw[hs i _ hlt,show N-i=(N-(i+1))+1 by omega,List.range'_succ,bD];cases hq:p i with|false=>rfl|true=>exact ih (i+1) (by omega) (by omega)
   have:i=N:=by omega
   subst this;rw[hf,dV];rfl
 have:=key fuel 0 (by omega) (by omega);rw[Nat.sub_zero,←List.range_eq_range']at this;exact this
theorem py {α R:Type}{T:(Int→Option R)→Int→Option R}{fin hit:Option R}(p:α→Bool)(a:List α)(h:a.length≤1000000000000)(hs:∀i (hi:i<a.length) nx,T nx (i:Int)=cond (!(p a[i])) hit (nx ((i+1:Nat):Int)))(hf:∀nx,T nx (a.length:Int)=fin): aJ T fuel 0=cond (a.all p) fin hit:=by
 have:=Lv (T:=T) (fin:=fin) (hit:=hit) (λx=> !(p x)) a h hs hf;rw[this];have e:a.any (λx=> !(p x))= !(a.all p):=by rw[cm];simp
 rw[e];cases a.all p<;>rfl
theorem CZ {X R:Type}{T:(X→Option R)→X→Option R}{fin hit:Option R}(e:Nat→X)(p:Nat→Bool)(N:Nat)(h:N≤1000000000000)(hs:∀i nx,i<N→(∀j,j<i→p j=true)→T nx (e i)=cond (!(p i)) hit (nx (e (i+1))))(hf:(∀j,j<N→p j=true)→∀nx,T nx (e N)=fin): aJ T fuel (e 0)=cond ((List.range N).all p) fin hit:=by
 have hfu:=cC;have key:∀n i,i≤N→N-i<n→(∀j,j<i→p j=true)→aJ T n (e i)=cond ((List.range' i (N-i)).all p) fin hit:=by
  intro n;induction n with
  |zero=>intro i _ h;omega
  |succ n ih=>
   intro i hi hn hp;rw[aJ];rcases bB i N with hlt|hge;rw[hs i _ hlt hp,show N-i=(N-(i+1))+1 by omega,List.range'_succ,bD];cases hq:p i with|false=>rfl|true=>refine ih (i+1) (by omega) (by omega) λj hj=>?_;by_cases hji:j=i;rw[hji];exact hq;exact hp j (by omega)
   have:i=N:=by omega
   subst this;rw[hf hp,dV];rfl
 have:=key fuel 0 (by omega) (by omega) (λj hj=>absurd hj (by omega));rw[Nat.sub_zero,←List.range_eq_range']at this;exact this
theorem wY {α R:Type}{T:(Int→Option R)→Int→Option R}{fin:Option R}{hit:Int→Option R}(p:α→Bool)(a:List α)(h:a.length≤1000000000000)(hs:∀i (hi:i<a.length) nx,T nx (i:Int)=cond (p a[i]) (hit (i:Int)) (nx ((i+1:Nat):Int)))(hf:∀nx,T nx (a.length:Int)=fin): aJ T fuel 0=(match a.findIdx? p with|some i=>hit (i:Int)|none=>fin):=by
 have hfu:=cC;have key:∀n i,i≤a.length→a.length-i<n→aJ T n (i:Int)=(match (a.drop i).findIdx? p with|some j=>hit ((i+j:Nat):Int)|none=>fin):=by
  intro n;induction n with
  |zero=>intro i _ h;omega
  |succ n ih=>
   intro i hi hn;rw[aJ];rcases bB i a.length with hlt|hge;rw[hs i hlt,bA hlt,List.findIdx?_cons];cases hq:p a[i]with|true=>rfl|false=>have:=ih (i+1) (by omega) (by omega);simp only[af];refine this.trans ?_;cases (a.drop (i+1)).findIdx? p with|none=>rfl|some j=>simp only[cg,aQ,bF];congr 2;omega
   have:i=a.length:=by omega
   subst this;rw[hf,eI];rfl
 have:=key fuel 0 (by omega) (by omega);refine this.trans ?_;rw[cK];cases a.findIdx? p with|none=>rfl|some j=>simp only[bJ]
theorem cF (a b:Bool):(bif a then b else false)=(a&&b):=by cases a<;>rfl
theorem cT (a b:Bool):(bif a then true else b)=(a||b):=by cases a<;>rfl
theorem cN (a b:Bool):(bif a then false else b)=(!a&&b):=by cases a<;>rfl
def GU {α σ R:Type}(g:α→σ→Except (Option R) σ)(fin:σ→Option R):List α→σ→Option R
 |[],s=>fin s
 |x::xs,s=>match g x s with| .error r=>r| .ok s'=>GU g fin xs s'
theorem vD {α X σ R:Type}{T:(X→Option R)→X→Option R}(xs:List α)(e:σ→Nat→X)(Inv:Nat→σ→Prop)(g:α→σ→Except (Option R) σ)(fin:σ→Option R)(h:xs.length≤1000000000000)(hs:∀i (hi:i<xs.length) s nx,Inv i s→T nx (e s i)=match g xs[i] s with| .error r=>r| .ok s'=>nx (e s' (i+1)))(hn:∀i (hi:i<xs.length) s s',Inv i s→g xs[i] s=.ok s'→Inv (i+1) s')(hf:∀s nx,Inv xs.length s→T nx (e s xs.length)=fin s)(s:σ)(h0:Inv 0 s): aJ T fuel (e s 0)=GU g fin xs s:=by
 have key:∀n i s,i≤xs.length→xs.length-i<n→Inv i s→aJ T n (e s i)=GU g fin (xs.drop i) s:=by
  intro n;induction n with
  |zero=>intro i s _ h;omega
  |succ n ih=>
   intro i s hi hn' hI;rw[aJ];rcases bB i xs.length with hlt|hge;rw[hs i hlt s _ hI,bA hlt,GU];cases hg:g xs[i] s with|error r=>rfl|ok s'=>exact ih (i+1) s' (by omega) (by omega) (hn i hlt s s' hI hg)
   have:i=xs.length:=by omega
   subst this;rw[hf s _ hI,eI,GU]
 have hfu:=cC;have:=key fuel 0 s (by omega) (by omega) h0;rwa[cK]at this
theorem Cx {α σ R:Type}(f:σ→α→σ)(fin:σ→Option R):∀(xs:List α)(s:σ),GU (λx s=> .ok (f s x)) fin xs s=fin (xs.foldl f s)
 |[],_=>rfl
 |x::xs,s=>by rw[GU];exact Cx f fin xs (f s x)
theorem cS {X R:Type}{T:(X→Option R)→X→Option R}{fin:Option R}(e:Nat→X)(N:Nat)(h:N≤1000000000000)(hs:∀i nx,i<N→T nx (e i)=nx (e (i+1)))(hf:∀nx,T nx (e N)=fin):aJ T fuel (e 0)=fin:=by rw[CZ (hit:=fin) (fin:=fin) e (λ_=>true) N h (λi nx hi _=>by rw[hs i nx hi];rfl) (λ_ nx=>hf nx)];cases (List.range N).all (λ_=>true)<;>rfl
theorem dw {α R:Type}{l:List α}{k:Option R}(h:l.length≤1000000000):room (List.length ([]:List α)+l.length) k=k:=aK (by simp only[eo];omega)
theorem yv (a:List Int)(hm:kA (.sl (.int .i64)) a):b5 (iM a) (gC (.sl (.int .i64)) a):=(b5.flat (n:=a.length) hm.1).cast (by simp only[gC];rw[tu (λx _=>by simp only[gC])];rfl)
theorem yw (a:List Bytes)(hm:kA (.sl .str) a):b5 (jS a) (gC (.sl .str) a):=b5.strs hm
theorem Tz (a:List Bytes)(hm:kA (.sl .str) a):b5 (sF a) (gC (.sl .str) a):=
 b5.cast (f:=sF a) (b5.sub (yw a hm) b5.nil) (by simp only[gC];try omega)
theorem NV (a:List aA)(hm:kA (.sl aX) a):b5 (tI a) (gC (.sl aX) a):=(b5.flat (n:=a.length) hm.1).cast (by simp only[gC];rw[tu (λx _=>by simp only[gC])];rfl)
theorem RK (a:bZ)(hm:kA cE a):b5 (pF a) (gC cE a):=
 b5.cast (f:=pF a) (b5.sub (yv a.2.2.2 hm.2.2.2) b5.nil) (by simp only[gC];try omega)
theorem Zw (a:eS)(hm:kA dc a):b5 (tj a) (gC dc a):=
 b5.cast (f:=tj a) (b5.sub (yv a.2.2 hm.2.2) b5.nil) (by simp only[gC];try omega)
theorem Wi (a:List eS)(hm:kA (.sl dc) a):b5 (xW a) (gC (.sl dc) a):=b5.list (f:=tj) (s:=gC dc) hm.1 (λx hx=>Zw x (hm.2 x hx))
theorem Qe (a:ee)(hm:kA fN a):b5 (qU a) (gC fN a):=
 b5.cast (f:=qU a) (b5.sub (RK a.2.1 hm.2.1) (b5.sub (Wi a.2.2.1 hm.2.2.1) b5.nil)) (by simp only[gC];try omega)
theorem Qc (a:cI)(hm:kA gF a):b5 (qT a) (gC gF a):=
 b5.cast (f:=qT a) (b5.len (n:=a.2.2.2.2.2.2.2.length) hm.2.2.2.2.2.2.2 b5.nil) (by simp only[gC];try omega)
theorem TA (a:de)(hm:kA ga a):b5 (sG a) (gC ga a):=
 b5.cast (f:=sG a) (b5.sub (Qc a.2.2.2.2.2.2.2.2 hm.2.2.2.2.2.2.2.2) b5.nil) (by simp only[gC];try omega)
theorem Wk (a:zb)(hm:kA tw a):b5 (uh a) (gC tw a):=
 b5.cast (f:=uh a) (b5.sub (TA a.1 hm.1) b5.nil) (by simp only[gC];try omega)
theorem Qb (a:aZ)(hm:kA bk a):b5 (mJ a) (gC bk a):=
 b5.cast (f:=mJ a) (b5.sub (Wk a.2.2.2.1 hm.2.2.2.1) b5.nil) (by simp only[gC];try omega)
theorem NW (a:List aZ)(hm:kA (.sl bk) a):b5 (tJ a) (gC (.sl bk) a):=b5.list (f:=mJ) (s:=gC bk) hm.1 (λx hx=>Qb x (hm.2 x hx))
theorem Wg (a:List bZ)(hm:kA (.sl cE) a):b5 (xU a) (gC (.sl cE) a):=b5.list (f:=pF) (s:=gC cE) hm.1 (λx hx=>RK x (hm.2 x hx))
theorem Qf (a:List Vector)(hm:kA (.sl bN) a):b5 (vm a) (gC (.sl bN) a):=(b5.flat (n:=a.length) hm.1).cast (by simp only[gC];rw[tu (λx _=>by simp only[gC])];rfl)
theorem Wd (a:List Bool)(hm:kA (.sl .bool) a):b5 (xS a) (gC (.sl .bool) a):=(b5.flat (n:=a.length) hm.1).cast (by simp only[gC];rw[tu (λx _=>by simp only[gC])];rfl)
theorem I4 (a:Filter)(hm:kA fu a):b5 (oq a) (gC fu a):=
 b5.cast (f:=oq a) (b5.sub (yv a.2.2 hm.2.2) b5.nil) (by simp only[gC];try omega)
theorem Wh (a:List fi)(hm:kA (.sl dH) a):b5 (xV a) (gC (.sl dH) a):=(b5.flat (n:=a.length) hm.1).cast (by simp only[gC];rw[tu (λx _=>by simp only[gC])];rfl)
theorem Wj (a:List Slot)(hm:kA (.sl cJ) a):b5 (xX a) (gC (.sl cJ) a):=(b5.flat (n:=a.length) hm.1).cast (by simp only[gC];rw[tu (λx _=>by simp only[gC])];rfl)
theorem Lc (a:List Slot)(hm:kA (.sl cJ) a):b5 (nv a) (gC (.sl cJ) a):=
 b5.cast (f:=nv a) (b5.sub (Wj a hm) b5.nil) (by simp only[gC];try omega)
theorem TB (a:mh)(hm:kA lQ a):b5 (sH a) (gC lQ a):=
 b5.cast (f:=sH a) (b5.len (n:=a.1.length) hm.1 (b5.sub (yv a.2 hm.2) b5.nil)) (by simp only[gC];try omega)
theorem NX (a:ek)(hm:kA eg a):b5 (oR a) (gC eg a):=
 b5.cast (f:=oR a) (b5.sub (Wh a.1 hm.1) (b5.sub (Lc a.2.1 hm.2.1) (b5.sub (TB a.2.2 hm.2.2) b5.nil))) (by simp only[gC];try omega)
theorem TC (a:Stream)(hm:kA bg a):b5 (ot a) (gC bg a):=
 b5.cast (f:=ot a) (b5.len (n:=a.2.2.1.length) hm.2.2.1 b5.nil) (by simp only[gC];try omega)
theorem Qd (a:List Stream)(hm:kA (.sl bg) a):b5 (vl a) (gC (.sl bg) a):=b5.list (f:=ot) (s:=gC bg) hm.1 (λx hx=>TC x (hm.2 x hx))
theorem Zv (a:Host)(hm:kA bL a):b5 (ti a) (gC bL a):=
 b5.cast (f:=ti a) (b5.sub (Tz a.1 hm.1) (b5.sub (NV a.2.1 hm.2.1) (b5.sub (Qe a.2.2.1 hm.2.2.1) (b5.sub (NW a.2.2.2.1 hm.2.2.2.1) (b5.sub (Wg a.2.2.2.2.1 hm.2.2.2.2.1) (b5.sub (Qf a.2.2.2.2.2.1 hm.2.2.2.2.2.1) (b5.sub (Wd a.2.2.2.2.2.2.1 hm.2.2.2.2.2.2.1) (b5.sub (I4 a.2.2.2.2.2.2.2.1 hm.2.2.2.2.2.2.2.1) (b5.sub (NX a.2.2.2.2.2.2.2.2.1 hm.2.2.2.2.2.2.2.2.1) (b5.sub (Qd a.2.2.2.2.2.2.2.2.2.1 hm.2.2.2.2.2.2.2.2.2.1) (b5.sub (yw a.2.2.2.2.2.2.2.2.2.2.2.1 hm.2.2.2.2.2.2.2.2.2.2.2.1) (b5.sub (yv a.2.2.2.2.2.2.2.2.2.2.2.2.1 hm.2.2.2.2.2.2.2.2.2.2.2.2.1) (b5.sub (yv a.2.2.2.2.2.2.2.2.2.2.2.2.2.1 hm.2.2.2.2.2.2.2.2.2.2.2.2.2.1) b5.nil))))))))))))) (by simp only[gC];try omega)
theorem Wf (a:List Host)(hm:kA (.sl bL) a):b5 (xT a) (gC (.sl bL) a):=b5.list (f:=ti) (s:=gC bL) hm.1 (λx hx=>Zv x (hm.2 x hx))
theorem AJ (a:List aF)(hm:kA (.sl aB) a):b5 (jT a) (gC (.sl aB) a):=(b5.flat (n:=a.length) hm.1).cast (by simp only[gC];rw[tu (λx _=>by simp only[gC])];rfl)
theorem Qa (a:bm)(hm:kA bq a):b5 (mI a) (gC bq a):=
 b5.cast (f:=mI a) (b5.sub (I4 a.1 hm.1) b5.nil) (by simp only[gC];try omega)
theorem NU (a:List bm)(hm:kA (.sl bq) a):b5 (tH a) (gC (.sl bq) a):=b5.list (f:=mI) (s:=gC bq) hm.1 (λx hx=>Qa x (hm.2 x hx))
theorem We (a:List Bytes)(hm:kA (.sl .str) a):b5 (ug a) (gC (.sl .str) a):=
 b5.cast (f:=ug a) (b5.sub (yw a hm) b5.nil) (by simp only[gC];try omega)
theorem Zu (a:dP)(hm:kA ef a):b5 (wb a) (gC ef a):=
 b5.cast (f:=wb a) (b5.sub (Wf a.1 hm.1) (b5.sub (AJ a.2.1 hm.2.1) (b5.sub (NU a.2.2.1 hm.2.2.1) (b5.sub (We a.2.2.2.1 hm.2.2.2.1) (b5.sub (yv a.2.2.2.2.2.1 hm.2.2.2.2.2.1) (b5.sub (yw a.2.2.2.2.2.2 hm.2.2.2.2.2.2) b5.nil)))))) (by simp only[gC];try omega)
theorem md (a:List Int)(h:bw 1048576 (.sl (.int .i64)) a):iO a=some a:=BH (z:=0) (aH h.1 (by omega))
theorem mX (a:List Bytes)(h:bw 1048576 (.sl .str) a):jX a=some a:=BH (z:=([]:Bytes)) (aH h.1 (by omega))
theorem I7 (a:List Bytes)(h:bw 1048576 (.sl .str) a):ou a=some a:=by first|(simp only[ou,mX _ h,ab];done)|(simp only[ou,mX _ h,ab];rfl)
theorem Qh (a:aA)(h:bw 1048576 aX a):qW a=some a:=rfl
theorem D6 (a:List aA)(h:bw 1048576 (.sl aX) a):tM a=some a:=gD (f:=qW) (z:=(0,0,0,false)) (aH h.1 (by omega)) (λx hx=>Qh x (h.2 x hx))
theorem EF (a:eB)(h:bw 1048576 dS a):wh a=some a:=rfl
theorem Li (a:bZ)(h:bw 1048576 cE a):mK a=some a:=by first|(simp only[mK,md _ h.2.2.2,ab];done)|(simp only[mK,md _ h.2.2.2,ab];rfl)
theorem ZC (a:eS)(h:bw 1048576 dc a):pH a=some a:=by first|(simp only[pH,md _ h.2.2,ab];done)|(simp only[pH,md _ h.2.2,ab];rfl)
theorem N6 (a:List eS)(h:bw 1048576 (.sl dc) a):yd a=some a:=gD (f:=pH) (z:=(0,0,([]:List Int))) (aH h.1 (by omega)) (λx hx=>ZC x (h.2 x hx))
theorem Hi (a:ee)(h:bw 1048576 fN a):mL a=some a:=by first|(simp only[mL,EF _ h.1,Li _ h.2.1,N6 _ h.2.2.1,ab];done)|(simp only[mL,EF _ h.1,Li _ h.2.1,N6 _ h.2.2.1,ab];rfl)
theorem kY (a:eH)(h:bw 1048576 dW a):gM a=some a:=rfl
theorem Hg (a:cI)(h:bw 1048576 gF a):vq a=some a:=rfl
theorem I8 (a:de)(h:bw 1048576 ga a):ov a=some a:=by first|(simp only[ov,Hg _ h.2.2.2.2.2.2.2.2,ab];done)|(simp only[ov,Hg _ h.2.2.2.2.2.2.2.2,ab];rfl)
theorem N8 (a:zb)(h:bw 1048576 tw a):qX a=some a:=by first|(simp only[qX,I8 _ h.1,ab];done)|(simp only[qX,I8 _ h.1,ab];rfl)
theorem Qi (a:aZ)(h:bw 1048576 bk a):jW a=some a:=by first|(simp only[jW,EF _ h.1,kY _ h.2.1,kY _ h.2.2.1,N8 _ h.2.2.2.1,ab];done)|(simp only[jW,EF _ h.1,kY _ h.2.1,kY _ h.2.2.1,N8 _ h.2.2.2.1,ab];rfl)
theorem D7 (a:List aZ)(h:bw 1048576 (.sl bk) a):tN a=some a:=gD (f:=jW) (z:=((0,0,0,0),(0,0,0),(0,0,0),((0,0,0,0,0,0,0,0,0,0,0,0,0,0,0,([]:Bytes)),0,0),false,0)) (aH h.1 (by omega)) (λx hx=>Qi x (h.2 x hx))
theorem N4 (a:List bZ)(h:bw 1048576 (.sl cE) a):yb a=some a:=gD (f:=mK) (z:=(0,0,0,([]:List Int))) (aH h.1 (by omega)) (λx hx=>Li x (h.2 x hx))
theorem TF (a:Vector)(h:bw 1048576 bN a):sI a=some a:=rfl
theorem Hj (a:List Vector)(h:bw 1048576 (.sl bN) a):vu a=some a:=gD (f:=sI) (z:=(0,0,0,0,false,false)) (aH h.1 (by omega)) (λx hx=>TF x (h.2 x hx))
theorem N0 (a:List Bool)(h:bw 1048576 (.sl .bool) a):xY a=some a:=BH (z:=false) (aH h.1 (by omega))
theorem AB (a:Filter)(h:bw 1048576 fu a):lB a=some a:=by first|(simp only[lB,md _ h.2.2,ab];done)|(simp only[lB,md _ h.2.2,ab];rfl)
theorem ZB (a:fi)(h:bw 1048576 dH a):wi a=some a:=rfl
theorem N5 (a:List fi)(h:bw 1048576 (.sl dH) a):yc a=some a:=gD (f:=wi) (z:=(0,0,0,0,0,0,0,0,0)) (aH h.1 (by omega)) (λx hx=>ZB x (h.2 x hx))
theorem EE (a:eM)(h:bw 1048576 fM a):wg a=some a:=rfl
theorem ZD (a:Slot)(h:bw 1048576 cJ a):pJ a=some a:=by first|(simp only[pJ,EE _ h.2.1,ab];done)|(simp only[pJ,EE _ h.2.1,ab];rfl)
theorem N7 (a:List Slot)(h:bw 1048576 (.sl cJ) a):ye a=some a:=gD (f:=pJ) (z:=(0,(0,0,0,0,0),0)) (aH h.1 (by omega)) (λx hx=>ZD x (h.2 x hx))
theorem CO (a:List Slot)(h:bw 1048576 (.sl cJ) a):jU a=some a:=by first|(simp only[jU,N7 _ h,ab];done)|(simp only[jU,N7 _ h,ab];rfl)
theorem I9 (a:mh)(h:bw 1048576 lQ a):ow a=some a:=by first|(simp only[ow,md _ h.2,ab];done)|(simp only[ow,md _ h.2,ab];rfl)
theorem D8 (a:ek)(h:bw 1048576 eg a):lb a=some a:=by first|(simp only[lb,N5 _ h.1,CO _ h.2.1,I9 _ h.2.2,ab];done)|(simp only[lb,N5 _ h.1,CO _ h.2.1,I9 _ h.2.2,ab];rfl)
theorem TE (a:Stream)(h:bw 1048576 bg a):lC a=some a:=by first|(simp only[lC,EE _ h.1,ab];done)|(simp only[lC,EE _ h.1,ab];rfl)
theorem Hh (a:List Stream)(h:bw 1048576 (.sl bg) a):vt a=some a:=gD (f:=lC) (z:=((0,0,0,0,0),0,([]:Bytes),false)) (aH h.1 (by omega)) (λx hx=>TE x (h.2 x hx))
theorem D4 (a:eM)(h:bw 1048576 fM a):tK a=some a:=rfl
theorem ZA (a:Host)(h:bw 1048576 bL a):pG a=some a:=by first|(simp only[pG,I7 _ h.1,D6 _ h.2.1,Hi _ h.2.2.1,D7 _ h.2.2.2.1,N4 _ h.2.2.2.2.1,Hj _ h.2.2.2.2.2.1,N0 _ h.2.2.2.2.2.2.1,AB _ h.2.2.2.2.2.2.2.1,D8 _ h.2.2.2.2.2.2.2.2.1,Hh _ h.2.2.2.2.2.2.2.2.2.1,mX _ h.2.2.2.2.2.2.2.2.2.2.2.1,md _ h.2.2.2.2.2.2.2.2.2.2.2.2.1,md _ h.2.2.2.2.2.2.2.2.2.2.2.2.2.1,D4 _ h.2.2.2.2.2.2.2.2.2.2.2.2.2.2,ab];done)|(simp only[pG,I7 _ h.1,D6 _ h.2.1,Hi _ h.2.2.1,D7 _ h.2.2.2.1,N4 _ h.2.2.2.2.1,Hj _ h.2.2.2.2.2.1,N0 _ h.2.2.2.2.2.2.1,AB _ h.2.2.2.2.2.2.2.1,D8 _ h.2.2.2.2.2.2.2.2.1,Hh _ h.2.2.2.2.2.2.2.2.2.1,mX _ h.2.2.2.2.2.2.2.2.2.2.2.1,md _ h.2.2.2.2.2.2.2.2.2.2.2.2.1,md _ h.2.2.2.2.2.2.2.2.2.2.2.2.2.1,D4 _ h.2.2.2.2.2.2.2.2.2.2.2.2.2.2,ab];rfl)
theorem N3 (a:List Host)(h:bw 1048576 (.sl bL) a):ya a=some a:=gD (f:=pG) (z:=(([]:List Bytes),([]:List aA),((0,0,0,0),(0,0,0,([]:List Int)),([]:List eS),0),([]:List aZ),([]:List bZ),([]:List Vector),([]:List Bool),(0,false,([]:List Int)),(([]:List fi),([]:List Slot),([]:Bytes),([]:List Int)),([]:List Stream),false,([]:List Bytes),([]:List Int),([]:List Int),0,0,0,0,0)) (aH h.1 (by omega)) (λx hx=>ZA x (h.2 x hx))
theorem I6 (a:eH)(h:bw 1048576 dW a):wI a=some a:=rfl
theorem BI (a:aF)(h:bw 1048576 aB a):eD a=some a:=by first|(simp only[eD,I6 _ h.2.2.1,ab];done)|(simp only[eD,I6 _ h.2.2.1,ab];rfl)
theorem tR (a:List aF)(h:bw 1048576 (.sl aB) a):jY a=some a:=gD (f:=eD) (z:=(0,0,(0,0,0),false,0,0)) (aH h.1 (by omega)) (λx hx=>BI x (h.2 x hx))
theorem Qg (a:bm)(h:bw 1048576 bq a):jV a=some a:=by first|(simp only[jV,AB _ h.1,ab];done)|(simp only[jV,AB _ h.1,ab];rfl)
theorem D5 (a:List bm)(h:bw 1048576 (.sl bq) a):tL a=some a:=gD (f:=jV) (z:=((0,false,([]:List Int)),0,0,0)) (aH h.1 (by omega)) (λx hx=>Qg x (h.2 x hx))
theorem N2 (a:List Bytes)(h:bw 1048576 (.sl .str) a):qV a=some a:=by first|(simp only[qV,mX _ h,ab];done)|(simp only[qV,mX _ h,ab];rfl)
theorem N1 (a:eB)(h:bw 1048576 dS a):xZ a=some a:=rfl
theorem Zz (a:dP)(h:bw 1048576 ef a):kx a=some a:=by first|(simp only[kx,N3 _ h.1,tR _ h.2.1,D5 _ h.2.2.1,N2 _ h.2.2.2.1,N1 _ h.2.2.2.2.1,md _ h.2.2.2.2.2.1,mX _ h.2.2.2.2.2.2,ab];done)|(simp only[kx,N3 _ h.1,tR _ h.2.1,D5 _ h.2.2.1,N2 _ h.2.2.2.1,N1 _ h.2.2.2.2.1,md _ h.2.2.2.2.2.1,mX _ h.2.2.2.2.2.2,ab];rfl)
theorem xz (a:List Int)(h:bw 1000000000000 (.sl (.int .i64)) a):iJ a a=some true:=xy h.1
theorem xA (a:List Bytes)(h:bw 1000000000000 (.sl .str) a):jO a a=some true:=xy h.1
theorem Sc (a:List Bytes)(h:bw 1000000000000 (.sl .str) a):sC a a=some true:=by simp[sC,xA _ h]
theorem OK (a:aA)(h:bw 1000000000000 aX a):mz a a=some true:=by simp[mz]
theorem Mg (a:List aA)(h:bw 1000000000000 (.sl aX) a):tF a a=some true:=eU (f:=mz) h.1 (λx hx=>OK x (h.2 x hx))
theorem Q3 (a:eB)(h:bw 1000000000000 dS a):tc a a=some true:=by simp[tc]
theorem Q2 (a:bZ)(h:bw 1000000000000 cE a):pE a a=some true:=by simp[pE,xz _ h.2.2.2]
theorem Yx (a:eS)(h:bw 1000000000000 dc a):tf a a=some true:=by simp[tf,xz _ h.2.2]
theorem Ug (a:List eS)(h:bw 1000000000000 (.sl dc) a):xQ a a=some true:=eU (f:=tf) h.1 (λx hx=>Yx x (h.2 x hx))
theorem OO (a:ee)(h:bw 1000000000000 fN a):qu a a=some true:=by simp[qu,Q3 _ h.1,Q2 _ h.2.1,Ug _ h.2.2.1]
theorem uV (a:eH)(h:bw 1000000000000 dW a):fz a a=some true:=by simp[fz]
theorem OM (a:cI)(h:bw 1000000000000 gF a):qt a a=some true:=by simp[qt]
theorem Sd (a:de)(h:bw 1000000000000 ga a):sD a a=some true:=by simp[sD,OM _ h.2.2.2.2.2.2.2.2]
theorem Ui (a:zb)(h:bw 1000000000000 tw a):uf a a=some true:=by simp[uf,Sd _ h.1]
theorem OL (a:aZ)(h:bw 1000000000000 bk a):mA a a=some true:=by simp[mA,Q3 _ h.1,uV _ h.2.1,uV _ h.2.2.1,Ui _ h.2.2.2.1]
theorem Mh (a:List aZ)(h:bw 1000000000000 (.sl bk) a):tG a a=some true:=eU (f:=mA) h.1 (λx hx=>OL x (h.2 x hx))
theorem Ue (a:List bZ)(h:bw 1000000000000 (.sl cE) a):xO a a=some true:=eU (f:=pE) h.1 (λx hx=>Q2 x (h.2 x hx))
theorem Sg (a:Vector)(h:bw 1000000000000 bN a):om a a=some true:=by simp[om]
theorem OP (a:List Vector)(h:bw 1000000000000 (.sl bN) a):vg a a=some true:=eU (f:=om) h.1 (λx hx=>Sg x (h.2 x hx))
theorem Ua (a:List Bool)(h:bw 1000000000000 (.sl .bool) a):xM a a=some true:=xy h.1
theorem Ie (a:Filter)(h:bw 1000000000000 fu a):og a a=some true:=by simp[og,xz _ h.2.2]
theorem Yw (a:fi)(h:bw 1000000000000 dH a):td a a=some true:=by simp[td]
theorem Uf (a:List fi)(h:bw 1000000000000 (.sl dH) a):xP a a=some true:=eU (f:=td) h.1 (λx hx=>Yw x (h.2 x hx))
theorem Q1 (a:eM)(h:bw 1000000000000 fM a):s9 a a=some true:=by simp[s9]
theorem Yy (a:Slot)(h:bw 1000000000000 cJ a):th a a=some true:=by simp[th,Q1 _ h.2.1]
theorem Uh (a:List Slot)(h:bw 1000000000000 (.sl cJ) a):xR a a=some true:=eU (f:=th) h.1 (λx hx=>Yy x (h.2 x hx))
theorem Kg (a:List Slot)(h:bw 1000000000000 (.sl cJ) a):np a a=some true:=by simp[np,Uh _ h]
theorem Se (a:mh)(h:bw 1000000000000 lQ a):sE a a=some true:=by simp[sE,xz _ h.2]
theorem Mi (a:ek)(h:bw 1000000000000 eg a):oQ a a=some true:=by simp[oQ,Uf _ h.1,Kg _ h.2.1,Se _ h.2.2]
theorem Sf (a:Stream)(h:bw 1000000000000 bg a):oh a a=some true:=by simp[oh,Q1 _ h.1]
theorem ON (a:List Stream)(h:bw 1000000000000 (.sl bg) a):vf a a=some true:=eU (f:=oh) h.1 (λx hx=>Sf x (h.2 x hx))
theorem Me (a:eM)(h:bw 1000000000000 fM a):oP a a=some true:=by simp[oP]
theorem Yv (a:Host)(h:bw 1000000000000 bL a):ta a a=some true:=by simp[ta,Sc _ h.1,Mg _ h.2.1,OO _ h.2.2.1,Mh _ h.2.2.2.1,Ue _ h.2.2.2.2.1,OP _ h.2.2.2.2.2.1,Ua _ h.2.2.2.2.2.2.1,Ie _ h.2.2.2.2.2.2.2.1,Mi _ h.2.2.2.2.2.2.2.2.1,ON _ h.2.2.2.2.2.2.2.2.2.1,xA _ h.2.2.2.2.2.2.2.2.2.2.2.1,xz _ h.2.2.2.2.2.2.2.2.2.2.2.2.1,xz _ h.2.2.2.2.2.2.2.2.2.2.2.2.2.1,Me _ h.2.2.2.2.2.2.2.2.2.2.2.2.2.2]
theorem Ud (a:List Host)(h:bw 1000000000000 (.sl bL) a):xN a a=some true:=eU (f:=ta) h.1 (λx hx=>Yv x (h.2 x hx))
theorem Sb (a:eH)(h:bw 1000000000000 dW a):sB a a=some true:=by simp[sB]
theorem Bn (a:aF)(h:bw 1000000000000 aB a):fA a a=some true:=by simp[fA,Sb _ h.2.2.1]
theorem AE (a:List aF)(h:bw 1000000000000 (.sl aB) a):jP a a=some true:=eU (f:=fA) h.1 (λx hx=>Bn x (h.2 x hx))
theorem OJ (a:bm)(h:bw 1000000000000 bq a):my a a=some true:=by simp[my,Ie _ h.1]
theorem Mf (a:List bm)(h:bw 1000000000000 (.sl bq) a):tE a a=some true:=eU (f:=my) h.1 (λx hx=>OJ x (h.2 x hx))
theorem Uc (a:List Bytes)(h:bw 1000000000000 (.sl .str) a):ue a a=some true:=by simp[ue,xA _ h]
theorem Ub (a:eB)(h:bw 1000000000000 dS a):ud a a=some true:=by simp[ud]
theorem Q0 (a:dP)(h:bw 1000000000000 ef a):mx a a=some true:=by simp[mx,Ud _ h.1,AE _ h.2.1,Mf _ h.2.2.1,Uc _ h.2.2.2.1,Ub _ h.2.2.2.2.1,xz _ h.2.2.2.2.2.1,xA _ h.2.2.2.2.2.2]
def cq (a lo hi:Int):Bool:=decide (lo≤a)&&decide (a≤hi)
theorem cv {a lo hi:Int}:cq a lo hi=true↔lo≤a∧a≤hi:=by simp[cq]
theorem cc (a b c:Int):aD a b c=some (cq a b c):=by simp only[aD,ba,ab,cq];cases h:decide (a≥b)<;>rfl
theorem cz (a b c:Int):aw a b c=some (cq a b c):=cc a b c
theorem cD {α:Type}{l:List α}{i:Nat}(h:i<l.length)(d:α):l.getD i d=l[i]:=by rw[List.getD_eq_getElem?_getD,List.getElem?_eq_getElem h];rfl
def Hn (l:List Int)(i:Nat):Bool:=cq (l.getD i 0) 0 4095&& !(decide (0<i)&&decide (l.getD i 0≤l.getD (i-1) 0))
def m5 (f:Filter):Bool:=(List.range f.2.2.length).all (Hn f.2.2)&&(cq f.1 0 281474976710654&&decide ((f.2.2.length:Int)≤8))
theorem BE (f:Filter)(h:f.2.2.length≤1000000000):lH f=some (m5 f):=by
 unfold lH;rw[eO (hit:=some false) (fin:=some (cq f.1 0 281474976710654&&decide ((f.2.2.length:Int)≤8))) (Hn f.2.2) f.2.2.length (by omega) (λi nx hi=>?hs) (λnx=>?hf)]
 case hs=>
  simp only[nB]
  rw[ai (by omega),aU hi,wrap64 (n:=(i:Int)+1) (by omega) (by omega)]
  simp only[ah,ab,cc,Hn,cD hi]
  by_cases h0:0<i
  ·have e:ao ((i:Int)-1)=((i-1:Nat):Int):=by rw[wrap64 (by omega) (by omega)];omega
   have hp:i-1<f.2.2.length:=by omega
   rw[e,aU hp,ai (show(i:Int)>0 by omega),ai h0,cD hp]
   simp only[ah,ab,bn]
   cases cq f.2.2[i] 0 4095<;>cases decide (f.2.2[i]≤f.2.2[i-1])<;>rfl
  ·rw[ae (show¬(i:Int)>0 by omega),ae h0]
   simp only[af,gi]
   cases cq f.2.2[i] 0 4095<;>rfl
 case hf=>
  simp only[nB]
  rw[ae (by omega)]
  simp only[af,cc,ab,yC,ba]
  cases cq f.1 0 281474976710654<;>rfl
 unfold m5;cases (List.range f.2.2.length).all (Hn f.2.2)<;>rfl
theorem Bt (f:Filter)(h:f.2.2.length≤1000000000):lx f=some (m5 f):=by
 unfold lx;rw[eO (hit:=some false) (fin:=some (cq f.1 0 281474976710654&&decide ((f.2.2.length:Int)≤8))) (Hn f.2.2) f.2.2.length (by omega) (λi nx hi=>?hs) (λnx=>?hf)]
 case hs=>
  simp only[m8]
  rw[ai (by omega),aU hi,wrap64 (n:=(i:Int)+1) (by omega) (by omega)]
  simp only[ah,ab,cz,Hn,cD hi]
  by_cases h0:0<i
  ·have e:ao ((i:Int)-1)=((i-1:Nat):Int):=by rw[wrap64 (by omega) (by omega)];omega
   have hp:i-1<f.2.2.length:=by omega
   rw[e,aU hp,ai (show(i:Int)>0 by omega),ai h0,cD hp]
   simp only[ah,ab,bn,ge_iff_le]
   cases cq f.2.2[i] 0 4095<;>cases decide (f.2.2[i]≤f.2.2[i-1])<;>rfl
  ·rw[ae (show¬(i:Int)>0 by omega),ae h0]
   simp only[af,gi]
   cases cq f.2.2[i] 0 4095<;>rfl
 case hf=>
  simp only[m8]
  rw[ae (by omega)]
  simp only[af,cz,ab,yC,ba]
  cases cq f.1 0 281474976710654<;>rfl
 unfold m5;cases (List.range f.2.2.length).all (Hn f.2.2)<;>rfl
def GS (r:fi):Bool:=(mU r).getD false
theorem V6 (r:fi):mU r=some (GS r):=by
 have:∃b,mU r=some b:=by simp only[mU,cc,ab,ba];exact⟨_,rfl⟩
 obtain⟨b,hb⟩:=this;simp[GS,hb]
theorem Nv {r:fi}(h:GS r=true):r.2.2.2.2.2.2.2.1=0∨r.2.2.2.2.2.2.2.2=0:=by
 by_cases h0:r.2.2.2.2.2.2.2.1=0;exact .inl h0;by_cases h1:r.2.2.2.2.2.2.2.2=0;exact .inr h1;exfalso;have e0:(r.2.2.2.2.2.2.2.1==0)=false:=by simp[h0]
 have e1:(r.2.2.2.2.2.2.2.2==0)=false:=by simp[h1]
 revert h;unfold GS;simp only[mU,cc,ab,ba,e0,e1,af,dZ];have z:∀c:Bool,(bif c then false else false)=false:=by intro c;cases c<;>rfl
 simp only[z];intro h;cases h
def BC (l:List fi):Bool:=l.all GS&&decide ((l.length:Int)≤12)
theorem IY (l:List fi)(h:l.length≤1000000000):ux l=some (BC l):=by
 unfold ux;rw[py (hit:=some false) (fin:=some (decide ((l.length:Int)≤12))) GS l (by omega) (λi hi nx=>?hs) (λnx=>?hf)]
 case hs=>
  simp only[oX]
  rw[ai (by omega),aU hi,wrap64 (by omega) (by omega)]
  simp only[ah,ab,V6];rfl
 case hf=>
  simp only[oX]
  rw[ae (by omega)];rfl
 unfold BC;cases l.all GS<;>rfl
theorem Sz (l:List fi)(h:l.length≤1000000000):xI l=some (BC l):=by rw[←IY l h];rfl
theorem ani (x:Int):((BitVec.ofInt 64 x&&&BitVec.ofInt 64 7).toNat:Int)=x%8:=by
 have h7:(BitVec.ofInt 64 7).toNat=2^3-1:=by decide
 rw[BitVec.toNat_and,h7,Nat.and_two_pow_sub_one_eq_mod];simp only[BitVec.toNat_ofInt];omega
theorem ahc (x:Int):((BitVec.ofInt (IntKind.bits .i64) x&&&BitVec.ofInt (IntKind.bits .i64) 7).toNat:Int)=x%8:=ani x
theorem YW (x:Int):fH x 8=some (x%8):=by unfold fH;rw[aq (by omega),Int.tmod_eq_emod];split;rw[ae (by omega)];simp;rw[ai (by simp;omega),wrap64 (by simp;omega) (by simp;omega)];simp
def AO (f:eM):Int:=(f.1%8+f.2.1%8+f.2.2.1%8+f.2.2.2.1%8+f.2.2.2.2%8)%8
theorem MB (f:eM):0≤AO f∧AO f<8:=by unfold AO;omega
theorem X8 {n:Int}(h:0≤n):Int.tmod n 8=n%8:=dn h
theorem VW (f:eM):sR f=some (AO f):=by
 unfold sR;generalize hL:[f.1,f.2.1,f.2.2.1,f.2.2.2.1,f.2.2.2.2]=L;have hlen:L.length=5:=by rw[←hL];rfl
 have hfu:=cC;have key:=rO (R:=Int) (T:=km (λ(y2:Int) (y3:Int)=>if 8=0 then none else(some (Int.tmod y2 8))) L) L (λ(s:Int) i=>(s,(i:Int))) (λx s k=>k (ao (s+ao (x%8)))) (λs=>some (Int.tmod s 8)) (λi hi s nx=>by simp only[km];rw[ai (by omega),aU hi,wrap64 (n:=(i:Int)+1) (by omega) (by omega)];simp only[ah,ab];rw[ahc L[i]];rfl) (λs nx=>by simp only[km];rw[ae (by omega)];rfl) fuel 0 0 (by omega) (by omega);refine key.trans ?_;rw[←hL];simp only[cK,pA];rw[wrap64 (n:=f.1%8) (by omega) (by omega),wrap64 (n:=f.2.1%8) (by omega) (by omega),wrap64 (n:=f.2.2.1%8) (by omega) (by omega),wrap64 (n:=f.2.2.2.1%8) (by omega) (by omega),wrap64 (n:=f.2.2.2.2%8) (by omega) (by omega)];rw[wrap64 (n:=0+f.1%8) (by omega) (by omega),wrap64 (n:=0+f.1%8+_) (by omega) (by omega),wrap64 (n:=0+f.1%8+_+_) (by omega) (by omega),wrap64 (n:=0+f.1%8+_+_+_) (by omega) (by omega),wrap64 (n:=0+f.1%8+_+_+_+_) (by omega) (by omega)];rw[X8 (by omega),AO,Int.zero_add]
theorem UQ (f:eM):sj f=some (AO f):=by
 unfold sj;generalize hL:[f.1,f.2.1,f.2.2.1,f.2.2.2.1,f.2.2.2.2]=L;have hlen:L.length=5:=by rw[←hL];rfl
 have hfu:=cC;have key:=rO (R:=Int) (T:=jJ (λ(y2:Int) (y3:Int)=>if 8=0 then none else(some (Int.tmod y2 8))) L (L.length:Int)) L (λ(s:Int) i=>(s,(i:Int))) (λx s k=>k (ao (s+(x%8)))) (λs=>some (Int.tmod s 8)) (λi hi s nx=>by simp only[jJ];rw[ai (by omega),aU hi,wrap64 (n:=(i:Int)+1) (by omega) (by omega)];simp only[ah,ab,YW];rfl) (λs nx=>by simp only[jJ];rw[ae (by omega)];rfl) fuel 0 0 (by omega) (by omega);refine key.trans ?_;rw[←hL];simp only[cK,pA];rw[wrap64 (n:=0+f.1%8) (by omega) (by omega),wrap64 (n:=0+f.1%8+_) (by omega) (by omega),wrap64 (n:=0+f.1%8+_+_) (by omega) (by omega),wrap64 (n:=0+f.1%8+_+_+_) (by omega) (by omega),wrap64 (n:=0+f.1%8+_+_+_+_) (by omega) (by omega)];rw[X8 (by omega),AO,Int.zero_add]
def eF (t:List Slot)(i:Nat):Slot:=t.getD i (0,(0,0,0,0,0),0)
theorem xk {t:List Slot}{i:Nat}(h:i<t.length):eF t i=t[i]:=cD h _
def ij (f:eM)(k:Nat):Nat:=((AO f).toNat+k)%8
theorem Lk (f:eM)(k:Nat):ij f k<8:=Nat.mod_lt _ (by omega)
theorem Oc (f:eM)(k:Nat)(h:k<8):Int.tmod (ao (AO f+(k:Int))) 8=(ij f k:Int):=by have:=MB f;rw[wrap64 (by omega) (by omega),X8 (by omega),ij];omega
def pQ (s:Slot)(f:eM):Bool:=(s.1==1)&&decide (s.2.1=f)
theorem B5 (p q:eM):((p.1==q.1)&&((p.2.1==q.2.1)&&((p.2.2.1==q.2.2.1)&&((p.2.2.2.1==q.2.2.2.1)&&((p.2.2.2.2==q.2.2.2.2)&&true)))))=decide (p=q):=by obtain⟨a,b,c,d,e⟩:=p;obtain⟨a',b',c',d',e'⟩:=q;rw[cm];simp
def walk (t:List Slot)(f:eM):Nat→Nat→Int
 |0,_=> -1
 |n+1,k=>if(eF t (ij f k)).1=0 then-1 else if pQ (eF t (ij f k)) f then(ij f k:Int) else walk t f n (k+1)
theorem VU (t:List Slot)(f:eM)(ht:t.length=8):uC t f=some (walk t f 8 0):=by
 unfold uC;have hfu:=cC
 have key:=Ak (R:=Int) (T:=lp (λ(y6:Int)=>some (-1)) (λ(y7:Int) (y8:Int)=>some y7) 0 t f) 8 (λ(_:Unit) i=>(i:Int))
  (λi s k=>if(eF t (ij f i)).1=0 then some (-1) else if pQ (eF t (ij f i)) f then some (ij f i:Int) else k s) (λ_=>some (-1))
  (λi s nx hi=>by
   have hw:ij f i<t.length:=by have:=Lk f i;omega
   simp only[lp,VW];rw[ai (by omega),wrap64 (n:=(i:Int)+1) (by omega) (by omega)];simp only[ah,ab,Oc f i hi,aU hw,xk hw,B5,pQ,ba,ab];rw[aq (by omega)];by_cases h0:t[ij f i].1=0;simp[h0];have e0:(t[ij f i].1==0)=false:=by simp[h0]
   rw[e0,aq h0];cases (t[ij f i].1==1)<;>cases decide (t[ij f i].2.1=f)<;>rfl)
  (λs nx=>by simp only[lp];rfl)
  fuel 0 () (by omega) (by omega)
 refine key.trans ?_;have main:∀n i,Yf (R:=Int) (λi (s:Unit) k=>if(eF t (ij f i)).1=0 then some (-1) else if pQ (eF t (ij f i)) f then some (ij f i:Int) else k s) (λ_=>some (-1)) 8 n i ()=some (walk t f n i):=by intro n;induction n with|zero=>intro i;rfl|succ n ih=>intro i;rw[Yf,walk];split;rfl;split;rfl;exact ih (i+1)
 exact main 8 0
def xB (f:eM):List Slot→Int→Int
 |[],_=> -1
 |s::r,i=>if pQ s f then i else xB f r (i+1)
theorem U2 (t:List Slot)(f:eM)(h:t.length≤1000000000):vX t f=some (xB f t 0):=by
 unfold vX;have hfu:=cC;have key:∀n i,i≤t.length→t.length-i<n→aJ (qp (λ(y3:Int)=>some (-1)) (λ(y4:Int) (y5:Int)=>some y4) 0 t ((List.length t:Int)) f) n (i:Int)=some (xB f (t.drop i) i):=by
  intro n;induction n with
  |zero=>intro i _ h;omega
  |succ n ih=>
   intro i hi hn;rw[aJ];simp only[qp];rcases bB i t.length with hlt|hge;rw[ai (by omega),aU hlt,bA hlt,xB,wrap64 (by omega) (by omega)];simp only[ah,ab,B5,ba];have e:(bif t[i].1==1 then decide (t[i].2.1=f) else false)=pQ t[i] f:=by unfold pQ;cases (t[i].1==1)<;>rfl
   rw[e];cases pQ t[i] f with|true=>rfl|false=>exact ih (i+1) (by omega) (by omega)
   have:i=t.length:=by omega
   subst this;rw[ae (by omega),eI];rfl
 exact key fuel 0 (by omega) (by omega)
theorem YN (f:eM):xK f=some ((List.range 8).map λk=>(ij f k:Int)):=by unfold xK;have hfu:=cC;have key:=Ak (R:=List Int) (T:=oe (λ(y2:List Int) (y3:Int)=>some y2) f) 8 (λ(_:Unit) i=>((List.range i).map (λk=>(ij f k:Int)),(i:Int))) (λ_ s k=>k s) (λ_=>some ((List.range 8).map λk=>(ij f k:Int))) (λi s nx hi=>by simp only[oe,UQ];rw[ai (by omega),wrap64 (n:=(i:Int)+1) (by omega) (by omega)];simp only[ah,ab,Oc f i hi];rw[aq (by omega),aK (by simp;omega),List.range_succ,List.map_append];rfl) (λs nx=>by simp only[oe];rfl) fuel 0 () (by omega) (by omega);exact key
def clear (t:List Slot)(f:eM)(i:Nat):Nat→Nat→Bool
 |0,_=>true
 |n+1,k=>if ij f k=i then true else if(eF t (ij f k)).1=0 then false else clear t f i n (k+1)
theorem Sq {R:Type}(k0:Int→Option R)(k1:Bool→Int→Option R)(hit fin:Option R)(h0:∀x,k0 x=fin)(h1:∀x,k1 false x=hit)(v2:Bool)(i:Nat)(v12:List Slot)(v13 v14:Int)(t:List Slot)(f:eM)(ht:t.length=8): aJ (gX k0 k1 v2 (i:Int) v12 v13 v14 ((List.range 8).map λk=>(ij f k:Int)) (((List.range 8).map λk=>(ij f k:Int)).length:Int) t) fuel 0=cond (clear t f i 8 0) fin hit:=by
 have hfu:=cC;have hl:((List.range 8).map λk=>(ij f k:Int)).length=8:=by simp
 have key:=Ak (R:=R) (T:=gX k0 k1 v2 (i:Int) v12 v13 v14 ((List.range 8).map λk=>(ij f k:Int)) (((List.range 8).map λk=>(ij f k:Int)).length:Int) t) 8 (λ(_:Unit) i=>(i:Int))
  (λk s c=>if ij f k=i then fin else if(eF t (ij f k)).1=0 then hit else c s) (λ_=>fin)
  (λk s nx hk=>by
   have hw:ij f k<t.length:=by have:=Lk f k;omega
   simp only[gX];rw[ai (by omega),aU (show k<((List.range 8).map λk=>(ij f k:Int)).length by omega),wrap64 (n:=(k:Int)+1) (by omega) (by omega)];simp only[ah,ab,List.getElem_map,List.getElem_range,aU hw,xk hw,h0,h1];by_cases e1:ij f k=i;subst e1;simp;have:((ij f k:Int)==(i:Int))=false:=by simp;omega
   rw[this,aq e1];by_cases e2:t[ij f k].1=0;simp[e2];have:(t[ij f k].1==0)=false:=by simp[e2]
   rw[this,aq e2];rfl)
  (λs nx=>by simp only[gX];rw[ae (by omega)];exact h0 _)
  fuel 0 () (by omega) (by omega)
 refine key.trans ?_;have main:∀n k,Yf (R:=R) (λk (s:Unit) c=>if ij f k=i then fin else if(eF t (ij f k)).1=0 then hit else c s) (λ_=>fin) 8 n k ()=cond (clear t f i n k) fin hit:=by intro n;induction n with|zero=>intro k;rfl|succ n ih=>intro k;rw[Yf,clear];split;rfl;split;rfl;exact ih (k+1)
 exact main 8 0
def Mq:eM:=(0,0,0,0,0)
theorem Mr (p:eM):((p.1==0)&&((p.2.1==0)&&((p.2.2.1==0)&&((p.2.2.2.1==0)&&((p.2.2.2.2==0)&&true)))))=decide (p=Mq):=B5 p Mq
def ND (s:Slot):Bool:=cq s.1 0 2&&cq s.2.2 0 3&&((s.1==1)||(s.2.2==0)&&decide (s.2.1=Mq))
def ny (t:List Slot)(i:Nat):Bool:=ND (eF t i)&&(!((eF t i).1==1)||(walk t (eF t i).2.1 8 0==(i:Int)))
def pB (t:List Slot)(i:Nat):Bool:=ND (eF t i)&&(!((eF t i).1==1)||(xB (eF t i).2.1 t 0==(i:Int))&&clear t (eF t i).2.1 i 8 0)
def zU (t:List Slot):Bool:=(t.length==8)&&(List.range 8).all (ny t)
theorem Tt (t:List Slot):uy t=some (zU t):=by
 unfold uy zU;by_cases ht:t.length=8
 ·have e:((t.length:Int) !=8)=false:=by rw[ht];rfl
  have e2:(t.length==8)=true:=by rw[ht];rfl
  rw[e,e2];simp only[af,bn];rw[eO (hit:=some false) (fin:=some true) (ny t) 8 (by omega) (λi nx hi=>?hs) (λnx=>?hf)]
  case hs=>
   have hl:i<t.length:=by omega
   simp only[oZ]
   rw[ai (by omega),aU hl,wrap64 (by omega) (by omega)]
   simp only[ah,ab,cc,ba,Mr,VU t _ ht,ny,xk hl,ND,bne]
   cases cq t[i].1 0 2<;>cases cq t[i].2.2 0 3<;>cases (t[i].1==1)<;>cases (t[i].2.2==0)<;>cases decide (t[i].2.1=Mq)<;>first|rfl|(cases (walk t t[i].2.1 8 0==(i:Int))<;>rfl)
  case hf=>
   simp only[oZ]
   rw[ae (by omega)];rfl
  cases (List.range 8).all (ny t)<;>rfl
 have e:((t.length:Int) !=8)=true:=by simp;omega
 have e2:(t.length==8)=false:=by simp[ht]
 rw[e,e2];rfl
theorem Pb (t:List Slot):qh t=some ((t.length==8)&&(List.range 8).all (pB t)):=by
 unfold qh;by_cases ht:t.length=8
 ·have e:((t.length:Int) !=8)=false:=by rw[ht];rfl
  have e2:(t.length==8)=true:=by rw[ht];rfl
  rw[e,e2];simp only[af,bn];rw[eO (hit:=some false) (fin:=some true) (pB t) 8 (by omega) (λi nx hi=>?hs) (λnx=>?hf)]
  case hs=>
   have hl:i<t.length:=by omega
   simp only[oL]
   rw[ai (by omega),aU hl,wrap64 (by omega) (by omega)]
   simp only[ah,ab,cz,ba,Mr,U2 t _ (show t.length≤1000000000 by omega),YN,pB,xk hl,ND,bne]
   rw[Sq (λ_=>nx ((i:Int)+1)) (λ(y:Bool) (_:Int)=>some y) (some false) (nx ((i:Int)+1)) (λ_=>rfl) (λ_=>rfl) _ _ _ _ _ _ _ ht]
   cases cq t[i].1 0 2<;>cases cq t[i].2.2 0 3<;>cases (t[i].1==1)<;>cases (t[i].2.2==0)<;>cases decide (t[i].2.1=Mq)<;>first|rfl|(cases (xB t[i].2.1 t 0==(i:Int))<;>first|rfl|(cases clear t t[i].2.1 i 8 0<;>rfl))
  case hf=>
   simp only[oL]
   rw[ae (by omega)];rfl
  cases (List.range 8).all (pB t)<;>rfl
 have e:((t.length:Int) !=8)=true:=by simp;omega
 have e2:(t.length==8)=false:=by simp[ht]
 rw[e,e2];rfl
theorem Jb (t:List Slot)(f:eM)(i:Nat):∀n k,walk t f n k=(i:Int)→pQ (eF t i) f=true∧clear t f i n k=true∧∃j,j<n∧ij f (k+j)=i
 |0,k,h=>by unfold walk at h;omega
 |n+1,k,h=>by
  unfold walk at h;unfold clear;by_cases h0:(eF t (ij f k)).1=0;rw[ay h0]at h;omega;rw[aq h0]at h;by_cases h1:pQ (eF t (ij f k)) f=true;rw[ay h1]at h;have:ij f k=i:=by omega
  subst this;exact⟨h1,by simp,0,by omega,rfl⟩;rw[aq h1]at h;obtain⟨a,b,j,hj,e⟩:=Jb t f i n (k+1) h;refine⟨a,?_,j+1,by omega,by rw[←e];congr 1;omega⟩;rw[aq h0,b];split<;>rfl
theorem RQ (t:List Slot)(f:eM)(i:Nat)(hu:pQ (eF t i) f=true)(huniq:∀j,j<8→pQ (eF t j) f=true→j=i):∀n k,clear t f i n k=true→(∃j,j<n∧ij f (k+j)=i)→walk t f n k=(i:Int)
 |0,k,_,h=>by obtain⟨j,hj,_⟩:=h;omega
 |n+1,k,hc,⟨j,hj,e⟩=>by unfold walk;unfold clear at hc;by_cases h1:ij f k=i;rw[h1,aq,ay hu];intro h0;unfold pQ at hu;rw[h0]at hu;simp at hu;rw[aq h1]at hc;by_cases h0:(eF t (ij f k)).1=0;rw[ay h0]at hc;cases hc;rw[aq h0]at hc;rw[aq h0,aq (λhu'=>h1 (huniq _ (Lk f k) hu'))];refine RQ t f i hu huniq n (k+1) hc ?_;cases j with|zero=>exact absurd e h1|succ j=>exact⟨j,by omega,by rw[←e];congr 1;omega⟩
theorem ZH (f:eM)(i:Nat)(hi:i<8):∃j,j<8∧ij f (0+j)=i:=by have:=MB f;refine⟨(i+8-(AO f).toNat)%8,by omega,?_⟩;unfold ij;omega
theorem DQ (f:eM):∀(t:List Slot)(m:Nat),(∃j,j<t.length∧pQ (eF t j) f=true)→∃j,j<t.length∧pQ (eF t j) f=true∧xB f t m=((m+j:Nat):Int)
 |[],_,h=>by obtain⟨j,hj,_⟩:=h;simp at hj
 |s::r,m,⟨j,hj,e⟩=>by
  unfold xB;by_cases hs:pQ s f=true;rw[ay hs];exact⟨0,by simp,by simpa[eF]using hs,by simp⟩;rw[aq hs];cases j with
  |zero=>exact absurd (by simpa[eF]using e) hs
  |succ j=>
   obtain⟨j',h1,h2,h3⟩:=DQ f r (m+1) ⟨j,by simpa using hj,by simpa[eF]using e⟩;refine⟨j'+1,by simpa using h1,by simpa[eF]using h2,?_⟩;have:((m:Int)+1)=((m+1:Nat):Int):=by omega
   rw[this,h3];congr 1;omega
theorem PR (t:List Slot)(ht:t.length=8):(List.range 8).all (pB t)=(List.range 8).all (ny t):=by
 rw[cm,bd,bd];simp only[dN];constructor;intro h i hi;have hI:=h i hi;unfold pB at hI;unfold ny;simp only[aj,cn,aY,bj]at hI⊢;refine⟨hI.1,?_⟩;rcases hI.2 with h1|⟨h1,h2⟩;exact .inl h1;by_cases hu:((eF t i).1==1)=true;right;have hu':pQ (eF t i) (eF t i).2.1=true:=by unfold pQ;rw[hu];simp
 refine RQ t _ i hu' (λj hj huj=>?_) 8 0 h2 (ZH _ i hi);have hJ:=h j hj;unfold pB at hJ;unfold pQ at huj;simp only[aj,aP]at huj;simp only[aj,cn,aY,bj]at hJ;rcases hJ.2 with h3|⟨h3,_⟩;rw[huj.1]at h3;cases h3;rw[huj.2]at h3;omega;exact .inl (by simpa using hu);intro h i hi;have hI:=h i hi;unfold ny at hI;unfold pB;simp only[aj,cn,aY,bj]at hI⊢;refine⟨hI.1,?_⟩;rcases hI.2 with h1|h1;exact .inl h1;right;obtain⟨hu,hc,_⟩:=Jb t _ i 8 0 h1;refine⟨?_,hc⟩;obtain⟨j,hj,huj,e⟩:=DQ (eF t i).2.1 t 0 ⟨i,by omega,hu⟩;have hJ:=h j (by omega);unfold ny at hJ;unfold pQ at huj;simp only[aj,aP]at huj;simp only[aj,cn,aY,bj]at hJ;rcases hJ.2 with h3|h3;rw[huj.1]at h3;cases h3;rw[huj.2,h1]at h3;have e':xB (eF t i).2.1 t 0=((0+j:Nat):Int):=e;rw[e'];omega
theorem SB (t:List Slot):qh t=some (zU t):=by
 rw[Pb,zU];by_cases ht:t.length=8;rw[PR t ht];have e2:(t.length==8)=false:=by simp[ht]
 rw[e2];rfl
def Ry (n:Int):Bool:=(n==1)||(n==2)||(n==4)||(n==8)||(n==16)
theorem Pn (n:Int):uA n=some (Ry n):=by simp only[uA,ba,ab,Ry];cases (n==1)<;>cases (n==2)<;>cases (n==4)<;>cases (n==8)<;>rfl
def yr (s:mh)(q:Int):Bool:=cq q 1 4&&((s.1.length:Int)==16)&&Ry s.2.length&&s.2.all λx=>cq x 0 (q-1)
theorem G3 (s:mh)(q:Int)(h:s.2.length≤1000000000):sV s q=some (yr s q):=by
 unfold sV yr;simp only[cc,Pn,ab,ba,bne];by_cases hq:cq q 1 4=true
 ·rw[py (hit:=some false) (fin:=some true) (λx=>cq x 0 (q-1)) s.2 (by omega) (λi hi nx=>?hs) (λnx=>?hf)]
  case hs=>
   rw[cv]at hq
   simp only[nH]
   rw[ai (by omega),aU hi,wrap64 (n:=(i:Int)+1) (by omega) (by omega),wrap64 (n:=q-1) (by omega) (by omega)]
   simp only[ah,ab,cc];rfl
  case hf=>
   simp only[nH]
   rw[ae (by omega)];rfl
  rw[hq];cases ((s.1.length:Int)==16)<;>cases Ry s.2.length<;>cases s.2.all (λx=>cq x 0 (q-1))<;>rfl
 have hq':cq q 1 4=false:=by simpa using hq
 rw[hq'];rfl
theorem Pa (s:mh)(q:Int)(h:s.2.length≤1000000000):wF s q=some (yr s q):=by rw[←G3 s q h];rfl
def kt (s:ek)(q:Int):Bool:=BC s.1&&zU s.2.1&&yr s.2.2 q&&s.1.all (λr=> !(decide (r.2.2.2.2.2.2.2.2≥q)))&&s.2.1.all (λx=> !(decide (x.2.2≥q)))
theorem K8 (s:ek)(q:Int)(h1:s.1.length≤1000000000)(h2:s.2.1.length≤1000000000)(h3:s.2.2.2.length≤1000000000):oY s q=some (kt s q):=by
 unfold oY kt;simp only[IY _ h1,Tt,G3 _ _ h3,ab,ba];rw[py (hit:=some false) (fin:=cond (s.2.1.all (λx=> !(decide (x.2.2≥q)))) (some true) (some false)) (λr:fi=> !(decide (r.2.2.2.2.2.2.2.2≥q))) s.1 (by omega) (λi hi nx=>?hs) (λnx=>?hf)]
 case hs=>
  simp only[kT]
  rw[ai (by omega),aU hi,wrap64 (by omega) (by omega)]
  simp only[ah,ab,cY];rfl
 case hf=>
  simp only[kT]
  rw[ae (by omega)]
  simp only[af]
  rw[py (hit:=some false) (fin:=some true) (λx:Slot=> !(decide (x.2.2≥q))) s.2.1 (by omega) (λi hi nx=>?hs) (λnx=>?hf)]
  case hs=>
   simp only[kU]
   rw[ai (by omega),aU hi,wrap64 (by omega) (by omega)]
   simp only[ah,ab,cY];rfl
  case hf=>
   simp only[kU]
   rw[ae (by omega)];rfl
 cases BC s.1<;>cases zU s.2.1<;>cases yr s.2.2 q<;>cases s.1.all (λr=> !(decide (r.2.2.2.2.2.2.2.2≥q)))<;>cases s.2.1.all (λx=> !(decide (x.2.2≥q)))<;>rfl
theorem Ku (s:ek)(q:Int)(h1:s.1.length≤1000000000)(h2:s.2.1.length≤1000000000)(h3:s.2.2.2.length≤1000000000):oK s q=some (kt s q):=by
 unfold oK kt;simp only[Sz _ h1,SB,Pa _ _ h3,ab,ba];rw[py (hit:=some false) (fin:=cond (s.2.1.all (λx=> !((x.1==1)&&decide (x.2.2≥q)))) (some true) (some false)) (λr:fi=> !((r.2.2.2.2.2.2.2.1==0)&&decide (r.2.2.2.2.2.2.2.2≥q))) s.1 (by omega) (λi hi nx=>?hs) (λnx=>?hf)]
 case hs=>
  simp only[kH]
  rw[ai (by omega),aU hi,wrap64 (by omega) (by omega)]
  simp only[ah,ab,cY,ba]
  cases (s.1[i].2.2.2.2.2.2.2.1==0)<;>rfl
 case hf=>
  simp only[kH]
  rw[ae (by omega)]
  simp only[af]
  rw[py (hit:=some false) (fin:=some true) (λx:Slot=> !((x.1==1)&&decide (x.2.2≥q))) s.2.1 (by omega) (λi hi nx=>?hs) (λnx=>?hf)]
  case hs=>
   simp only[js]
   rw[ai (by omega),aU hi,wrap64 (by omega) (by omega)]
   simp only[ah,ab,cY,ba]
   cases (s.2.1[i].1==1)<;>rfl
  case hf=>
   simp only[js]
   rw[ae (by omega)];rfl
 cases hr:BC s.1 with
 |false=>rfl
 |true=>
  cases ht:zU s.2.1 with
  |false=>rfl
  |true=>
   cases hs:yr s.2.2 q with
   |false=>rfl
   |true=>
    have hq:1≤q:=by unfold yr at hs;simp only[aj,cv]at hs;exact hs.1.1.1.1
    have e1:s.1.all (λr=> !((r.2.2.2.2.2.2.2.1==0)&&decide (r.2.2.2.2.2.2.2.2≥q)))=s.1.all (λr=> !(decide (r.2.2.2.2.2.2.2.2≥q))):=by unfold BC at hr;simp only[aj,bd]at hr;rw[cm,bd,bd];refine forall_congr' λr=>forall_congr' λhm=>?_;rcases Nv (hr.1 r hm)with h0|h0;rw[h0];simp;rw[h0];simp only[ae (show¬(0:Int)≥q by omega),gh]
    have e2:s.2.1.all (λx=> !((x.1==1)&&decide (x.2.2≥q)))=s.2.1.all (λx=> !(decide (x.2.2≥q))):=by unfold zU at ht;simp only[aj,bd,dN,bj]at ht;rw[cm,bd,bd];refine forall_congr' λx=>forall_congr' λhm=>?_;obtain⟨i,hi,rfl⟩:=List.mem_iff_getElem.1 hm;have hsl:=ht.2 i (by omega);unfold ny ND at hsl;rw[xk hi]at hsl;simp only[aj,cn,bj]at hsl;rcases hsl.1.2 with h0|⟨h0,_⟩;rw[h0];simp;rw[h0];simp only[ae (show¬(0:Int)≥q by omega),gh]
    rw[e1,e2];cases s.1.all (λr=> !(decide (r.2.2.2.2.2.2.2.2≥q)))<;>cases s.2.1.all (λx=> !(decide (x.2.2≥q)))<;>rfl
def eL (m:List Bytes):Bool:=m.all (λx=>(x.length:Int)==128)&&decide ((m.length:Int)≤64)
theorem yp (m:List Bytes)(h:m.length≤1000000000):lI m=some (eL m):=by
 unfold lI eL;rw[py (hit:=some false) (fin:=some (decide ((m.length:Int)≤64))) (λx:Bytes=>(x.length:Int)==128) m (by omega) (λi hi nx=>?hs) (λnx=>?hf)]
 case hs=>
  simp only[nE]
  rw[ai (by omega),aU hi,wrap64 (by omega) (by omega)];rfl
 case hf=>
  simp only[nE]
  rw[ae (by omega)];rfl
 cases m.all (λx=>(x.length:Int)==128)<;>rfl
theorem Bu (m:List Bytes)(h:m.length≤1000000000):n9 m=some (eL m):=yp m h
def HG:aA:=(0,0,0,false)
def Dg (m:aA):Bool:=cq m.1 0 7&&(cq m.2.1 0 1023&&cq m.2.2.1 0 63)
def nP (d p:Int)(m:aA):Bool:=(m.1==d)&&(m.2.1==p)
def MV (l:List aA)(i:Nat):Bool:=Dg (l.getD i HG)&&(List.range i).all (λj=> !(nP (l.getD i HG).1 (l.getD i HG).2.1 (l.getD j HG)))
def ei (l:List aA):Bool:=decide ((l.length:Int)≤96)&&(List.range l.length).all (MV l)
theorem CE (l:List aA)(h:l.length≤1000000000):lj l=some (ei l):=by
 unfold lj ei;rw[eO (hit:=some false) (fin:=some true) (MV l) l.length (by omega) (λi nx hi=>?hs) (λnx=>?hf)]
 case hs=>
  simp only[kQ]
  rw[ai (by omega),aU hi,wrap64 (by omega) (by omega)]
  simp only[ah,ab,cc,ba]
  rw[eO (hit:=some false) (fin:=nx ((i:Int)+1)) (λj=> !(nP l[i].1 l[i].2.1 (l.getD j HG))) i (by omega) (λj nx hj=>?hs2) (λnx=>?hf2)]
  case hs2=>
   have hjl:j<l.length:=by omega
   simp only[jA]
   rw[ai (by omega),aU hjl,wrap64 (by omega) (by omega)]
   simp only[ah,ab,ba,cD hjl,nP,cF,cY];rfl
  case hf2=>
   simp only[jA]
   rw[ae (by omega)];rfl
  simp only[MV,Dg,cD hi,cT]
  cases cq l[i].1 0 7<;>cases cq l[i].2.1 0 1023<;>cases cq l[i].2.2.1 0 63<;>cases (List.range i).all (λj=> !(nP l[i].1 l[i].2.1 (l.getD j HG)))<;>rfl
 case hf=>
  simp only[kQ]
  rw[ae (by omega)];rfl
 have e:decide ((l.length:Int)>96)= !decide ((l.length:Int)≤96):=by rw[cm];simp
 rw[e];cases decide ((l.length:Int)≤96)<;>cases (List.range l.length).all (MV l)<;>rfl
def Ni (l:List aA)(d p:Int):Int:=match l.findIdx? (nP d p)with|some i=>(i:Int)|none=> -1
theorem MI (l:List aA)(d p:Int)(h:l.length≤1000000000):jL l d p=some (Ni l d p):=by
 unfold jL Ni;rw[wY (hit:=λi=>some i) (fin:=some (-1)) (nP d p) l (by omega) (λi hi nx=>?hs) (λnx=>?hf)]
 case hs=>
  simp only[jv]
  rw[ai (by omega),aU hi,wrap64 (by omega) (by omega)]
  simp only[ah,ab,ba,cF,nP];rfl
 case hf=>
  simp only[jv]
  rw[ae (by omega)];rfl
 cases l.findIdx? (nP d p)<;>rfl
theorem PI (l:List aA)(i:Nat)(hi:i<l.length):(Ni l l[i].1 l[i].2.1==(i:Int))=(List.range i).all (λj=> !(nP l[i].1 l[i].2.1 (l.getD j HG))):=by
 have hself:nP l[i].1 l[i].2.1 l[i]=true:=by simp[nP]
 unfold Ni;cases hq:l.findIdx? (nP l[i].1 l[i].2.1)with
 |none=>rw[List.findIdx?_eq_none_iff]at hq;rw[hq l[i] (aW hi)]at hself;cases hself
 |some k=>
  rw[List.findIdx?_eq_some_iff_getElem]at hq;obtain⟨hk,hpk,hlt⟩:=hq;rw[cm,bd];simp only[dN,bj,aY];constructor;intro e j hj;have hjl:j<l.length:=by omega
  rw[cD hjl];have:=hlt j (by omega);simpa using this;intro hall;rcases Nat.lt_trichotomy k i with hki|hki|hki;have:=hall k hki;rw[cD hk,hpk]at this;cases this;omega;have:=hlt i hki;rw[hself]at this;simp at this
theorem Cd (l:List aA)(h:l.length≤1000000000):k7 l=some (ei l):=by
 unfold k7 ei;rw[eO (hit:=some false) (fin:=some (decide ((l.length:Int)≤96))) (MV l) l.length (by omega) (λi nx hi=>?hs) (λnx=>?hf)]
 case hs=>
  simp only[kE]
  rw[ai (by omega),aU hi,wrap64 (by omega) (by omega)]
  simp only[ah,ab,cz,ba,MI _ _ _ h,bne,PI l i hi,MV,Dg,cD hi]
  cases cq l[i].1 0 7<;>cases cq l[i].2.1 0 1023<;>cases cq l[i].2.2.1 0 63<;>cases (List.range i).all (λj=> !(nP l[i].1 l[i].2.1 (l.getD j HG)))<;>rfl
 case hf=>
  simp only[kE]
  rw[ae (by omega)];rfl
 cases decide ((l.length:Int)≤96)<;>cases (List.range l.length).all (MV l)<;>rfl
def Ms (n:Int)(l:List Int)(i:Nat):Bool:=cq (l.getD i 0) 0 (n-1)&& !((l.take i).contains (l.getD i 0))
def fC (p:bZ):Bool:=cq p.1 0 130944&&(cq p.2.1 1 512&&(cq p.2.2.1 0 16&&(List.range p.2.2.2.length).all (Ms p.2.2.1 p.2.2.2)))
def yV (n:Int)(l:List Int):List Bool:=(List.range n.toNat).map λk:Nat=>l.contains (k:Int)
theorem IP (n:Int)(l:List Int):(yV n l).length=n.toNat:=by simp[yV]
theorem Ar (n:Int)(l:List Int)(k:Nat)(h:k<(yV n l).length):(yV n l)[k]=l.contains (k:Int):=by simp[yV]
theorem Tk (n:Int)(l:List Int)(k:Nat)(h:k<n.toNat):(yV n l).set k true=yV n (l++[(k:Int)]):=by
 apply List.ext_getElem;simp[yV];intro j h1 h2;rw[List.getElem_set];split;rename_i e;subst e;rw[Ar];simp;rename_i e;rw[Ar,Ar];simp only[List.contains_append];have:([(k:Int)].contains (j:Int))=false:=by simp;omega
 rw[this];simp
theorem Nl {T:(List Bool×Int→Option Bool)→List Bool×Int→Option Bool}(n:Int)(l:List Int)(hl:l.length≤1000000000)
 (hs:∀i (hi:i<l.length)(s:List Bool) nx,T nx (s,(i:Int))=aa (cond (!(cq l[i] 0 (n-1))) (some true) (aa (idx s l[i]) λx=>some x)) λq=>
  cond q (some false) (aa (idx s l[i]) λ_=>aa (idx s l[i]) λ_=>nx (s.set l[i].toNat true,((i+1:Nat):Int)))) (hf:∀s nx,T nx (s,(l.length:Int))=some true):
 aJ T fuel (List.replicate n.toNat false,0)=some ((List.range l.length).all (Ms n l)):=by
 have e0:(List.replicate n.toNat false,(0:Int))=(yV n (l.take 0),((0:Nat):Int)):=by congr 1;simp only[yV,List.take_zero,List.contains_nil,List.map_const',List.length_range]
 rw[e0,CZ (hit:=some false) (fin:=some true) (λi=>(yV n (l.take i),(i:Int))) (Ms n l) l.length (by omega) (λi nx hi hp=>?hs) (λ_ nx=>hf _ nx)]
 case hs=>
  rw[hs i hi]
  unfold Ms
  rw[cD hi]
  by_cases hin:cq l[i] 0 (n-1)=true
  ·have hb:=hin
   rw[cv]at hb
   obtain⟨k,hk⟩:∃k:Nat,l[i]=(k:Int):=⟨l[i].toNat,by omega⟩
   have hkn:k<(yV n (l.take i)).length:=by rw[IP];omega
   rw[hin,hk,aU hkn,Ar]
   simp only[al,af,ab,bn,cY,ax]
   rw[Tk _ _ _ (by rw[IP]at hkn;exact hkn),←hk,←bh hi]
  ·have hin':cq l[i] 0 (n-1)=false:=by simpa using hin
   rw[hin'];rfl
 cases (List.range l.length).all (Ms n l)<;>rfl
theorem vF (p:bZ)(h:p.2.2.2.length≤1000000000):gV p=some (fC p):=by
 unfold gV fC;simp only[cc,ab,ba];by_cases hn:cq p.2.2.1 0 16=true
 ·have hb:=hn;rw[cv]at hb;rw[ay (by omega),aK (by omega),Nl p.2.2.1 p.2.2.2 h (λi hi s nx=>?hs) (λs nx=>?hf)]
  case hs=>
   simp only[rz]
   rw[ai (by omega),aU hi,wrap64 (n:=(i:Int)+1) (by omega) (by omega),wrap64 (n:=p.2.2.1-1) (by omega) (by omega)]
   simp only[ah,ab,cc];rfl
  case hf=>
   simp only[rz]
   rw[ae (by omega)];rfl
  rw[hn];cases cq p.1 0 130944<;>cases cq p.2.1 1 512<;>rfl
 have hn':cq p.2.2.1 0 16=false:=by simpa using hn
 rw[hn'];cases cq p.1 0 130944<;>cases cq p.2.1 1 512<;>rfl
theorem u1 (p:bZ)(h:p.2.2.2.length≤1000000000):gT p=some (fC p):=by
 unfold gT fC;simp only[cz,ab,ba];by_cases hn:cq p.2.2.1 0 16=true
 ·have hb:=hn;rw[cv]at hb;rw[ay (by omega),aK (by omega),Nl p.2.2.1 p.2.2.2 h (λi hi s nx=>?hs) (λs nx=>?hf)]
  case hs=>
   simp only[qe]
   rw[ai (by omega),aU hi,wrap64 (n:=(i:Int)+1) (by omega) (by omega),wrap64 (n:=p.2.2.1-1) (by omega) (by omega)]
   simp only[ah,ab,cz];rfl
  case hf=>
   simp only[qe]
   rw[ae (by omega)];rfl
  rw[hn];cases cq p.1 0 130944<;>cases cq p.2.1 1 512<;>rfl
 have hn':cq p.2.2.1 0 16=false:=by simpa using hn
 rw[hn'];cases cq p.1 0 130944<;>cases cq p.2.1 1 512<;>rfl
def gZ (n:Int):Bool:=(n==2)||((n==4)||((n==8)||(n==16)))
theorem xL (n:Int):nL n=some (gZ n):=by simp only[nL,ba,ab,gZ,cT]
theorem zL (n:Int):oc n=some (gZ n):=xL n
theorem jd {n:Int}:gZ n=true↔n=2∨n=4∨n=8∨n=16:=by simp[gZ]
theorem xp (x:Int)(k:Nat)(hk:k≤64):ao x%(2^k:Int)=x%(2^k:Int):=by
 obtain⟨c,hc⟩:∃c:Int,(18446744073709551616:Int)=2^k*c:=⟨2^(64-k),by rw[←Int.pow_add,show k+(64-k)=64 by omega];rfl⟩
 have:ao x=x∨∃q:Int,ao x=x+18446744073709551616*q:=by
  right;simp only[ao,fg,IntKind.wrap,IntKind.bits,IntKind.signed];simp;have h1:x=x%18446744073709551616+18446744073709551616*(x/18446744073709551616):=by omega
  split;exact⟨-(x/18446744073709551616)-1,by omega⟩;exact⟨-(x/18446744073709551616),by omega⟩
 rcases this with h|⟨q,h⟩;rw[h];rw[h,hc,Int.mul_assoc,Int.add_mul_emod_self_left]
theorem wR (x:Int)(k:Nat)(hk:k<63):((BitVec.ofInt (IntKind.bits .i64) x&&&BitVec.ofInt (IntKind.bits .i64) (2^k-1)).toNat:Int)=x%2^k:=by
 have h2:(2:Int)^k≤2^62:=by have:(2:Nat)^k≤2^62:=Nat.pow_le_pow_right (by omega) (by omega);exact_mod_cast this
 have h0:(1:Int)≤2^k:=by have:1≤(2:Nat)^k:=Nat.one_le_two_pow;exact_mod_cast this
 have hm:(BitVec.ofInt (IntKind.bits .i64) (2^k-1)).toNat=2^k-1:=by
  show(BitVec.ofInt 64 (2^k-1)).toNat=2^k-1;rw[BitVec.toNat_ofInt,Int.emod_eq_of_lt (by omega) (by omega)];have:((2:Int)^k-1)=((2^k-1:Nat):Int):=by have:1≤(2:Nat)^k:=Nat.one_le_two_pow;push_cast [this];rfl
  rw[this];rfl
 rw[BitVec.toNat_and,hm,Nat.and_two_pow_sub_one_eq_mod];show(((BitVec.ofInt 64 x).toNat%2^k:Nat):Int)=x%2^k;rw[BitVec.toNat_ofInt];have hx:0≤x%18446744073709551616:=by omega
 have e:(((x%18446744073709551616).toNat%2^k:Nat):Int)=(x%18446744073709551616)%2^k:=by push_cast;rw[Int.toNat_of_nonneg hx]
 refine e.trans ?_;exact Int.emod_emod_of_dvd x ⟨2^(64-k),by rw[←Int.pow_add,show k+(64-k)=64 by omega];rfl⟩
theorem Dl (x n:Int)(h0:0<n)(h1:n≤4611686018427387904):fH x n=some (x%n):=by
 unfold fH;have:=dj x (show n≠0 by omega);have:=cX x h0;have hn:(n.natAbs:Int)=n:=by omega
 rw[aq (by omega),Int.tmod_eq_emod];split;rw[ae (by omega)];simp;rw[ai (by omega),wrap64 (by omega) (by omega)];simp only[ah,hn];congr 1;omega
def lf (r:(Int×Int×Int×Int)):Int:=if gZ r.2.1 then(r.2.2.2-r.2.2.1)%(2*r.2.1) else 0
theorem CJ (r:(Int×Int×Int×Int)):lJ r=some (lf r):=by
 unfold lJ lf;rw[xL,ab];cases hs:gZ r.2.1 with
 |false=>rfl
 |true=>
  simp only[al,af,bl];congr 1;rcases jd.1 hs with h|h|h|h<;>rw[h];have e:ao (ao (2*2)-1)=2^2-1:=by decide
  rw[e,wR _ 2 (by omega),xp _ 2 (by omega),wrap64 (by omega) (by omega)];rfl;have e:ao (ao (2*4)-1)=2^3-1:=by decide
  rw[e,wR _ 3 (by omega),xp _ 3 (by omega),wrap64 (by omega) (by omega)];rfl;have e:ao (ao (2*8)-1)=2^4-1:=by decide
  rw[e,wR _ 4 (by omega),xp _ 4 (by omega),wrap64 (by omega) (by omega)];rfl;have e:ao (ao (2*16)-1)=2^5-1:=by decide
  rw[e,wR _ 5 (by omega),xp _ 5 (by omega),wrap64 (by omega) (by omega)];rfl
theorem Gn (r:(Int×Int×Int×Int)):lz r=some (lf r):=by unfold lz lf;rw[zL,ab];cases hs:gZ r.2.1 with|false=>rfl|true=>simp only[al,af,bl];have hb:=jd.1 hs;rw[wrap64 (n:=2*r.2.1) (by omega) (by omega)];have a1:=dj r.2.2.2 (show 2*r.2.1≠0 by omega);have a2:=cX r.2.2.2 (show 0<2*r.2.1 by omega);have a3:=dj r.2.2.1 (show 2*r.2.1≠0 by omega);have a4:=cX r.2.2.1 (show 0<2*r.2.1 by omega);simp only[Dl _ (2*r.2.1) (show 0<2*r.2.1 by omega) (by omega),ab];rw[wrap64 (by omega) (by omega),←Int.sub_emod]
def fW (r:(Int×Int×Int×Int)):Bool:=cq r.1 0 130944&&(gZ r.2.1&&(cq r.2.2.1 0 (2*r.2.1-1)&&(cq r.2.2.2 0 (2*r.2.1-1)&&decide (lf r≤r.2.1))))
theorem As {n:Int}(h:gZ n=true):ao (ao (2*n)-1)=2*n-1:=by have:=jd.1 h;rw[wrap64 (n:=2*n) (by omega) (by omega),wrap64 (by omega) (by omega)]
theorem vG (r:(Int×Int×Int×Int)):iW r=some (fW r):=by unfold iW fW;simp only[cc,xL,CJ,ab,ba,cF];cases hs:gZ r.2.1 with|false=>rfl|true=>rw[As hs]
theorem w3 (r:(Int×Int×Int×Int)):iI r=some (fW r):=by unfold iI fW;simp only[cz,zL,Gn,ab,ba,cF];cases hs:gZ r.2.1 with|false=>rfl|true=>rw[As hs]
theorem u7 (p:bZ)(h:p.2.2.2.length≤1000000000):gP p=some p:=by unfold gP;rw[aK (by simp;omega)];rfl
theorem kv (l:List Int)(h:l.length≤1000000000):eA l=some l:=by unfold eA;rw[aK (by simp;omega)];rfl
theorem s4 (p:bZ)(h:p.2.2.2.length≤1000000000):fP p=some p:=by unfold fP;rw[kv _ h];rfl
def KK (p:bZ)(l:List Int):bZ:=(p.1,p.2.1,p.2.2.1,p.2.2.2++l)
def zn (p:bZ)(l:List Int):Bool:=fC p&&fC (KK p l)
def HA (p:bZ)(l:List Int):bZ×Bool:=bif zn p l then(KK p l,true) else(p,false)
theorem NI (p:bZ)(l:List Int)(h:p.2.2.2.length+l.length≤1000000000):ff p l=some (HA p l):=by unfold ff;rw[u7 p (by omega),ab,aK (by omega),vF p (by omega)];rw[vF (p.1,p.2.1,p.2.2.1,p.2.2.2++l) (by simp;omega)];simp only[ab,ba,HA,zn];show _=some (bif fC p&&fC (p.1,p.2.1,p.2.2.1,p.2.2.2++l) then _ else _);cases fC p<;>cases fC (p.1,p.2.1,p.2.2.1,p.2.2.2++l)<;>rfl
theorem MH (p:bZ)(l:List Int)(h:p.2.2.2.length+l.length≤1000000000):eC p l=some (HA p l):=by unfold eC;rw[s4 p (by omega),ab,aK (by omega),u1 p (by omega)];rw[u1 (p.1,p.2.1,p.2.2.1,p.2.2.2++l) (by simp;omega)];simp only[ab,ba,HA,zn];show _=some (bif fC p&&fC (p.1,p.2.1,p.2.2.1,p.2.2.2++l) then _ else _);cases fC p<;>cases fC (p.1,p.2.1,p.2.2.1,p.2.2.2++l)<;>rfl
theorem Ux (p:bZ)(l:List Int):(HA p l).2=zn p l:=by unfold HA;cases zn p l<;>rfl
def iP (n:Int)(s:eS):Bool:=cq s.2.1 1 n&&cq s.1 0 65535
def dQ (l:List eS):List Int:=l.flatMap (·.2.2)
def gm (l:List eS):Int:=(l.map (·.2.1)).sum
def ZE (t:ee):Bool:=fW t.1&&(fC t.2.1&&(cq t.2.2.2 0 65535&&(t.2.2.1.all (iP t.1.2.1)&&(zn t.2.1 (dQ t.2.2.1)&&decide (gm t.2.2.1≤t.1.2.1)))))
theorem BQ (n:Int):∀l:List eS,l.all (iP n)=true→0≤gm l
 |[],_=>by simp[gm]
 |x::l,h=>by simp only[bD,aj]at h;have:=BQ n l h.2;have hx:=h.1;unfold iP at hx;simp only[aj,cv]at hx;simp only[gm,bW,List.sum_cons]at this⊢;omega
theorem IZ (p:bZ)(n:Int)(hn:0≤n∧n≤16)(fin:Int×List Int→Option Bool)(hfin:∀s:Int×List Int,p.2.2.2.length+s.2.length≤1000000000→fin s=some (zn p s.2&&decide (s.1≤n))):
 ∀(l:List eS)(sum:Int)(acc:List Int),0≤sum→sum+16*l.length≤100000000000→p.2.2.2.length+(acc.length+(dQ l).length)≤1000000000→
 pA (λx (s:Int×List Int) k=>cond (!(iP n x)) (some false) (room (s.2.length+x.2.2.length) (k (ao (s.1+x.2.1),s.2++x.2.2)))) fin l (sum,acc)
  =some (l.all (iP n)&&(zn p (acc++dQ l)&&decide (sum+gm l≤n)))
 |[],sum,acc,h0,h1,h2=>by rw[pA,hfin _ (by simp[dQ]at h2;exact h2)];simp[dQ,gm]
 |x::l,sum,acc,h0,h1,h2=>by
  have hb:dQ (x::l)=x.2.2++dQ l:=by simp[dQ]
  rw[hb,ak]at h2;rw[pA,bD];cases hx:iP n x with
  |false=>rfl
  |true=>
   have hx':=hx;unfold iP at hx';simp only[aj,cv]at hx';simp only[a7,bR,bS]at h1;simp only[al,af,bn];rw[aK (by omega),wrap64 (by omega) (by omega),IZ p n hn fin hfin l _ _ (by omega) (by omega) (by rw[ak];omega)];rw[hb,aE];have e:sum+x.2.1+gm l=sum+gm (x::l):=by simp only[gm,bW,List.sum_cons];omega
   rw[e]
theorem Is (p:bZ)(n:Int)(hn:n≤16)(fin:Int×List Int→Option Bool)(hfin:∀s:Int×List Int,p.2.2.2.length+s.2.length≤1000000000→fin s=some (zn p s.2)):
 ∀(l:List eS)(left:Int)(acc:List Int),0≤left→left≤n→p.2.2.2.length+(acc.length+(dQ l).length)≤1000000000→
 pA (λx (s:Int×List Int) k=>cond (decide (x.2.1<1)||(decide (x.2.1>s.1)|| !(cq x.1 0 65535))) (some false) (room (s.2.length+x.2.2.length) (k (ao (s.1-x.2.1),s.2++x.2.2)))) fin l (left,acc)
  =some (l.all (iP n)&&(zn p (acc++dQ l)&&decide (gm l≤left)))
 |[],left,acc,h0,h1,h2=>by rw[pA,hfin _ (by simp[dQ]at h2;exact h2)];simp[dQ,gm,h0]
 |x::l,left,acc,h0,h1,h2=>by
  have hb:dQ (x::l)=x.2.2++dQ l:=by simp[dQ]
  have hc:gm (x::l)=x.2.1+gm l:=by simp only[gm,bW,List.sum_cons]
  rw[hb,ak]at h2;rw[pA,bD,hb,hc];by_cases c1:x.2.1<1;have e:iP n x=false:=by unfold iP cq;rw[ae (show¬1≤x.2.1 by omega)];rfl
  rw[e,ai c1];rfl;rw[ae c1];by_cases c2:x.2.1>left;rw[ai c2];simp only[Bool.or_true,cB,Bool.true_or,ah];cases ha:l.all (iP n)with|false=>simp|true=>have:=BQ n l ha;rw[ae (show¬x.2.1+gm l≤left by omega)];simp
  rw[ae c2];have e:iP n x=cq x.1 0 65535:=by have:cq x.2.1 1 n=true:=cv.2 ⟨by omega,by omega⟩;unfold iP;rw[this];rfl
  rw[e];cases cq x.1 0 65535 with
  |false=>rfl
  |true=>
   simp only[cB,al,af,bn];rw[aK (by omega),wrap64 (by omega) (by omega),Is p n hn fin hfin l _ _ (by omega) (by omega) (by rw[ak];omega),aE];have e:decide (gm l≤left-x.2.1)=decide (x.2.1+gm l≤left):=by rw[cm];simp;omega
   rw[e]
theorem afy (t:ee)(h1:t.2.2.1.length≤1000000000)(h2:t.2.1.2.2.2.length+(dQ t.2.2.1).length≤1000000000):Ax t=some (ZE t):=by
 unfold Ax ZE;simp only[vG,vF _ (show t.2.1.2.2.2.length≤1000000000 by omega),cc,ab,ba];cases hr:fW t.1 with
 |false=>rfl
 |true=>
  have hn:0≤t.1.2.1∧t.1.2.1≤16:=by unfold fW at hr;simp only[aj]at hr;have:=jd.1 hr.2.1;omega
  have hfu:=cC;have key:=rO (R:=Bool) (T:=rC (λ(y9:Int) (y10:List Int) (_:Int)=>aa (ff t.2.1 y10) λr12=>some (bif r12.2 then decide (y9≤t.1.2.1) else false)) (λ(y14:Bool) (_:Int) (_:List Int) (_:Int)=>some y14) false t) t.2.2.1 (λ(s:Int×List Int) i=>(s.1,s.2,(i:Int))) (λx (s:Int×List Int) k=>cond (!(iP t.1.2.1 x)) (some false) (room (s.2.length+x.2.2.length) (k (ao (s.1+x.2.1),s.2++x.2.2)))) (λs=>aa (ff t.2.1 s.2) λr12=>some (r12.2&&decide (s.1≤t.1.2.1))) (λi hi s nx=>by simp only[rC];rw[ai (by omega),aU hi,wrap64 (n:=(i:Int)+1) (by omega) (by omega)];simp only[ah,ab,cc,ba,iP];cases cq t.2.2.1[i].2.1 1 t.1.2.1<;>cases cq t.2.2.1[i].1 0 65535<;>rfl) (λs nx=>by simp only[rC];rw[ae (by omega)];simp only[af,ba,ab,cF]) fuel 0 (0,([]:List Int)) (by omega) (by omega);rw[cK,IZ t.2.1 t.1.2.1 hn _ (λs hs=>by rw[NI _ _ hs,ab,Ux]) _ _ _ (by omega) (by omega) (by simpa using h2)]at key;cases fC t.2.1 with|false=>rfl|true=>cases cq t.2.2.2 0 65535 with|false=>rfl|true=>refine key.trans ?_;simp
theorem abo (t:ee)(h1:t.2.2.1.length≤1000000000)(h2:t.2.1.2.2.2.length+(dQ t.2.2.1).length≤1000000000):Aj t=some (ZE t):=by
 unfold Aj ZE;simp only[w3,u1 _ (show t.2.1.2.2.2.length≤1000000000 by omega),cz,ab,ba];cases hr:fW t.1 with
 |false=>rfl
 |true=>
  have hn:0≤t.1.2.1∧t.1.2.1≤16:=by unfold fW at hr;simp only[aj]at hr;have:=jd.1 hr.2.1;omega
  have hfu:=cC;have key:=rO (R:=Bool) (T:=qi (λ(_:Int) (y9:List Int) (_:Int)=>aa (eC t.2.1 y9) λr11=>some r11.2) (λ(y12:Bool) (_:Int) (_:List Int) (_:Int)=>some y12) false t.2.2.1 ((List.length t.2.2.1:Int)) t) t.2.2.1 (λ(s:Int×List Int) i=>(s.1,s.2,(i:Int))) (λx (s:Int×List Int) k=>cond (decide (x.2.1<1)||(decide (x.2.1>s.1)|| !(cq x.1 0 65535))) (some false) (room (s.2.length+x.2.2.length) (k (ao (s.1-x.2.1),s.2++x.2.2)))) (λs=>aa (eC t.2.1 s.2) λr12=>some r12.2) (λi hi s nx=>by simp only[qi];rw[ai (by omega),aU hi,wrap64 (n:=(i:Int)+1) (by omega) (by omega)];simp only[ah,ab,cz,ba,cT];rfl) (λs nx=>by simp only[qi];rw[ae (by omega)];rfl) fuel 0 (t.1.2.1,([]:List Int)) (by omega) (by omega);rw[cK,Is t.2.1 t.1.2.1 (by omega) _ (λs hs=>by rw[MH _ _ hs,ab,Ux]) _ _ _ (by omega) (by omega) (by simpa using h2)]at key;cases fC t.2.1 with|false=>rfl|true=>cases cq t.2.2.2 0 65535 with|false=>rfl|true=>refine key.trans ?_;simp
def BD (s:cI):Bool:=cq s.2.1 0 65535&&(cq s.2.2.1 0 65535&&(!decide ((List.length s.2.2.2.2.2.2.2:Int)>320)&&
 (bif s.1==17 then(s.2.2.2.1==0)&&((s.2.2.2.2.1==0)&&((s.2.2.2.2.2.1==0)&&(s.2.2.2.2.2.2.1==0)))
  else(s.1==6)&&(cq s.2.2.2.1 0 4294967295&&(cq s.2.2.2.2.1 0 4294967295&&(cq s.2.2.2.2.2.1 0 31&&cq s.2.2.2.2.2.2.1 0 65535))))))
theorem RA (s:cI):mV s=some (BD s):=by simp only[mV,cc,ab,ba,cF,cT,cN,Bool.not_or,cY,Bool.and_assoc,BD]
theorem Re (s:cI):mq s=some (BD s):=by simp only[mq,cz,ab,ba,cF,cT,cN,Bool.not_or,cY,Bool.and_assoc,BD];by_cases h:s.1=17;rw[h];rfl;rw[show(s.1==17)=false from by simpa using h];cases s.1==6<;>rfl
def F9 (f:Int):Bool:=(f==16)||(f==17)||(f==24)||(f==25)
theorem OU (f:Int)(h:cq f 0 31=true):(ao (BitVec.toNat (BitVec.ofInt (IntKind.bits .i64) f&&&~~~ BitVec.ofInt (IntKind.bits .i64) 9))==16)=F9 f:=by
 have key:∀k:Fin 32,(ao (BitVec.toNat (BitVec.ofInt (IntKind.bits .i64) (k.val:Int)&&&~~~ BitVec.ofInt (IntKind.bits .i64) 9))==16)=F9 (k.val:Int):=by decide
 rw[cv]at h;have:=key ⟨f.toNat,by omega⟩;rwa[show((f.toNat:Nat):Int)=f by omega]at this
theorem OT (f:Int)(h:cq f 0 31=true):qs f=some (F9 f):=by
 have key:∀k:Fin 32,((ao (BitVec.toNat (BitVec.ofInt (IntKind.bits .i64) (k.val:Int)&&&BitVec.ofInt (IntKind.bits .i64) 16)) !=0)&&(ao (BitVec.toNat (BitVec.ofInt (IntKind.bits .i64) (k.val:Int)&&&~~~ BitVec.ofInt (IntKind.bits .i64) 25))==0))=F9 (k.val:Int):=by decide
 rw[cv]at h;have:=key ⟨f.toNat,by omega⟩;rw[show((f.toNat:Nat):Int)=f by omega]at this;simp only[qs,ba,ab,cF];rw[this]
theorem IQ {s:cI}(h:BD s=true)(h6:(s.1==6)=true):cq s.2.2.2.2.2.1 0 31=true:=by
 have:s.1=6:=by simpa using h6
 unfold BD at h;rw[this]at h;simp only[aj]at h;have h:=h.2.2.2;simp at h;exact h.2.2.1
def zu (p:de):Bool:=cq p.1 0 281474976710655&&(cq p.2.1 0 281474976710655&&(cq p.2.2.1 (-1) 4095&&(cq p.2.2.2.1 0 255&&(cq p.2.2.2.2.2.1 0 255&&(cq p.2.2.2.2.1 0 65535&&(cq p.2.2.2.2.2.2.1 0 4294967295&&(cq p.2.2.2.2.2.2.2.1 0 4294967295&&BD p.2.2.2.2.2.2.2.2)))))))
def ir (p:de):Bool:=zu p&&(decide ((List.length p.2.2.2.2.2.2.2.2.2.2.2.2.2.2.2:Int)≤128)||(p.2.2.2.2.2.2.2.2.1==6)&&F9 p.2.2.2.2.2.2.2.2.2.2.2.2.2.1)
theorem Gi {p:de}(h:zu p=true):BD p.2.2.2.2.2.2.2.2=true:=by unfold zu at h;simp only[aj]at h;exact h.2.2.2.2.2.2.2.2
theorem Av (p:de):kV p=some (ir p):=by unfold kV ir;simp only[cc,RA,ab,ba,cF,cT,cN,Bool.not_or,cY];rw[show(cq p.1 0 281474976710655&&(cq p.2.1 0 281474976710655&&(cq p.2.2.1 (-1) 4095&&(cq p.2.2.2.1 0 255&&(cq p.2.2.2.2.2.1 0 255&&(cq p.2.2.2.2.1 0 65535&&(cq p.2.2.2.2.2.2.1 0 4294967295&&(cq p.2.2.2.2.2.2.2.1 0 4294967295&&BD p.2.2.2.2.2.2.2.2))))))))=zu p from rfl];cases hh:zu p with|false=>rfl|true=>cases h6:p.2.2.2.2.2.2.2.2.1==6 with|false=>simp|true=>rw[OU _ (IQ (Gi hh) h6)];simp[Bool.or_comm]
theorem Ai (p:de):kI p=some (ir p):=by
 unfold kI ir;simp only[cz,Re,ab];have e:∀X:Option Bool,(cond (cq p.1 0 281474976710655) (cond (cq p.2.1 0 281474976710655) (cond (cq p.2.2.1 (-1) 4095) (cond (cq p.2.2.2.1 0 255) (cond (cq p.2.2.2.2.2.1 0 255) (cond (cq p.2.2.2.2.1 0 65535) (cond (cq p.2.2.2.2.2.2.1 0 4294967295) (cond (cq p.2.2.2.2.2.2.2.1 0 4294967295) (cond (BD p.2.2.2.2.2.2.2.2) X (some false)) (some false)) (some false)) (some false)) (some false)) (some false)) (some false)) (some false)) (some false))=cond (zu p) X (some false):=by
  intro X;unfold zu;cases cq p.1 0 281474976710655 with|false=>rfl|true=>?_
  cases cq p.2.1 0 281474976710655 with|false=>rfl|true=>?_
  cases cq p.2.2.1 (-1) 4095 with|false=>rfl|true=>?_
  cases cq p.2.2.2.1 0 255 with|false=>rfl|true=>?_
  cases cq p.2.2.2.2.2.1 0 255 with|false=>rfl|true=>?_
  cases cq p.2.2.2.2.1 0 65535 with|false=>rfl|true=>?_
  cases cq p.2.2.2.2.2.2.1 0 4294967295 with|false=>rfl|true=>?_
  cases cq p.2.2.2.2.2.2.2.1 0 4294967295<;>rfl
 rw[e];cases hh:zu p with|false=>rfl|true=>cases h6:p.2.2.2.2.2.2.2.2.1==6 with|false=>simp[ba]|true=>rw[OT _ (IQ (Gi hh) h6)];simp only[ah,ab,ba,cT,bn]
def fj (q:(Int×Int×Int)):Bool:=cq q.1 0 130944&&(gZ q.2.1&&cq q.2.2 0 (ao ((ao (2*q.2.1))-1)))
theorem DF (q:(Int×Int×Int)):kS q=some (fj q):=by simp only[kS,cc,xL,ab,ba,cF,fj]
theorem Db (q:(Int×Int×Int)):kG q=some (fj q):=by simp only[kG,cz,zL,ab,ba,cF,fj]
def afz:zb:=((0,0,0,0,0,0,0,0,0,0,0,0,0,0,0,([]:Bytes)),0,0)
def Wb (p:zb):Bool:=(p.1.1==0)&&((p.1.2.1==0)&&((p.1.2.2.1==0)&&((p.1.2.2.2.1==0)&&((p.1.2.2.2.2.1==0)&&((p.1.2.2.2.2.2.1==0)&&((p.1.2.2.2.2.2.2.1==0)&&((p.1.2.2.2.2.2.2.2.1==0)&&((p.1.2.2.2.2.2.2.2.2.1==0)&&((p.1.2.2.2.2.2.2.2.2.2.1==0)&&((p.1.2.2.2.2.2.2.2.2.2.2.1==0)&&((p.1.2.2.2.2.2.2.2.2.2.2.2.1==0)&&((p.1.2.2.2.2.2.2.2.2.2.2.2.2.1==0)&&((p.1.2.2.2.2.2.2.2.2.2.2.2.2.2.1==0)&&((p.1.2.2.2.2.2.2.2.2.2.2.2.2.2.2.1==0)&&((p.1.2.2.2.2.2.2.2.2.2.2.2.2.2.2.2==([]:Bytes))&&((p.2.1==0)&&((p.2.2==0)&&true)))))))))))))))))
def HP (r:aZ):Bool:=(fW r.1&&(fj r.2.1&&(fj r.2.2.1&&((r.2.1.1==r.2.2.1.1)&&((r.2.1.2.1==r.2.2.1.2.1)&&cq r.2.2.2.2.2 0 1000000000000)))))&&
 (bif r.2.2.2.2.1 then ir r.2.2.2.1.1&&(cq r.2.2.2.1.2.1 0 320&&cq r.2.2.2.1.2.2 1 320) else Wb r.2.2.2.1)
theorem P0 (r:aZ):uQ r=some (HP r):=by unfold uQ HP Wb;simp only[vG,DF,cc,Av,ab,ba,cF,cT,cN,Bool.not_or,cY,bne];cases r.2.2.2.2.1<;>rfl
theorem O9 (r:aZ):uN r=some (HP r):=by unfold uN HP Wb;simp only[w3,Db,cz,Ai,ab,ba,cF,cT,cN,Bool.not_or,cY,bne];cases r.2.2.2.2.1<;>rfl
def gQ (v:Vector):Bool:=(ft v).getD false
theorem rU (v:Vector):ft v=some (gQ v):=by
 have:∃b,ft v=some b:=by simp only[ft,pP,cc,ab,ba];exact⟨_,rfl⟩
 obtain⟨b,hb⟩:=this;rw[gQ,hb];rfl
theorem u3 (v:Vector):iZ v=some (gQ v):=rU v
theorem Dw {α:Type}(l:List α)(p:α→Bool):(List.range l.length).all (λi=>l[i]?.all p)=l.all p:=by rw[cm,bd,bd];constructor;intro h x hx;obtain⟨i,hi,rfl⟩:=List.getElem_of_mem hx;have:=h i (dN.2 hi);rwa[List.getElem?_eq_getElem hi]at this;intro h i hi;rw[List.getElem?_eq_getElem (dN.1 hi)];exact h _ (aW _)
theorem Qq {α:Type}(l:List α)(p q:α→Bool):l.all (λx=>p x&&q x)=(l.all p&&l.all q):=by induction l with|nil=>rfl|cons x l ih=>simp only[bD,ih];cases p x<;>cases q x<;>cases l.all p<;>rfl
def gG (h:Host):List Int:=[h.2.2.2.2.2.2.2.2.2.2.2.2.2.2.1,h.2.2.2.2.2.2.2.2.2.2.2.2.2.2.2.1,h.2.2.2.2.2.2.2.2.2.2.2.2.2.2.2.2.1,h.2.2.2.2.2.2.2.2.2.2.2.2.2.2.2.2.2.1,h.2.2.2.2.2.2.2.2.2.2.2.2.2.2.2.2.2.2]
def tP (h:Host):Bool:=cq (h.2.2.2.1.length:Int) 1 2&&(((h.2.2.2.2.1.length:Int)==(h.2.2.2.1.length:Int))&&(((h.2.2.2.2.2.1.length:Int)==(h.2.2.2.1.length:Int))&&((h.2.2.2.2.2.2.1.length:Int)==(h.2.2.2.1.length:Int))))
def Nu (h:Host):Bool:=h.2.2.2.1.all HP&&(h.2.2.2.2.1.all fC&&h.2.2.2.2.2.1.all gQ)
def gn (h:Host):Bool:=eL h.1&&(ei h.2.1&&(ZE h.2.2.1&&(m5 h.2.2.2.2.2.2.2.1&&(tP h&&(kt h.2.2.2.2.2.2.2.2.1 (h.2.2.2.1.length:Int)&&(Nu h&&(gG h).all (λx=>cq x 0 1000000000000)))))))
structure CX (h:Host):Prop where
 a1:h.1.length≤1000000000
 a2:h.2.1.length≤1000000000
 t1:h.2.2.1.2.2.1.length≤1000000000
 t2:h.2.2.1.2.1.2.2.2.length+(dQ h.2.2.1.2.2.1).length≤1000000000
 f1:h.2.2.2.2.2.2.2.1.2.2.length≤1000000000
 s1:h.2.2.2.2.2.2.2.2.1.1.length≤1000000000
 s2:h.2.2.2.2.2.2.2.2.1.2.1.length≤1000000000
 s3:h.2.2.2.2.2.2.2.2.1.2.2.2.length≤1000000000
 p1:∀p∈h.2.2.2.2.1,p.2.2.2.length≤1000000000
theorem qY {h:Host}(l:tP h=true):h.2.2.2.1.length≤2∧h.2.2.2.2.1.length=h.2.2.2.1.length∧h.2.2.2.2.2.1.length=h.2.2.2.1.length∧h.2.2.2.2.2.2.1.length=h.2.2.2.1.length:=by unfold tP at l;simp only[aj,cv,bj]at l;omega
theorem IL {R:Type}{T:(Int→Option R)→Int→Option R}{fin hit:Option R}{h:Host}(l:tP h=true)(hs:∀i (hi:i<h.2.2.2.1.length) nx,T nx (i:Int)=cond (!(HP h.2.2.2.1[i]&&(fC (h.2.2.2.2.1[i]'((qY l).2.1▸hi))&&gQ (h.2.2.2.2.2.1[i]'((qY l).2.2.1▸hi))))) hit (nx ((i+1:Nat):Int)))(hf:∀nx,T nx (h.2.2.2.1.length:Int)=fin):aJ T fuel 0=cond (Nu h) fin hit:=by
 have hl:=qY l;rw[eO (fin:=fin) (hit:=hit) (λi=>h.2.2.2.1[i]?.all HP&&(h.2.2.2.2.1[i]?.all fC&&h.2.2.2.2.2.1[i]?.all gQ)) h.2.2.2.1.length (by omega) ?hs hf]
 case hs=>
  intro i nx hi
  rw[hs i hi,List.getElem?_eq_getElem hi,List.getElem?_eq_getElem (hl.2.1▸hi),List.getElem?_eq_getElem (hl.2.2.1▸hi)]
  rfl
 rw[Qq,Qq,Dw];have e1:=Dw h.2.2.2.2.1 fC;have e2:=Dw h.2.2.2.2.2.1 gQ;rw[hl.2.1]at e1;rw[hl.2.2.1]at e2;rw[e1,e2];rfl
theorem DP {R:Type}{T:(Int→Option R)→Int→Option R}{fin hit:Option R}(h:Host)(hs:∀i (hi:i<(gG h).length) nx,T nx (i:Int)=cond (!(cq (gG h)[i] 0 1000000000000)) hit (nx ((i+1:Nat):Int)))(hf:∀nx,T nx ((gG h).length:Int)=fin):aJ T fuel 0=cond ((gG h).all (λx=>cq x 0 1000000000000)) fin hit:=py (λx=>cq x 0 1000000000000) (gG h) (by simp[gG]) hs hf
theorem xl (h:Host)(z:CX h):mS h=some (gn h):=by
 unfold mS gn;simp only[yp _ z.a1,CE _ z.a2,afy _ z.t1 z.t2,BE _ z.f1,K8 _ _ z.s1 z.s2 z.s3,cc,ab,ba];cases eL h.1 with|false=>rfl|true=>?_
 cases ei h.2.1 with|false=>rfl|true=>?_
 cases ZE h.2.2.1 with|false=>rfl|true=>?_
 cases m5 h.2.2.2.2.2.2.2.1 with|false=>rfl|true=>?_
 simp only[al,af,cT,bne];rw[show(!cq (h.2.2.2.1.length:Int) 1 2||(!((h.2.2.2.2.1.length:Int)==(h.2.2.2.1.length:Int))||(!((h.2.2.2.2.2.1.length:Int)==(h.2.2.2.1.length:Int))||(!((h.2.2.2.2.2.2.1.length:Int)==(h.2.2.2.1.length:Int))|| !kt h.2.2.2.2.2.2.2.2.1 (h.2.2.2.1.length:Int)))))= !(tP h&&kt h.2.2.2.2.2.2.2.2.1 (h.2.2.2.1.length:Int)) by unfold tP;simp only[fF,Bool.or_assoc]];cases hl:tP h with|false=>rfl|true=>?_
 cases kt h.2.2.2.2.2.2.2.2.1 (h.2.2.2.1.length:Int)with|false=>rfl|true=>?_
 have hL:=qY hl;simp only[Bool.and_true,al,af,bn];rw[IL (h:=h) (hit:=some false) (fin:=some ((gG h).all (λx=>cq x 0 1000000000000))) hl ?hs ?hf]
 case hs=>
  intro i hi nx
  simp only[rq]
  rw[ai (by omega),aU hi,aU (hL.2.1▸hi),aU (hL.2.2.1▸hi),wrap64 (n:=(i:Int)+1) (by omega) (by omega)]
  simp only[ah,ab,P0,rU,vF _ (z.p1 _ (aW _)),ba,cT,fF]
  rfl
 case hf=>
  intro nx
  simp only[rq]
  rw[ae (by omega)]
  simp only[af]
  refine(DP (fin:=some true) (hit:=some false) h ?_ ?_).trans ?_
  ·intro i hi nx
   simp only[oU]
   have hi':i<5:=hi
   change (bif decide ((i:Int)<5) then aa (idx (gG h) (i:Int)) _ else _)=_
   rw[ai (by omega),aU hi,wrap64 (n:=(i:Int)+1) (by omega) (by omega),ab,cc]
   rfl
  ·intro nx
   simp only[oU]
   rw[ae (by simp[gG])];rfl
  ·cases (gG h).all (λx=>cq x 0 1000000000000)<;>rfl
 cases Nu h<;>rfl
theorem Cc (h:Host)(z:CX h):mn h=some (gn h):=by
 unfold mn gn;simp only[Bu _ z.a1,Cd _ z.a2,abo _ z.t1 z.t2,Bt _ z.f1,Ku _ _ z.s1 z.s2 z.s3,cz,ab,ba];cases eL h.1 with|false=>rfl|true=>?_
 cases ei h.2.1 with|false=>rfl|true=>?_
 cases ZE h.2.2.1 with|false=>rfl|true=>?_
 cases m5 h.2.2.2.2.2.2.2.1 with|false=>rfl|true=>?_
 simp only[al,af,cT,bne];rw[show(!cq (h.2.2.2.1.length:Int) 1 2||(!((h.2.2.2.2.1.length:Int)==(h.2.2.2.1.length:Int))||(!((h.2.2.2.2.2.1.length:Int)==(h.2.2.2.1.length:Int))|| !((h.2.2.2.2.2.2.1.length:Int)==(h.2.2.2.1.length:Int)))))= !(tP h) by unfold tP;simp only[fF]];cases hl:tP h with|false=>rfl|true=>?_
 have hL:=qY hl;simp only[al,af,bn];rw[IL (h:=h) (hit:=some false) (fin:=some ((gG h).all (λx=>cq x 0 1000000000000)&&kt h.2.2.2.2.2.2.2.2.1 (h.2.2.2.1.length:Int))) hl ?hs ?hf]
 case hs=>
  intro i hi nx
  simp only[p9]
  rw[ai (by omega),aU hi,aU (hL.2.1▸hi),aU (hL.2.2.1▸hi),wrap64 (n:=(i:Int)+1) (by omega) (by omega)]
  simp only[ah,ab,O9,u3,u1 _ (z.p1 _ (aW _)),ba,cT,fF]
  rfl
 case hf=>
  intro nx
  simp only[p9]
  rw[ae (by omega)]
  simp only[af]
  refine(DP (fin:=some (kt h.2.2.2.2.2.2.2.2.1 (h.2.2.2.1.length:Int))) (hit:=some false) h ?_ ?_).trans ?_
  ·intro i hi nx
   simp only[oI]
   have hi':i<5:=hi
   change (bif decide ((i:Int)<5) then aa (idx (gG h) (i:Int)) _ else _)=_
   rw[ai (by omega),aU hi,wrap64 (n:=(i:Int)+1) (by omega) (by omega),ab,cz]
   rfl
  ·intro nx
   simp only[oI]
   rw[ae (by simp[gG])];rfl
  ·cases (gG h).all (λx=>cq x 0 1000000000000)<;>rfl
 cases Nu h<;>cases kt h.2.2.2.2.2.2.2.2.1 (h.2.2.2.1.length:Int)<;>cases (gG h).all (λx=>cq x 0 1000000000000)<;>rfl
theorem fE {n:Nat}(h:n<9223372036854775808):ao (n:Int)=(n:Int):=wrap64 (by omega) (by omega)
theorem CV {n:Nat}(h:n<4294967296):IntKind.wrap .u32 (n:Int)=(n:Int):=by simp only[ao,fg,IntKind.wrap,IntKind.bits,IntKind.signed];simp;omega
theorem iy (b:UInt8):b.toNat<256:=b.toNat_lt
def cZ (v:Int):Bytes:=(bK v).getD []
theorem jf (v:Int):bK v=some (cZ v):=by
 unfold cZ;have:∃x,bK v=some x:=by simp only[bK,cc,ab];cases cq v 0 65535<;>exact⟨_,rfl⟩
 obtain⟨x,hx⟩:=this;rw[hx];rfl
theorem mm (v:Int):bQ v=some (cZ v):=jf v
theorem Qm (v:Int):(cZ v).length=bif cq v 0 65535 then 2 else 0:=by have h:=jf v;simp only[bK,cc,ab]at h;cases hb:cq v 0 65535<;>rw[hb]at h<;>(rw[←cp h];rfl)
theorem bu (v:Int):(cZ v).length≤2:=by rw[Qm];cases cq v 0 65535<;>simp
def ez (v:Int):Bytes:=(cV v).getD []
theorem jg (v:Int):cV v=some (ez v):=by
 unfold ez;have:∃x,cV v=some x:=by simp only[cV,cc,ab];cases cq v 0 4294967295<;>exact⟨_,rfl⟩
 obtain⟨x,hx⟩:=this;rw[hx];rfl
theorem po (v:Int):dC v=some (ez v):=jg v
theorem Qn (v:Int):(ez v).length=bif cq v 0 4294967295 then 4 else 0:=by have h:=jg v;simp only[cV,cc,ab]at h;cases hb:cq v 0 4294967295<;>rw[hb]at h<;>(rw[←cp h];rfl)
theorem cy (v:Int):(ez v).length≤4:=by rw[Qn];cases cq v 0 4294967295<;>simp
def bX (s:Bytes)(i:Nat):Nat:=(s.getD i 0).toNat
theorem db (s:Bytes)(i:Nat):bX s i<256:=iy _
theorem k5 {s:Bytes}{i:Nat}(h:i<s.length):∃x,idx s (i:Int)=some x∧x.toNat=bX s i:=⟨s[i],aU h,by rw[bX,cD h]⟩
def dA (s:Bytes)(a n:Int):Bool:=decide (0≤a∧a+n≤(s.length:Int))
theorem zQ (s:Bytes)(a n:Int)(h:s.length≤1000000000)(hn:0≤n):kq s a n=some (dA s a n):=by unfold kq dA;by_cases h0:0≤a;by_cases h1:a≤(s.length:Int);rw[ai (show a≥0 from h0),ai h1,wrap64 (by omega) (by omega)];simp only[ah,ab];congr 1;rw[decide_eq_decide];omega;rw[ai (show a≥0 from h0),ae h1,ae (show¬(0≤a∧a+n≤(s.length:Int)) by omega)];rfl;rw[ae (show¬a≥0 from h0),ae (show¬(0≤a∧a+n≤(s.length:Int)) by omega)];rfl
def cu (s:Bytes)(a:Int):Int:=bif dA s a 2 then((bX s a.toNat*256+bX s (a.toNat+1):Nat):Int) else-1
def dK (s:Bytes)(a:Int):Int:=bif dA s a 4 then(((bX s a.toNat*256+bX s (a.toNat+1))*65536+(bX s (a.toNat+2)*256+bX s (a.toNat+3)):Nat):Int) else-1
theorem pO (s:Bytes)(a:Int)(h:s.length≤1000000000):dr s a=some (cu s a):=by unfold dr cu;rw[zQ s a 2 h (by omega),ab];cases hw:dA s a 2 with|false=>rfl|true=>simp only[dA,aP]at hw;obtain⟨n,rfl⟩:=aO hw.1;obtain⟨x,hx,ex⟩:=k5 (s:=s) (i:=n) (by omega);obtain⟨y,hy,ey⟩:=k5 (s:=s) (i:=n+1) (by omega);have hxl:=db s n;have hyl:=db s (n+1);rw[wrap64 (n:=(n:Int)+1) (by omega) (by omega),hx,show(n:Int)+1=((n+1:Nat):Int) by omega,hy];simp only[al,af,ab,ax,ah];rw[aq (by omega),ex,ey,fE (by omega),fE (by omega)];have e8:min (Int.toNat 8) (IntKind.bits .i64)=8:=rfl;rw[e8,wrap64 (n:=((bX s n:Nat):Int)*2^8) (by omega) (by omega),wrap64 (by omega) (by omega)];congr 1;all_goals omega
theorem rT (s:Bytes)(a:Int)(h:s.length≤1000000000):eK s a=some (dK s a):=by
 unfold eK dK;rw[zQ s a 4 h (by omega),ab];cases hw:dA s a 4 with
 |false=>rfl
 |true=>
  simp only[dA,aP]at hw;obtain⟨n,rfl⟩:=aO hw.1;have w1:dA s (n:Int) 2=true:=by simp only[dA,aP];omega
  have w2:dA s ((n:Int)+2) 2=true:=by simp only[dA,aP];omega
  have b0:=db s n;have b1:=db s (n+1);have b2:=db s (n+2);have b3:=db s (n+3);rw[wrap64 (n:=(n:Int)+2) (by omega) (by omega),pO s _ h,pO s _ h];simp only[al,af,ab,ah,cu,w1,w2,ax];rw[aq (by omega),show((n:Int)+2).toNat=n+2 by omega,show n+2+1=n+3 by omega];have e8:min (Int.toNat 16) (IntKind.bits .i64)=16:=rfl;rw[e8,wrap64 (n:=((bX s n*256+bX s (n+1):Nat):Int)*2^16) (by omega) (by omega),wrap64 (by omega) (by omega)];congr 1;all_goals omega
theorem au8 (a b:Nat)(ha:a<9223372036854775808)(hb:b<9223372036854775808):BitVec.toNat (BitVec.ofInt (IntKind.bits .i64) (a:Int)|||BitVec.ofInt (IntKind.bits .i64) (b:Int))=a|||b:=by show(BitVec.ofInt 64 (a:Int)|||BitVec.ofInt 64 (b:Int)).toNat=_;rw[cw,cw,BitVec.toNat_or,cG,cG,cM (by omega),cM (by omega)]
theorem ZM (a b:Nat)(ha:a<9223372036854775808)(hb:b<9223372036854775808):BitVec.toNat (BitVec.ofInt (IntKind.bits .i64) (a:Int)&&&BitVec.ofInt (IntKind.bits .i64) (b:Int))=a&&&b:=by show(BitVec.ofInt 64 (a:Int)&&&BitVec.ofInt 64 (b:Int)).toNat=_;rw[cw,cw,BitVec.toNat_and,cG,cG,cM (by omega),cM (by omega)]
theorem RR (a b:Nat)(ha:a<9223372036854775808)(hb:b<9223372036854775808):BitVec.toNat (BitVec.ofInt (IntKind.bits .i64) (a:Int)^^^BitVec.ofInt (IntKind.bits .i64) (b:Int))=a^^^b:=by show(BitVec.ofInt 64 (a:Int)^^^BitVec.ofInt 64 (b:Int)).toNat=_;rw[cw,cw,BitVec.toNat_xor,cG,cG,cM (by omega),cM (by omega)]
theorem ahb (a b:Nat)(ha:a<4294967296)(hb:b<4294967296):BitVec.toNat (BitVec.ofInt (IntKind.bits .u32) (a:Int)&&&BitVec.ofInt (IntKind.bits .u32) (b:Int))=a&&&b:=by show(BitVec.ofInt 32 (a:Int)&&&BitVec.ofInt 32 (b:Int)).toNat=_;rw[cw,cw,BitVec.toNat_and,cG,cG,cM (by omega),cM (by omega)]
theorem aaJ (a b:Nat)(ha:a<4294967296)(hb:b<4294967296):BitVec.toNat (BitVec.ofInt (IntKind.bits .u32) (a:Int)^^^BitVec.ofInt (IntKind.bits .u32) (b:Int))=a^^^b:=by show(BitVec.ofInt 32 (a:Int)^^^BitVec.ofInt 32 (b:Int)).toNat=_;rw[cw,cw,BitVec.toNat_xor,cG,cG,cM (by omega),cM (by omega)]
theorem BA (x k y:Nat)(hy:y<2^k)(h:2^k*x+y<9223372036854775808):ao (BitVec.toNat (BitVec.ofInt (IntKind.bits .i64) ((2^k*x:Nat):Int)|||BitVec.ofInt (IntKind.bits .i64) (y:Int)):Int)=((2^k*x+y:Nat):Int):=by rw[au8 _ _ (by omega) (by omega),←Nat.two_pow_add_eq_or_of_lt hy];exact fE h
theorem D3 (s:Bytes)(a n:Int):(cond (decide (a<0)) (some true) (some (decide (a>(s.length:Int)-n))))=some (!dA s a n):=by cases hw:dA s a n with|true=>simp only[dA,aP]at hw;rw[ae (show¬a<0 by omega),ae (show¬a>(s.length:Int)-n by omega)];rfl|false=>simp only[dA,decide_eq_false_iff_not]at hw;by_cases h0:a<0;rw[ai h0];rfl;rw[ae h0,ai (show a>(s.length:Int)-n by omega)];rfl
theorem wZ (s:Bytes)(a:Int)(h:s.length≤1000000000):dL s a=some (cu s a):=by unfold dL cu;rw[wrap64 (n:=(s.length:Int)-2) (by omega) (by omega)];rw[D3,ab];cases hw:dA s a 2 with|false=>rfl|true=>simp only[dA,aP]at hw;obtain⟨n,rfl⟩:=aO hw.1;obtain⟨x,hx,ex⟩:=k5 (s:=s) (i:=n) (by omega);obtain⟨y,hy,ey⟩:=k5 (s:=s) (i:=n+1) (by omega);have hxl:=db s n;have hyl:=db s (n+1);rw[wrap64 (n:=(n:Int)+1) (by omega) (by omega),hx,show(n:Int)+1=((n+1:Nat):Int) by omega,hy];simp only[al,af,ah,ab,ax];rw[aq (by omega),ex,ey,fE (n:=bX s n) (by omega),fE (n:=bX s (n+1)) (by omega)];have e8:min (Int.toNat 8) (IntKind.bits .i64)=8:=rfl;rw[e8,show((bX s n:Nat):Int)*2^8=((2^8*bX s n:Nat):Int) by omega,fE (n:=2^8*bX s n) (by omega),BA (bX s n) 8 (bX s (n+1)) (by omega) (by omega)];congr 1;all_goals omega
theorem uM (s:Bytes)(a:Int)(h:s.length≤1000000000):fy s a=some (dK s a):=by
 unfold fy dK;rw[wrap64 (n:=(s.length:Int)-4) (by omega) (by omega)];rw[D3,ab];cases hw:dA s a 4 with
 |false=>rfl
 |true=>
  simp only[dA,aP]at hw;obtain⟨n,rfl⟩:=aO hw.1;obtain⟨x0,h0,e0⟩:=k5 (s:=s) (i:=n) (by omega);obtain⟨x1,h1,e1⟩:=k5 (s:=s) (i:=n+1) (by omega);obtain⟨x2,h2,e2⟩:=k5 (s:=s) (i:=n+2) (by omega);obtain⟨x3,h3,e3⟩:=k5 (s:=s) (i:=n+3) (by omega);have b0:=db s n;have b1:=db s (n+1);have b2:=db s (n+2);have b3:=db s (n+3)
  rw[wrap64 (n:=(n:Int)+1) (by omega) (by omega),wrap64 (n:=(n:Int)+2) (by omega) (by omega),wrap64 (n:=(n:Int)+3) (by omega) (by omega),h0,show(n:Int)+1=((n+1:Nat):Int) by omega,h1,
   show(n:Int)+2=((n+2:Nat):Int) by omega,h2,show(n:Int)+3=((n+3:Nat):Int) by omega,h3]
  simp only[al,af,ah,ab,ax];rw[aq (by omega),aq (by omega),aq (by omega),e0,e1,e2,e3];generalize bX s n=p0 at*;generalize bX s (n+1)=p1 at*;generalize bX s (n+2)=p2 at*;generalize bX s (n+3)=p3 at*;have f24:min (Int.toNat 24) (IntKind.bits .i64)=24:=rfl;have f16:min (Int.toNat 16) (IntKind.bits .i64)=16:=rfl;have f8:min (Int.toNat 8) (IntKind.bits .i64)=8:=rfl
  rw[fE (n:=p0) (by omega),fE (n:=p1) (by omega),fE (n:=p2) (by omega),fE (n:=p3) (by omega),f24,f16,f8,
   show((p0:Nat):Int)*2^24=((2^24*p0:Nat):Int) by omega,show((p1:Nat):Int)*2^16=((2^16*p1:Nat):Int) by omega,show((p2:Nat):Int)*2^8=((2^8*p2:Nat):Int) by omega,
   fE (n:=2^24*p0) (by omega),fE (n:=2^16*p1) (by omega),fE (n:=2^8*p2) (by omega),BA p0 24 (2^16*p1) (by omega) (by omega),
   show 2^24*p0+2^16*p1=2^16*(2^8*p0+p1) by omega,BA _ 16 (2^8*p2) (by omega) (by omega),
   show 2^16*(2^8*p0+p1)+2^8*p2=2^8*(2^8*(2^8*p0+p1)+p2) by omega,BA _ 8 p3 (by omega) (by omega)]
  congr 1;all_goals omega
def Bk (c:Nat):Nat:=if c%2=1 then(c/2)^^^3988292384 else c/2
def pR:Nat→Nat→Nat
 |0,c=>c
 |n+1,c=>Bk (pR n c)
def ank (c:Nat)(s:Bytes):Nat:=s.foldl (λc b=>pR 8 (c^^^b.toNat)) c
def LH (s:Bytes):Int:=4294967295-(ank 4294967295 s:Int)
theorem wQ {a b:Nat}(ha:a<4294967296)(hb:b<4294967296):a^^^b<4294967296:=Nat.xor_lt_two_pow (n:=32) ha hb
theorem R6 {c:Nat}(h:c<4294967296):Bk c<4294967296:=by unfold Bk;split;exact wQ (by omega) (by omega);omega
theorem BR {c:Nat}(h:c<4294967296):∀n,pR n c<4294967296
 |0=>h
 |n+1=>R6 (BR h n)
theorem VN {R:Type}(k0:Int→Int→Option R)(k:Int→Option R)(hk:∀x y,k0 x y=k x)(v0:Bytes)(v4:Int)(c:Nat)(h:c<4294967296):aJ (lF k0 v0 v4) fuel ((c:Int),0)=k (pR 8 c:Int):=by
 have hfu:=cC
 have key:=Ak (T:=lF k0 v0 v4) 8 (λ(_:Unit) i=>((pR i c:Int),(i:Int))) (λ_ s nx=>nx s) (λ_=>k (pR 8 c:Int))
  (λi s nx hi=>by
   have hc:=BR h i;simp only[lF];have a1:=ZM (pR i c) 1 (by omega) (by omega);have x1:=RR (pR i c/2) 3988292384 (by omega) (by omega);simp only[bS]at a1
   rw[ai (by omega),ah,a1,Nat.and_one_is_mod,
    show min (Int.toNat 1) (IntKind.bits .i64)=1 from rfl,show Int.fdiv ((pR i c:Nat):Int) (2^1)=((pR i c/2:Nat):Int) from by rw[Int.fdiv_eq_ediv_of_nonneg _ (by omega)];rfl,
    show(3988292384:Int)=((3988292384:Nat):Int) from rfl,x1,
    fE (n:=pR i c%2) (by omega),fE (n:=(pR i c/2)^^^3988292384) (by have:=wQ (a:=pR i c/2) (b:=3988292384) (by omega) (by omega);omega),aq (by omega),aq (by omega),wrap64 (n:=(i:Int)+1) (by omega) (by omega)]
   show _=nx ((Bk (pR i c):Int),((i+1:Nat):Int));unfold Bk;by_cases hp:pR i c%2=1;rw[hp,ay rfl];rfl;have h0:pR i c%2=0:=by omega
   rw[h0,aq (by omega)];rfl)
  (λs nx=>by simp only[lF];rw[ae (by omega),af,hk])
  fuel 0 () (by omega) (by omega)
 refine key.trans ?_;rfl
theorem UI {R:Type}(k0:Int→Int→Option R)(k:Int→Option R)(hk:∀x y,k0 x y=k x)(v0:Bytes)(v4:Int)(c:Nat)(h:c<4294967296):aJ (lu k0 v0 v4) fuel ((c:Int),0)=k (pR 8 c:Int):=by
 have hfu:=cC
 have key:=Ak (T:=lu k0 v0 v4) 8 (λ(_:Unit) i=>((pR i c:Int),(i:Int))) (λ_ s nx=>nx s) (λ_=>k (pR 8 c:Int))
  (λi s nx hi=>by
   have hc:=BR h i;simp only[lu];have a1:=ahb (pR i c) 1 (by omega) (by omega);have x1:=aaJ (pR i c/2) 3988292384 (by omega) (by omega);simp only[bS]at a1
   rw[ai (by omega),ah,a1,Nat.and_one_is_mod,
    show min (Int.toNat 1) (IntKind.bits .u32)=1 from rfl,show Int.fdiv ((pR i c:Nat):Int) (2^1)=((pR i c/2:Nat):Int) from by rw[Int.fdiv_eq_ediv_of_nonneg _ (by omega)];rfl,
    show(3988292384:Int)=((3988292384:Nat):Int) from rfl,x1,
    CV (n:=pR i c%2) (by omega),CV (n:=(pR i c/2)^^^3988292384) (wQ (by omega) (by omega)),aq (by omega),wrap64 (n:=(i:Int)+1) (by omega) (by omega)]
   show _=nx ((Bk (pR i c):Int),((i+1:Nat):Int));unfold Bk;by_cases hp:pR i c%2=1;rw[hp,ay rfl];rfl;have h0:pR i c%2=0:=by omega
   rw[h0,aq (by omega)];rfl)
  (λs nx=>by simp only[lu];rw[ae (by omega),af,hk])
  fuel 0 () (by omega) (by omega)
 refine key.trans ?_;rfl
theorem Zk (s:Bytes)(h:s.length≤1000000000):yq s=some (LH s):=by
 unfold yq;have:=vD (T:=oz (λ(y4:Int) (_:Int)=>some (ao (4294967295-y4))) s) s (λ(c:Nat) i=>((c:Int),(i:Int))) (λ_ c=>c<4294967296) (λb c=> .ok (pR 8 (c^^^b.toNat))) (λc=>some (4294967295-(c:Int))) (by omega) (λi hi c nx hI=>?hs) (λi hi c c' hI hg=>?hn) (λc nx hI=>?hf) 4294967295 (by omega)
 case hs=>
  have hb:=iy s[i]
  simp only[oz]
  rw[ai (by omega),aU hi,ah,ab,fE (n:=s[i].toNat) (by omega),RR c s[i].toNat (by omega) (by omega)]
  have hx:=wQ hI (show s[i].toNat<4294967296 by omega)
  rw[fE (by omega),VN _ (λy=>nx (y,(i:Int)+1)) (λx y=>by rw[wrap64 (by omega) (by omega)]) _ _ _ hx];rfl
 case hn=>
  cases hg
  exact BR (wQ hI (by have:=iy s[i];omega)) 8
 case hf=>
  simp only[oz]
  rw[ae (by omega),af,wrap64 (by omega) (by omega)]
 rw[Cx]at this;exact this
theorem not_xor (c:Nat)(h:c<4294967296):BitVec.toNat (BitVec.ofInt (IntKind.bits .u32) (IntKind.max .u32)^^^BitVec.ofInt (IntKind.bits .u32) (c:Int))=4294967295-c:=by show(BitVec.ofInt 32 4294967295^^^BitVec.ofInt 32 (c:Int)).toNat=_;rw[show BitVec.ofInt 32 4294967295=BitVec.allOnes 32 by decide,cw,BitVec.allOnes_xor,BitVec.toNat_not,cG,cM (show c<2^32 by omega)]
theorem YH (s:Bytes)(h:s.length≤1000000000):xG s=some (LH s):=by
 unfold xG;have:=vD (T:=n8 (λ(y4:Int) (_:Int)=>some (ao (IntKind.wrap .u32 (BitVec.toNat (BitVec.ofInt (IntKind.bits .u32) (IntKind.max .u32)^^^BitVec.ofInt (IntKind.bits .u32) y4))))) s) s (λ(c:Nat) i=>((c:Int),(i:Int))) (λ_ c=>c<4294967296) (λb c=> .ok (pR 8 (c^^^b.toNat))) (λc=>some (4294967295-(c:Int))) (by omega) (λi hi c nx hI=>?hs) (λi hi c c' hI hg=>?hn) (λc nx hI=>?hf) 4294967295 (by omega)
 case hs=>
  have hb:=iy s[i]
  simp only[n8]
  rw[ai (by omega),aU hi,ah,ab,CV (n:=s[i].toNat) (by omega),aaJ c s[i].toNat (by omega) (by omega)]
  have hx:=wQ hI (show s[i].toNat<4294967296 by omega)
  rw[CV hx,UI _ (λy=>nx (y,(i:Int)+1)) (λx y=>by rw[wrap64 (by omega) (by omega)]) _ _ _ hx];rfl
 case hn=>
  cases hg
  exact BR (wQ hI (by have:=iy s[i];omega)) 8
 case hf=>
  simp only[n8]
  rw[ae (by omega),af,not_xor c hI,CV (by omega),fE (by omega)]
  congr 1
  all_goals omega
 rw[Cx]at this;exact this
theorem ES (s:Bytes):bytesOf (ch s)=s:=by
 unfold bytesOf ch;rw[List.map_map];conv=>rhs;rw[←List.map_id s]
 refine List.map_congr_left λb _=>?_;simp
theorem U7 (s t:Bytes):ch (s++t)=ch s++ch t:=List.map_append
theorem Cl (s:Bytes):(ch s).length=s.length:=cL ..
theorem EA {α:Type}(l:List α)(i j:Nat)(h:i≤j)(h2:j≤l.length):sub l (i:Int) (j:Int)=some ((l.drop i).take (j-i)):=by unfold sub;rw[ay (by omega)];simp[List.take_drop,Nat.add_sub_cancel' h]
theorem I5 (a k:Nat):Int.tdiv (a:Int) (k:Int)=((a/k:Nat):Int):=(Int.ofNat_tdiv a k).symm
theorem Hf (a k:Nat):Int.tmod (a:Int) (k:Int)=((a%k:Nat):Int):=(Int.ofNat_tmod a k).symm
theorem mem_iff {m:List Bytes}:eL m=true↔(∀x∈m,x.length=128)∧m.length≤64:=by simp only[eL,aj,bd,bj,aP];constructor;rintro⟨h1,h2⟩;exact⟨λx hx=>by have:=h1 x hx;omega,by omega⟩;rintro⟨h1,h2⟩;exact⟨λx hx=>by have:=h1 x hx;omega,by omega⟩
theorem Mo:∀{m:List Bytes},(∀x∈m,x.length=128)→m.flatten.length=128*m.length
 |[],_=>rfl
 |x::m,h=>by have:=Mo (m:=m) (λy hy=>h y (by simp[hy]));have:=h x (by simp);simp only[List.flatten_cons,ak,a7];omega
theorem Ij:∀{m:List Bytes}(_:∀x∈m,x.length=128)(p:Nat)(hp:p<m.length)(o c:Nat),o+c≤128→(m.flatten.drop (128*p+o)).take c=(m[p].drop o).take c
 |x::m,h,0,hp,o,c,ho=>by have:=h x (by simp);simp only[List.flatten_cons,List.getElem_cons_zero];rw[List.drop_append_of_le_length (by omega),List.take_append_of_le_length (by simp;omega)];simp
 |x::m,h,p+1,hp,o,c,ho=>by have hx:=h x (by simp);simp only[List.flatten_cons,List.getElem_cons_succ];rw[show 128*(p+1)+o=x.length+(128*p+o) by omega,List.drop_length_add_append];exact Ij (m:=m) (λy hy=>h y (by simp[hy])) p (by simpa using hp) o c ho
def tQ (m:List Bytes)(a n:Nat):Bytes:=(m.flatten.drop a).take n
theorem xf {m:List Bytes}{a n:Nat}(h:eL m=true)(hn:a+n≤128*m.length):(tQ m a n).length=n:=by have:=Mo (mem_iff.1 h).1;simp only[tQ,bt,aV];omega
theorem VJ (m:List Bytes)(a n:Nat):(tQ m a n).length≤n:=by simp[tQ];omega
theorem IK (m:List Bytes)(a k c:Nat):tQ m a (k+c)=tQ m a k++tQ m (a+k) c:=by unfold tQ;rw[List.take_add,du]
theorem GQ {m:List Bytes}(h:eL m=true){p:Nat}(hp:p<m.length){o c:Nat}(ho:o+c≤128){a:Nat}(ha:a=128*p+o):(m[p].drop o).take c=tQ m a c:=by subst ha;exact(Ij (mem_iff.1 h).1 p hp o c ho).symm
def dX (m:List Bytes)(a n:Int):Bool:=eL m&&decide (0≤n∧0≤a∧a+n≤128*(m.length:Int))
theorem zy (m:List Bytes)(a n:Int)(h:m.length≤1000000000):pD m a n=some (dX m a n):=by unfold pD dX;rw[Bu m h,ab,wrap64 (n:=(m.length:Int)*128) (by omega) (by omega)];cases hm:eL m with|false=>rfl|true=>simp only[ah,bn];by_cases h1:n≥0;by_cases h2:n≤(m.length:Int)*128;rw[wrap64 (n:=(m.length:Int)*128-n) (by omega) (by omega)];by_cases h3:a≥0;simp only[ai h1,ai h2,ai h3,ah,ab];exact congrArg some (decide_eq_decide.2 (by omega));simp only[ai h1,ai h2,ae h3,ah,af,ab];exact congrArg some (ae (by omega)).symm;simp only[ai h1,ae h2,ah,af,ab];exact congrArg some (ae (by omega)).symm;simp only[ae h1,af,ab];exact congrArg some (ae (by omega)).symm
theorem zR (m:List Bytes)(a n:Int)(h:m.length≤1000000000):ia m a n=some (dX m a n):=by unfold ia dX;rw[yp m h,ab,wrap64 (n:=128*(m.length:Int)) (by omega) (by omega)];cases hm:eL m with|false=>rfl|true=>simp only[ah,bn];by_cases h1:n≥0;by_cases h3:a≥0;by_cases h2:a≤128*(m.length:Int);rw[wrap64 (n:=128*(m.length:Int)-a) (by omega) (by omega)];simp only[ai h1,ai h2,ai h3,ah,ab];exact congrArg some (decide_eq_decide.2 (by omega));simp only[ai h1,ae h2,ai h3,ah,af,ab];exact congrArg some (ae (by omega)).symm;simp only[ai h1,ae h3,ah,af,ab];exact congrArg some (ae (by omega)).symm;simp only[ae h1,af,ab];exact congrArg some (ae (by omega)).symm
theorem Cf {R:Type}{m:List Bytes}(hm:eL m=true)(K:Int→List Int→Option R):∀(n r k a f:Nat),r≤n→n<f→a+k+r≤128*m.length→
 aJ (hC K ((k+r:Nat):Int) m) f (((a+k:Nat):Int),ch (tQ m a k))=K ((a+k+r:Nat):Int) (ch (tQ m a (k+r)))
 |n,r,k,a,0,_,hf,_=>by omega
 |n,0,k,a,f+1,hr,hf,hb=>by rw[aJ];simp only[hC,Cl,xf hm (show a+k≤128*m.length by omega),ck];rw[ae (by omega),af]
 |0,r+1,k,a,f+1,hr,hf,hb=>by omega
 |n+1,r+1,k,a,f+1,hr,hf,hb=>by
  have h64:=(mem_iff.1 hm).2;have hl:=xf hm (show a+k≤128*m.length by omega);obtain⟨p,hp⟩:∃p,(a+k)/128=p:=⟨_,rfl⟩
  obtain⟨o,ho⟩:∃o,(a+k)%128=o:=⟨_,rfl⟩
  have hpo:a+k=128*p+o:=by omega
  have ho2:o<128:=by omega
  have hpl:p<m.length:=by omega
  obtain⟨c,hc⟩:∃c,min (r+1) (128-o)=c:=⟨_,rfl⟩
  have hpg:=(mem_iff.1 hm).1 _ (aW hpl);have e1:Int.tdiv ((a+k:Nat):Int) 128=(p:Int):=by rw[←hp];exact I5 (a+k) 128
  have e2:Int.tmod ((a+k:Nat):Int) 128=(o:Int):=by rw[←ho];exact Hf (a+k) 128
  have key:=Cf hm K n (r+1-c) (k+c) a f (by omega) (by omega) (by omega);rw[aJ];simp only[hC,Cl,hl,e1,e2];rw[ai (by omega),ah,aq (by omega),wrap64 (n:=(p:Int)) (by omega) (by omega),aU hpl,ab,aq (by omega)];rw[wrap64 (n:=(o:Int)+((k+(r+1):Nat):Int)) (by omega) (by omega),wrap64 (n:=(o:Int)+((k+(r+1):Nat):Int)-(k:Int)) (by omega) (by omega)];rw[show(if(o:Int)+((k+(r+1):Nat):Int)-(k:Int)<128 then(o:Int)+((k+(r+1):Nat):Int)-(k:Int) else 128)=((o+c:Nat):Int) by split<;>omega];rw[EA _ _ _ (by omega) (by omega),ab,show o+c-o=c by omega,GQ hm hpl (show o+c≤128 by omega) hpo];have hl2:=xf hm (show a+k+c≤128*m.length by omega);rw[hl2,aK (by omega),wrap64 (by omega) (by omega),←U7,←IK];rw[show((a+k:Nat):Int)+(c:Int)=((a+(k+c):Nat):Int) by omega];rw[show k+c+(r+1-c)=k+(r+1) by omega,show a+(k+c)+(r+1-c)=a+k+(r+1) by omega]at key;exact key
theorem U1 (m:List Bytes)(a n:Int)(h:m.length≤1000000000):k9 m a n=some (bif dX m a n then(tQ m a.toNat n.toNat,true) else([],false)):=by have hfu:=cC;unfold k9;rw[zy m a n h,ab];cases hw:dX m a n with|false=>rfl|true=>simp only[dX,aj,aP]at hw;obtain⟨hm,h1,h2,h3⟩:=hw;have h64:=(mem_iff.1 hm).2;simp only[al,af,ah];rw[ay (by omega),aK (by omega)];obtain⟨a,rfl⟩:=aO h2;obtain⟨n,rfl⟩:=aO h1;have:=Cf hm (λ(y4:Int) (y5:List Int)=>some (bytesOf y5,true)) n n 0 a fuel (by omega) (by omega) (by omega);rw[bJ,ck]at this;refine Eq.trans this ?_;simp only[ES,ax]
theorem CG {R:Type}{m:List Bytes}(hm:eL m=true)(K:Int→Int→Bytes→Option R):∀(n r k a f:Nat),r≤n→n<f→a+k+r≤128*m.length→
 aJ (h9 K m) f (((a+k:Nat):Int),(r:Int),tQ m a k)=K ((a+k+r:Nat):Int) 0 (tQ m a (k+r))
 |n,r,k,a,0,_,hf,_=>by omega
 |n,0,k,a,f+1,hr,hf,hb=>by rw[aJ];simp only[h9];rw[ae (by omega),af];rfl
 |0,r+1,k,a,f+1,hr,hf,hb=>by omega
 |n+1,r+1,k,a,f+1,hr,hf,hb=>by
  have h64:=(mem_iff.1 hm).2;have hl:=xf hm (show a+k≤128*m.length by omega);obtain⟨p,hp⟩:∃p,(a+k)/128=p:=⟨_,rfl⟩
  obtain⟨o,ho⟩:∃o,(a+k)%128=o:=⟨_,rfl⟩
  have hpo:a+k=128*p+o:=by omega
  have ho2:o<128:=by omega
  have hpl:p<m.length:=by omega
  obtain⟨c,hc⟩:∃c,min (r+1) (128-o)=c:=⟨_,rfl⟩
  have hpg:=(mem_iff.1 hm).1 _ (aW hpl);have e1:Int.tdiv ((a+k:Nat):Int) 128=(p:Int):=by rw[←hp];exact I5 (a+k) 128
  have e2:Int.tmod ((a+k:Nat):Int) 128=(o:Int):=by rw[←ho];exact Hf (a+k) 128
  have key:=CG hm K n (r+1-c) (k+c) a f (by omega) (by omega) (by omega);rw[aJ];simp only[h9,e1,e2];rw[ai (by omega),ah,aq (by omega),aq (by omega),wrap64 (n:=(p:Int)) (by omega) (by omega),aU hpl,ab];rw[wrap64 (n:=128-(o:Int)) (by omega) (by omega)];rw[show(if 128-(o:Int)<((r+1:Nat):Int) then 128-(o:Int) else((r+1:Nat):Int))=(c:Int) by split<;>omega];rw[wrap64 (n:=(o:Int)+(c:Int)) (by omega) (by omega),show(o:Int)+(c:Int)=((o+c:Nat):Int) by omega];rw[EA _ _ _ (by omega) (by omega),ab,show o+c-o=c by omega,GQ hm hpl (show o+c≤128 by omega) hpo];have hl2:=xf hm (show a+k+c≤128*m.length by omega);rw[hl2,hl,aK (by omega),wrap64 (n:=((a+k:Nat):Int)+(c:Int)) (by omega) (by omega),wrap64 (n:=((r+1:Nat):Int)-(c:Int)) (by omega) (by omega),←IK];rw[show((a+k:Nat):Int)+(c:Int)=((a+(k+c):Nat):Int) by omega,show((r+1:Nat):Int)-(c:Int)=((r+1-c:Nat):Int) by omega];rw[show k+c+(r+1-c)=k+(r+1) by omega,show a+(k+c)+(r+1-c)=a+k+(r+1) by omega]at key;exact key
theorem V5 (m:List Bytes)(a n:Int)(h:m.length≤1000000000):ln m a n=some (bif dX m a n then(tQ m a.toNat n.toNat,true) else([],false)):=by have hfu:=cC;unfold ln;rw[zR m a n h,ab];cases hw:dX m a n with|false=>rfl|true=>simp only[dX,aj,aP]at hw;obtain⟨hm,h1,h2,h3⟩:=hw;have h64:=(mem_iff.1 hm).2;simp only[al,af,ah];obtain⟨a,rfl⟩:=aO h2;obtain⟨n,rfl⟩:=aO h1;have:=CG hm (λ(y4:Int) (y5:Int) (y6:Bytes)=>some (y6,true)) n n 0 a fuel (by omega) (by omega) (by omega);rw[bJ,ck]at this;exact this
def Gz (d p:Int)(w:Bool)(x:aA):Bool:=nP d p x&&(x.2.2.2|| !w)
def rL (l:List aA)(d p:Int)(w:Bool):Int:=match l.findIdx? (Gz d p w)with|some i=>(l.getD i HG).2.2.1|none=> -1
theorem V2 (l:List aA)(d p:Int)(w:Bool)(h:l.length≤1000000000):uE l d p w=some (rL l d p w):=by unfold uE rL;refine Eq.trans (wY (p:=Gz d p w) (hit:=λi=>aa (idx l i) λx=>some x.2.2.1) (fin:=some (-1)) l (by omega) (λi hi nx=>?_) (λnx=>?_)) ?_;simp only[pb];rw[ai (by omega),aU hi,wrap64 (by omega) (by omega)];simp only[ah,ab,Gz,nP];cases l[i].1==d<;>cases l[i].2.1==p<;>cases l[i].2.2.2<;>cases w<;>rfl;simp only[pb];rw[ae (by omega)];rfl;cases hf:l.findIdx? (Gz d p w)with|none=>rfl|some i=>obtain⟨hi,_⟩:=List.findIdx?_eq_some_iff_getElem.1 hf;simp only[aU hi,ab,cD hi]
theorem Cp {l:List aA}(h:ei l=true){i:Nat}(hi:i<l.length):Dg l[i]=true∧∀j (hj:j<i),nP l[i].1 l[i].2.1 (l[j]'(by omega))=false:=by simp only[ei,aj,bd,dN]at h;have:=h.2 i hi;simp only[MV,aj,bd,dN,cD hi,aY]at this;exact⟨this.1,λj hj=>by have:=this.2 j hj;rwa[cD (by omega)]at this⟩
theorem Df {d p:Int}{m:aA}:nP d p m=true↔m.1=d∧m.2.1=p:=by simp[nP]
theorem Vg {l:List aA}(h:ei l=true){d p:Int}{i j:Nat}(hi:i<l.length)(hj:j<l.length)(h1:nP d p l[i]=true)(h2:nP d p l[j]=true):i=j:=by have a:=Df.1 h1;have b:=Df.1 h2;rcases Nat.lt_trichotomy i j with h3|h3|h3;have:=(Cp h hj).2 i h3;rw[b.1,b.2,h1]at this;cases this;exact h3;have:=(Cp h hi).2 j h3;rw[a.1,a.2,h2]at this;cases this
theorem GH {l:List aA}(h:ei l=true)(d p:Int)(w:Bool)(h1:0≤rL l d p w):rL l d p w≤63∧0≤p∧p≤1023:=by unfold rL at h1⊢;cases hf:l.findIdx? (Gz d p w)with|none=>rw[hf]at h1;simp at h1|some i=>obtain⟨hi,h2,_⟩:=List.findIdx?_eq_some_iff_getElem.1 hf;have h3:=(Cp h hi).1;simp only[Gz,aj,Df]at h2;simp only[Dg,aj,cv]at h3;simp only[cD hi];omega
theorem Sx (l:List aA)(d:Int)(a:Nat)(w:Bool)(h:l.length≤1000000000)(hm:ei l=true)(ha:a≤9223372036854775807): xJ l d (a:Int) w=some (if 0≤rL l d ((a/128:Nat):Int) w then rL l d ((a/128:Nat):Int) w*128+((a%128:Nat):Int) else-1):=by
 have e1:Int.tdiv (a:Int) 128=((a/128:Nat):Int):=I5 a 128;have e2:Int.tmod (a:Int) 128=((a%128:Nat):Int):=Hf a 128;unfold xJ;rw[ae (by omega),af,aq (by omega),e1,e2,wrap64 (by omega) (by omega),MI l _ _ h,ab];generalize ((a/128:Nat):Int)=p;have hin:=GH hm d p w;unfold Ni;cases hf:l.findIdx? (nP d p)with
 |none=>
  have hn:rL l d p w= -1:=by unfold rL;rw[List.findIdx?_eq_none_iff]at hf;rw[List.findIdx?_eq_none_iff.2 (λx hx=>by rw[Gz,hf x hx];rfl)]
  rw[hn];rfl
 |some i=>
  obtain⟨hi,h2,h3⟩:=List.findIdx?_eq_some_iff_getElem.1 hf;simp only;rw[ae (by omega),aU hi];simp only[af,ab];cases hq:l[i].2.2.2|| !w with
  |true=>
   have hF:rL l d p w=l[i].2.2.1:=by unfold rL;rw[List.findIdx?_eq_some_iff_getElem.2 ⟨hi,by rw[Gz,h2,hq];rfl,λj hj=>by have:=h3 j hj;rw[Gz,Bool.eq_false_iff.2 this];simp⟩];exact congrArg (λx:aA=>x.2.2.1) (cD hi HG)
   have h4:=(Cp hm hi).1;simp only[Dg,aj,cv]at h4
   rw[hF,ay (show 0≤l[i].2.2.1 by omega),show(aa (cond w (some (!l[i].2.2.2)) (some false)) λq3=>cond q3 (some (-1:Int)) _)=_ from by
    have:(cond w (some (!l[i].2.2.2)) (some false))=some false:=by cases w<;>cases hz:l[i].2.2.2<;>rw[hz]at hq<;>first|rfl|cases hq
    rw[this,ab,af]]
   rw[aq (show¬(128:Nat)=0 by omega),wrap64 (n:=l[i].2.2.1*128) (by omega) (by omega),wrap64 (by omega) (by omega)]
  |false=>
   have hF:rL l d p w= -1:=by unfold rL;rw[List.findIdx?_eq_none_iff.2 (λx hx=>by obtain⟨j,hj,rfl⟩:=List.getElem_of_mem hx;cases hx2:nP d p l[j]with|false=>rw[Gz,hx2];rfl|true=>have:=Vg hm hi hj h2 hx2;subst this;rw[Gz,hq];simp)]
   rw[hF,aq (show¬(0:Int)≤ -1 by omega)];cases w with|false=>simp at hq|true=>simp only[al,Bool.or_false]at hq;simp only[ah,hq,ab,cA]
def kO (l:List aA)(m:List Bytes)(d:Int)(w:Bool):Nat→Nat→Nat→Option (List (Int×Int))
 |0,_,_=>some []
 |n+1,a,r=>if r=0 then some [] else
  if 0≤rL l d ((a/128:Nat):Int) w∧rL l d ((a/128:Nat):Int) w<(m.length:Int) then
   (kO l m d w n (a+min (128-a%128) r) (r-min (128-a%128) r)).map (λq=>(rL l d ((a/128:Nat):Int) w*128+((a%128:Nat):Int),((min (128-a%128) r:Nat):Int))::q)
  else none
theorem Ll {m:List Bytes}(hm:eL m=true){f:Int}(h0:0≤f){o c:Nat}(hc:0<c)(ho:o+c≤128):dX m (f*128+(o:Int)) (c:Int)=decide (f<(m.length:Int)):=by rw[dX,hm,bn];exact decide_eq_decide.2 (by omega)
theorem Of {m:List Bytes}(hm:eL m=true){f:Int}(h0:0≤f):dX m (f*128) 128=decide (f<(m.length:Int)):=by rw[dX,hm,bn];exact decide_eq_decide.2 (by omega)
theorem Cg {l:List aA}{m:List Bytes}(hl:ei l=true)(hL:l.length≤1000000000)(hm:eL m=true)(d:Int)(w:Bool):∀(n a r f:Nat)(acc:List (Int×Int)),r≤n→n<f→acc.length+n≤1000000→a≤9223372036854775807→
 aJ (mu (λ(y9:Int) (y10:Int) (y11:List (Int×Int))=>some (y11,true)) (λ(y12:Int) (y13:Int) (y14:List (Int×Int)) (y15:Bool) (y16:List (Int×Int))=>some (y14,y15)) l d w ([]:List (Int×Int)) false m) f ((a:Int),(r:Int),acc)
  =match kO l m d w n a r with|some q=>some (acc++q,true)|none=>some ([],false)
 |n,a,r,0,acc,_,hf,_,_=>by omega
 |0,a,r,f+1,acc,hr,hf,hA,ha=>by rw[aJ];simp only[mu];rw[ae (by omega)];simp[kO]
 |n+1,a,r,f+1,acc,hr,hf,hA,ha=>by
  have h64:=(mem_iff.1 hm).2;rw[aJ];simp only[mu,kO];by_cases h0:r=0;rw[ae (by omega),ay h0];simp;have e2:Int.tmod (a:Int) 128=((a%128:Nat):Int):=Hf a 128;have hin:=GH hl d ((a/128:Nat):Int) w;rw[ai (by omega),aq h0,Sx l d a w hL hl ha,ab,aq (by omega),e2,wrap64 (n:=128-((a%128:Nat):Int)) (by omega) (by omega)];obtain⟨c,hc⟩:∃c,min (128-a%128) r=c:=⟨_,rfl⟩
  rw[hc,show(if 128-((a%128:Nat):Int)<(r:Int) then 128-((a%128:Nat):Int) else(r:Int))=(c:Int) by split<;>omega];generalize hP:rL l d ((a/128:Nat):Int) w=P at hin⊢;by_cases hP0:0≤P;have hin:=hin hP0;simp only[ay hP0,ah];rw[ae (show¬P*128+((a%128:Nat):Int)<0 by omega),zy m _ _ (by omega),Ll hm hP0 (by omega) (by omega)];simp only[af,ab];by_cases hP1:P<(m.length:Int);rw[ai hP1,ay ⟨hP0,hP1⟩];simp only[al,af];rw[aK (by simp;omega),wrap64 (n:=(a:Int)+(c:Int)) (by omega) (by omega),wrap64 (n:=(r:Int)-(c:Int)) (by omega) (by omega),ae (show¬(a:Int)+(c:Int)<0 by omega)];simp only[af,ab];have key:=Cg hl hL hm d w n (a+c) (r-c) f (acc++[(P*128+((a%128:Nat):Int),(c:Int))]) (by omega) (by omega) (by simp;omega) (by omega);rw[show((a+c:Nat):Int)=(a:Int)+(c:Int) by omega,show((r-c:Nat):Int)=(r:Int)-(c:Int) by omega]at key;rw[key];cases kO l m d w n (a+c) (r-c)with|none=>rfl|some q=>simp
  rw[ae hP1,aq (by omega)];rfl;simp only[aq hP0,ah];rw[aq (by omega),ai (by omega)];rfl
theorem CH {l:List aA}{m:List Bytes}(hl:ei l=true)(hL:l.length≤1000000000)(hm:eL m=true)(d:Int)(w:Bool):∀(n a r f:Nat)(acc:List (Int×Int)),r≤n→n<f→acc.length+n≤1000000→a≤9223372036854775807→
 aJ (g4 (λ(y10:Int) (y11:Int) (y12:List Int) (y13:List Int)=>some (y12,y13,true)) (λ(y14:Int) (y15:Int) (y16:List Int) (y17:List Int) (y18:Bool) (y19:List Int) (y20:List Int)=>some (y16,y17,y18)) l d w ([]:List Int) ([]:List Int) false m) f ((a:Int),(r:Int),acc.map (·.1),acc.map (·.2))
  =match kO l m d w n a r with|some q=>some ((acc++q).map (·.1),(acc++q).map (·.2),true)|none=>some ([],[],false)
 |n,a,r,0,acc,_,hf,_,_=>by omega
 |0,a,r,f+1,acc,hr,hf,hA,ha=>by rw[aJ];simp only[g4];rw[ae (by omega)];simp[kO]
 |n+1,a,r,f+1,acc,hr,hf,hA,ha=>by
  have h64:=(mem_iff.1 hm).2;rw[aJ];simp only[g4,kO];by_cases h0:r=0;rw[ae (by omega),ay h0];simp;have e1:Int.tdiv (a:Int) 128=((a/128:Nat):Int):=I5 a 128;have e2:Int.tmod (a:Int) 128=((a%128:Nat):Int):=Hf a 128;have hin:=GH hl d ((a/128:Nat):Int) w;rw[ai (show(r:Int)>0 by omega),ai (show(a:Int)≥0 by omega),aq h0];simp only[ah];rw[aq (by omega),e1,e2,wrap64 (n:=((a/128:Nat):Int)) (by omega) (by omega),V2 l _ _ w hL,ab,aq (by omega),wrap64 (n:=128-((a%128:Nat):Int)) (by omega) (by omega)];obtain⟨c,hc⟩:∃c,min (128-a%128) r=c:=⟨_,rfl⟩
  rw[hc,show(if 128-((a%128:Nat):Int)<(r:Int) then 128-((a%128:Nat):Int) else(r:Int))=(c:Int) by split<;>omega];generalize hP:rL l d ((a/128:Nat):Int) w=P at hin⊢;by_cases hP0:0≤P;have hin:=hin hP0;rw[ae (show¬P<0 by omega),wrap64 (n:=P*128) (by omega) (by omega),zR m _ _ (by omega),Of hm hP0];simp only[af,ab];by_cases hP1:P<(m.length:Int);rw[ai hP1,ay ⟨hP0,hP1⟩];simp only[al,af];rw[aK (by simp;omega),aK (by simp;omega),wrap64 (n:=P*128+((a%128:Nat):Int)) (by omega) (by omega),wrap64 (n:=(a:Int)+(c:Int)) (by omega) (by omega),wrap64 (n:=(r:Int)-(c:Int)) (by omega) (by omega)];have key:=CH hl hL hm d w n (a+c) (r-c) f (acc++[(P*128+((a%128:Nat):Int),(c:Int))]) (by omega) (by omega) (by simp;omega) (by omega);rw[show((a+c:Nat):Int)=(a:Int)+(c:Int) by omega,show((r-c:Nat):Int)=(r:Int)-(c:Int) by omega,List.map_append,List.map_append]at key;refine Eq.trans key ?_;cases kO l m d w n (a+c) (r-c)with|none=>rfl|some q=>simp
  rw[ae hP1,aq (by omega)];rfl;rw[aq (by omega),ai (by omega)];rfl
def kh (l:List aA)(m:List Bytes)(d a n:Int)(w:Bool):List (Int×Int)×Bool:=
 bif ei l&&(eL m&&cq n 0 4096) then
  (bif n==0 then([],true) else bif decide (a<0) then([],false) else match kO l m d w n.toNat a.toNat n.toNat with|some q=>(q,true)|none=>([],false))
 else([],false)
theorem MM (l:List aA)(m:List Bytes)(d a n:Int)(w:Bool)(hl:l.length≤1000000000)(hm:m.length≤1000000000)(ha:a≤9223372036854775807):s8 l m d a n w=some (kh l m d a n w):=by
 have hfu:=cC;unfold s8 kh;simp only[Cd l hl,Bu m hm,cz,ab];cases hB:ei l with|false=>rfl|true=>?_
 cases hM:eL m with|false=>rfl|true=>?_
 cases hN:cq n 0 4096 with|false=>rfl|true=>?_
 have hn:=cv.1 hN;simp only[al,af,ab,dY,ah];cases h0:n==0 with|true=>rfl|false=>?_
 by_cases hA:a<0;rw[ai hA];rfl;rw[ae hA];simp only[af];obtain⟨a,rfl⟩:=aO (show 0≤a by omega);obtain⟨n,rfl⟩:=aO hn.1;rw[Cg hB hl hM d w n a n fuel [] (by omega) (by omega) (by simp;omega) (by omega)];simp only[ax];cases kO l m d w n a n<;>rfl
theorem IV (l:List aA)(m:List Bytes)(d a n:Int)(w:Bool)(hl:l.length≤1000000000)(hm:m.length≤1000000000)(ha:a≤9223372036854775807):oC l m d a n w=some ((kh l m d a n w).1.map (·.1),(kh l m d a n w).1.map (·.2),(kh l m d a n w).2):=by
 have hfu:=cC;unfold oC kh;simp only[CE l hl,yp m hm,cc,ab];cases hB:ei l with|false=>rfl|true=>?_
 cases hM:eL m with|false=>rfl|true=>?_
 cases hN:cq n 0 4096 with|false=>rfl|true=>?_
 have hn:=cv.1 hN;simp only[al,af,ab,dY,ah];obtain⟨n,rfl⟩:=aO hn.1;cases h0:((n:Int)==0)with
 |true=>
  have:n=0:=by simpa using h0
  subst this;obtain⟨f,hf⟩:∃f,fuel=f+1:=⟨fuel-1,by omega⟩
  rw[hf,aJ];rfl
 |false=>
  have hn0:n≠0:=by simpa using h0
  by_cases hA:a<0;obtain⟨f,hf⟩:∃f,fuel=f+1:=⟨fuel-1,by omega⟩
  rw[ai hA,hf,aJ];simp only[g4];rw[ai (by omega),ae (by omega)];rfl;rw[ae hA];simp only[af];obtain⟨a,rfl⟩:=aO (show 0≤a by omega);refine Eq.trans (CH hB hl hM d w n a n fuel [] (by omega) (by omega) (by simp;omega) (by omega)) ?_;simp only[ax];cases kO l m d w n a n<;>rfl
def RV (a b:Int):Int:=(iQ a b).getD 0
theorem Ey (a b:Int):iQ a b=some (RV a b):=by
 unfold RV;have:∃x,iQ a b=some x:=by simp only[iQ,cc,ab];cases cq a 0 65535<;>cases cq b 0 65535<;>cases decide (ao (a+b)>65535)<;>exact⟨_,rfl⟩
 obtain⟨x,hx⟩:=this;rw[hx];rfl
theorem MD (a b:Int):tW a b=some (RV a b):=Ey a b
theorem Yg {a b:Int}(h:0≤a∧a≤65535)(k:0≤b∧b≤65535):0≤RV a b∧RV a b≤65535:=by have e:=Ey a b;simp only[iQ,cc,ab,cv.2 h,cv.2 k,al,af]at e;rw[wrap64 (n:=a+b) (by omega) (by omega)]at e;by_cases hc:a+b>65535;rw[ai hc,ah,wrap64 (by omega) (by omega)]at e;rw[←cp e];omega;rw[ae hc,af]at e;rw[←cp e];omega
def sw (s:Bytes):Nat→Int
 |0=>0
 |j+1=>RV (sw s j) ((bX s (2*j)*256+bX s (2*j+1):Nat):Int)
theorem Wc (s:Bytes):∀j,0≤sw s j∧sw s j≤65535
 |0=>by simp[sw]
 |j+1=>by have b0:=db s (2*j);have b1:=db s (2*j+1);exact Yg (Wc s j) (by omega)
theorem ER {s:Bytes}{i:Nat}(h:s.length≤i):bX s i=0:=by unfold bX;rw[List.getD_eq_getElem?_getD,List.getElem?_eq_none h];rfl
theorem Zo (s:Bytes)(h:s.length≤1000000000):sW s=some (sw s ((s.length+1)/2)):=by
 unfold sW;refine cS (λj=>(sw s j,((2*j:Nat):Int))) ((s.length+1)/2) (by omega) (λj nx hj=>?_) (λnx=>?_);have b0:=db s (2*j);have b1:=db s (2*j+1);obtain⟨x,hx,ex⟩:=k5 (s:=s) (i:=2*j) (by omega);simp only[nJ];rw[ai (by omega),ah,hx,ab,aq (by omega),wrap64 (n:=((2*j:Nat):Int)+1) (by omega) (by omega),wrap64 (n:=((2*j:Nat):Int)+2) (by omega) (by omega),ex,fE (by omega)];have e8:min (Int.toNat 8) (IntKind.bits .i64)=8:=rfl;have en:((2*j:Nat):Int)+2=((2*(j+1):Nat):Int):=by omega
 rw[e8,wrap64 (n:=((bX s (2*j):Nat):Int)*2^8) (by omega) (by omega)];by_cases hc:2*j+1<s.length;obtain⟨y,hy,ey⟩:=k5 (s:=s) (i:=2*j+1) hc;rw[ai (by omega),ah,show((2*j:Nat):Int)+1=((2*j+1:Nat):Int) by omega,hy,ab,ey,fE (n:=bX s (2*j+1)) (by omega),wrap64 (by omega) (by omega),Ey,ab,en,show((bX s (2*j):Nat):Int)*2^8+((bX s (2*j+1):Nat):Int)=((bX s (2*j)*256+bX s (2*j+1):Nat):Int) by omega];rfl;have hz:=ER (s:=s) (i:=2*j+1) (by omega);rw[ae (by omega),af,Ey,ab,en,show((bX s (2*j):Nat):Int)*2^8=((bX s (2*j)*256+bX s (2*j+1):Nat):Int) by rw[hz];omega];rfl;simp only[nJ];rw[ae (by omega)];rfl
theorem YM (s:Bytes)(h:s.length≤1000000000):sr s=some (sw s ((s.length+1)/2)):=by
 unfold sr;refine cS (λj=>(sw s j,((2*j:Nat):Int))) ((s.length+1)/2) (by omega) (λj nx hj=>?_) (λnx=>?_);have b0:=db s (2*j);have b1:=db s (2*j+1);obtain⟨x,hx,ex⟩:=k5 (s:=s) (i:=2*j) (by omega);simp only[ng];rw[ai (by omega),ah,hx,ab,aq (by omega),wrap64 (n:=((2*j:Nat):Int)+1) (by omega) (by omega),wrap64 (n:=((2*j:Nat):Int)+2) (by omega) (by omega),ex,fE (by omega)];have e8:min (Int.toNat 8) (IntKind.bits .i64)=8:=rfl;have en:((2*j:Nat):Int)+2=((2*(j+1):Nat):Int):=by omega
 rw[e8,show((bX s (2*j):Nat):Int)*2^8=((2^8*bX s (2*j):Nat):Int) by omega,fE (n:=2^8*bX s (2*j)) (by omega)];by_cases hc:2*j+1<s.length;obtain⟨y,hy,ey⟩:=k5 (s:=s) (i:=2*j+1) hc;rw[ai (by omega),ah,show((2*j:Nat):Int)+1=((2*j+1:Nat):Int) by omega,hy,ab,ey,fE (n:=bX s (2*j+1)) (by omega),BA (bX s (2*j)) 8 (bX s (2*j+1)) (by omega) (by omega),MD,ab,en,show 2^8*bX s (2*j)+bX s (2*j+1)=bX s (2*j)*256+bX s (2*j+1) by omega];rfl;have hz:=ER (s:=s) (i:=2*j+1) (by omega);rw[ae (by omega),af,MD,ab,en,show((2^8*bX s (2*j):Nat):Int)=((bX s (2*j)*256+bX s (2*j+1):Nat):Int) by rw[hz];omega];rfl;simp only[ng];rw[ae (by omega)];rfl
def OD (s:Bytes):Int:=65535-sw s ((s.length+1)/2)
theorem KZ (s:Bytes)(h:s.length≤1000000000):lE s=some (OD s):=by have:=Wc s ((s.length+1)/2);simp only[lE,Zo s h,ab];rw[wrap64 (by omega) (by omega)];rfl
theorem Rb (s:Bytes)(h:s.length≤1000000000):n6 s=some (OD s):=by have:=Wc s ((s.length+1)/2);simp only[n6,YM s h,ab];rw[wrap64 (by omega) (by omega)];rfl
def Cw (s:Bytes)(a:Int)(p:Bytes):Bytes:=bif dA s a (p.length:Int) then(s.take a.toNat++p)++s.drop (a.toNat+p.length) else s
theorem No (s:Bytes)(a:Int)(p:Bytes):(Cw s a p).length=s.length:=by unfold Cw;cases hw:dA s a (p.length:Int)with|false=>rfl|true=>simp only[dA,aP]at hw;simp only[ah,ak,bt,aV];omega
theorem Ns (s:Bytes)(a:Int)(p:Bytes)(h:s.length≤1000000000)(hw:dA s a (p.length:Int)=true): (aa (sub s 0 a) λx2=>room (List.length x2+List.length p) (aa (sub s (ao (a+((List.length p:Int)))) ((List.length s:Int))) λx3=>room (List.length (x2++p)+List.length x3) (some ((x2++p)++x3))))=some (Cw s a p):=by
 have hw':=hw;simp only[dA,aP]at hw';obtain⟨n,rfl⟩:=aO hw'.1;have e1:sub s 0 (n:Int)=some (s.take n):=by unfold sub;rw[ay (by omega)];rfl
 have e2:sub s (((n+p.length:Nat):Int)) (s.length:Int)=some (s.drop (n+p.length)):=by unfold sub;rw[ay (by omega),ax,ax,cr]
 rw[e1,wrap64 (by omega) (by omega),show(n:Int)+(p.length:Int)=((n+p.length:Nat):Int) by omega,e2,ab,aK (by simp only[bt];omega),ab,aK (by simp only[ak,bt,aV];omega)];unfold Cw;rw[hw];rfl
theorem Ez (s:Bytes)(a:Int)(p:Bytes)(h:s.length≤1000000000):fS s a p=some (Cw s a p):=by unfold fS;rw[zQ s a _ h (by omega),ab];cases hw:dA s a (p.length:Int)with|false=>simp only[cA,ah,Cw,hw,af]|true=>exact Ns s a p h hw
theorem Kt (s:Bytes)(a:Int)(p:Bytes)(h:s.length≤1000000000)(hp:p.length≤1000000000):ly s a p=some (Cw s a p):=by
 unfold ly;rw[wrap64 (n:=(s.length:Int)-(p.length:Int)) (by omega) (by omega)];cases hw:dA s a (p.length:Int)with
 |true=>have hw':=hw;simp only[dA,aP]at hw';rw[ae (show¬a<0 by omega),ae (show¬a>(s.length:Int)-(p.length:Int) by omega)];exact Ns s a p h hw
 |false=>
  have hp:Cw s a p=s:=by unfold Cw;rw[hw];rfl
  rw[hp];simp only[dA,decide_eq_false_iff_not]at hw;by_cases h0:a<0;rw[ai h0];rfl;rw[ae h0,ai (show a>(s.length:Int)-(p.length:Int) by omega)];rfl
def bs2 (x y:Int):Bytes:=bytesOf [x,y]
theorem Jk (x y:Int):(bs2 x y).length=2:=rfl
def yh (a b k n:Int):Bool:=cq a 0 4294967295&&(cq b 0 4294967295&&(cq k 0 255&&cq n 0 65535))
def vz (a b k n:Int):Bytes:=((ez a++ez b)++bs2 0 (fg k))++cZ n
theorem IJ (a b k n:Int):(vz a b k n).length≤12:=by have:=cy a;have:=cy b;have:=bu n;simp only[vz,ak,Jk];omega
theorem BF (a b k n:Int):iV a b k n=some (bif yh a b k n then(vz a b k n,true) else([],false)):=by
 have:=cy a;have:=cy b;have:=bu n;unfold iV yh;simp only[cc,ab,jg,jf];cases cq a 0 4294967295 with|false=>rfl|true=>?_
 cases cq b 0 4294967295 with|false=>rfl|true=>?_
 cases cq k 0 255 with|false=>rfl|true=>?_
 cases cq n 0 65535 with|false=>rfl|true=>?_
 simp only[al,af,dY,ah,ab];have e:(bytesOf [0,fg k]).length=2:=rfl;rw[aK (by omega),aK (by simp only[ak,e];omega),aK (by simp only[ak,e];omega)];rfl
theorem O8 (a b k n:Int):qf a b k n=some (bif yh a b k n then(vz a b k n,true) else([],false)):=BF a b k n
def bare (g:cI):Bytes:=bif g.1==6 then
    (((((cZ g.2.1++cZ g.2.2.1)++ez g.2.2.2.1)++ez g.2.2.2.2.1)++bs2 80 (fg g.2.2.2.2.2.1))++cZ g.2.2.2.2.2.2.1)++ez 0++g.2.2.2.2.2.2.2
 else(((cZ g.2.1++cZ g.2.2.1)++cZ (8+(g.2.2.2.2.2.2.2.length:Int)))++cZ 0)++g.2.2.2.2.2.2.2
theorem Ji (g:cI):(bare g).length≤20+g.2.2.2.2.2.2.2.length:=by have:=bu g.2.1;have:=bu g.2.2.1;have:=cy g.2.2.2.1;have:=cy g.2.2.2.2.1;have:=bu g.2.2.2.2.2.2.1;have:=cy 0;have:=bu 0;have:=bu (8+(g.2.2.2.2.2.2.2.length:Int));unfold bare;cases g.1==6<;>simp only[ah,af,ak,Jk]<;>omega
theorem TH:cZ 0++cZ 0=ez 0:=by rfl
theorem UH (g:cI)(h:g.2.2.2.2.2.2.2.length≤1000000):ni g=some (bare g):=by have:=bu g.2.1;have:=bu g.2.2.1;have:=cy g.2.2.2.1;have:=cy g.2.2.2.2.1;have:=bu g.2.2.2.2.2.2.1;have:=bu 0;have:=bu (8+(g.2.2.2.2.2.2.2.length:Int));have e:∀x,(bytesOf [80,fg x]).length=2:=λ_=>rfl;unfold ni bare;rw[wrap64 (n:=8+(g.2.2.2.2.2.2.2.length:Int)) (by omega) (by omega)];simp only[mm,po,ab];rw[aK (by omega)];cases g.1==6 with|true=>simp only[ah];rw[aK (by simp only[ak,e];omega),aK (by simp only[ak,e];omega),aK (by simp only[ak,e];omega),aK (by simp only[ak,e];omega),aK (by simp only[ak,e];omega),aK (by simp only[ak,e];omega),aK (by simp only[ak,e];omega)];rw[←TH];simp only[bs2,aE]|false=>simp only[af];rw[aK (by simp only[ak];omega),aK (by simp only[ak];omega),aK (by simp only[ak];omega)]
def RH (a b:Int)(g:cI):Int:=bif (OD (vz a b g.1 ((bare g).length:Int)++bare g)==0)&&(g.1==17) then 65535 else OD (vz a b g.1 ((bare g).length:Int)++bare g)
def Rx (a b:Int)(g:cI):Bytes:=Cw (bare g) (bif g.1==6 then 16 else 6) (cZ (RH a b g))
def GY (a b:Int)(g:cI):Bool:=BD g&&yh a b g.1 ((bare g).length:Int)
def wN (a b:Int)(g:cI):Bytes×Bool:=bif GY a b g then(Rx a b g,true) else([],false)
theorem Cz {g:cI}(h:BD g=true):g.2.2.2.2.2.2.2.length≤320:=by simp only[BD,aj,aY,decide_eq_false_iff_not]at h;omega
theorem zP (a b:Int)(g:cI):gu a b g=some (wN a b g):=by
 unfold gu wN GY;rw[RA,ab];cases hg:BD g with|false=>rfl|true=>?_
 have hb:=Cz hg;have hl:=Ji g;have hp:=IJ a b g.1 ((bare g).length:Int);have:=bu g.2.1;have:=bu g.2.2.1;have:=cy g.2.2.2.1;have:=cy g.2.2.2.2.1;have:=bu g.2.2.2.2.2.2.1;have:=cy 0;have:=bu 0;have:=bu (8+(g.2.2.2.2.2.2.2.length:Int));have e:∀x,(bytesOf [80,fg x]).length=2:=λ_=>rfl;rw[wrap64 (n:=8+(g.2.2.2.2.2.2.2.length:Int)) (by omega) (by omega)];simp only[jf,jg,ab,al,af,bn];rw[aK (by omega)];cases h6:g.1==6 with
 |true=>
  have hbare:bare g=(((((cZ g.2.1++cZ g.2.2.1)++ez g.2.2.2.1)++ez g.2.2.2.2.1)++bytesOf [80,fg g.2.2.2.2.2.1])++cZ g.2.2.2.2.2.2.1)++ez 0++g.2.2.2.2.2.2.2:=by unfold bare;rw[h6];rfl
  simp only[ah];rw[aK (by simp only[ak,e];omega),aK (by simp only[ak,e];omega),aK (by simp only[ak,e];omega),aK (by simp only[ak,e];omega),aK (by simp only[ak,e];omega),aK (by simp only[ak,e];omega),←hbare,BF,ab];cases yh a b g.1 ((bare g).length:Int)with|false=>rfl|true=>?_
  simp only[ah,al,af];rw[aK (by omega),KZ _ (by simp only[ak];omega)];simp only[ab,ba,Ez _ _ _ (show(bare g).length≤1000000000 by omega),Rx,RH,h6,ah,cF];cases (OD (vz a b g.1 ((bare g).length:Int)++bare g)==0)&&(g.1==17)<;>rfl
 |false=>
  have hbare:bare g=(((cZ g.2.1++cZ g.2.2.1)++cZ (8+(g.2.2.2.2.2.2.2.length:Int)))++cZ 0)++g.2.2.2.2.2.2.2:=by unfold bare;rw[h6];rfl
  simp only[af];rw[aK (by simp only[ak];omega),aK (by simp only[ak];omega),aK (by simp only[ak];omega),←hbare,BF,ab];cases yh a b g.1 ((bare g).length:Int)with|false=>rfl|true=>?_
  simp only[ah,al,af];rw[aK (by omega),KZ _ (by simp only[ak];omega)];simp only[ab,ba,Ez _ _ _ (show(bare g).length≤1000000000 by omega),Rx,RH,h6,af,cF];cases (OD (vz a b g.1 ((bare g).length:Int)++bare g)==0)&&(g.1==17)<;>rfl
theorem zx (a b:Int)(g:cI):gq a b g=some (wN a b g):=by
 unfold gq wN GY;rw[Re,ab];cases hg:BD g with|false=>rfl|true=>?_
 have hb:=Cz hg;have hl:=Ji g;have hp:=IJ a b g.1 ((bare g).length:Int);have hsp:od g.1=some (bif g.1==6 then 16 else 6):=by unfold od;rw[ba]
 have w1:=bu 65535;have w2:=bu (OD (vz a b g.1 ((bare g).length:Int)++bare g));simp only[UH g (by omega),O8,ab,al,af,bn];cases yh a b g.1 ((bare g).length:Int)with|false=>rfl|true=>?_
 simp only[ah,al,af];rw[aK (by omega),Rb _ (by simp only[ak];omega)];simp only[ab,ba,hsp,mm,Kt _ _ _ (show(bare g).length≤1000000000 by omega) (show(cZ 65535).length≤1000000000 by omega),Kt _ _ _ (show(bare g).length≤1000000000 by omega) (show(cZ (OD (vz a b g.1 ((bare g).length:Int)++bare g))).length≤1000000000 by omega),Rx,RH,cF];rw[Bool.and_comm];cases (OD (vz a b g.1 ((bare g).length:Int)++bare g)==0)&&(g.1==17)<;>rfl
theorem Zj (a b:Int)(g:cI):(wN a b g).1.length≤340:=by unfold wN;cases h:GY a b g with|false=>exact dv _|true=>simp only[GY,aj]at h;have:=Cz h.1;have:=Ji g;show(Cw _ _ _).length≤340;rw[No];omega
theorem gS (a:List Bytes)(h:a.length≤1073741824):di a=some a:=by simp only[di,fb];rw[aK (by simpa using h)];rfl
theorem kM (a:List Bytes)(h:a.length≤1073741824):dE a=some a:=by simp only[dE];rw[aK (by simpa using h)];rfl
def AU (x:Bytes)(o:Nat)(t:Bytes):Bytes:=x.take o++(t++x.drop (o+t.length))
theorem S8 {x:Bytes}{o:Nat}{t:Bytes}(h:o+t.length≤x.length):(AU x o t).length=x.length:=by simp only[AU,ak,bt,aV];omega
theorem Tb (x:Bytes)(o:Nat)(t:Bytes):bytesOf (xc (ch x) o (ch t))=AU x o t:=by
 have e:xc (ch x) o (ch t)=ch (AU x o t):=by simp only[xc,AU,ch,List.map_append,List.map_take,List.map_drop,cL]
 rw[e,ES]
theorem VG {x:Bytes}{o:Nat}{t:Bytes}(h:o+t.length≤x.length):Cw x (o:Int) t=AU x o t:=by unfold Cw dA;rw[ai ⟨by omega,by omega⟩];simp only[ah,ax,AU,aE]
def vK:Nat→List Bytes→Nat→Bytes→List Bytes
 |0,m,_,_=>m
 |n+1,m,a,s=>if s.length=0 then m else
  vK n (m.set (a/128) (AU (m.getD (a/128) []) (a%128) (s.take (128-a%128)))) (a+min (128-a%128) s.length) (s.drop (128-a%128))
def yg (m:List Bytes):Prop:=(∀x∈m,x.length=128)∧m.length≤64
theorem Aq {m:List Bytes}:eL m=true↔yg m:=mem_iff
theorem Dt {m:List Bytes}{p:Nat}{x:Bytes}(h:yg m)(hx:x.length=128):yg (m.set p x):=by refine⟨λy hy=>?_,by rw[aL];exact h.2⟩;rcases List.mem_or_eq_of_mem_set hy with g|g;exact h.1 y g;rw[g];exact hx
theorem BL {m:List Bytes}(h:yg m){a:Nat}{s:Bytes}(hs:s.length≠0)(ha:a+s.length≤128*m.length): ∃(hp:a/128<m.length),(m[a/128]'hp).length=128∧(AU (m[a/128]'hp) (a%128) (s.take (128-a%128))).length=128:=by
 have hp:a/128<m.length:=by omega
 have hl:=h.1 _ (aW hp);refine⟨hp,hl,?_⟩;rw[S8 (by rw[bt,hl];omega),hl]
theorem yB:∀(n:Nat){m:List Bytes}{a:Nat}{s:Bytes},yg m→a+s.length≤128*m.length→yg (vK n m a s)∧(vK n m a s).length=m.length
 |0,m,a,s,h,_=>⟨h,rfl⟩
 |n+1,m,a,s,h,ha=>by rw[vK];split;exact⟨h,rfl⟩;rename_i hs;obtain⟨hp,hl,ho⟩:=BL h hs ha;rw[cD hp];have:=yB n (m:=m.set (a/128) (AU m[a/128] (a%128) (s.take (128-a%128)))) (a:=a+min (128-a%128) s.length) (s:=s.drop (128-a%128)) (Dt h ho) (by rw[aL,aV];omega);rw[aL]at this;exact this
theorem AP {R:Type}(K:Int→Bytes→List Bytes→Option R)(K':List Bytes→Option R)(hK:∀a m,K a [] m=K' m):∀(n:Nat)(m:List Bytes)(a:Nat)(s:Bytes)(f:Nat),s.length≤n→n<f→yg m→a+s.length≤128*m.length→
 aJ (ju K ([]:List Bytes)) f ((a:Int),s,m)=K' (vK n m a s)
 |n,m,a,s,0,_,hf,_,_=>by omega
 |n,m,a,s,f+1,hs,hf,hm,ha=>by
  rw[aJ];simp only[ju];by_cases h0:s.length=0;have:s=[]:=bO h0;subst this;rw[ae (by simp),af,hK];cases n<;>simp[vK];cases n with
  |zero=>omega
  |succ n=>
   obtain⟨hp,hl,ho⟩:=BL hm h0 ha;have h64:=hm.2;have e1:Int.tdiv (a:Int) 128=((a/128:Nat):Int):=I5 a 128;have e2:Int.tmod (a:Int) 128=((a%128:Nat):Int):=Hf a 128;rw[ai (by omega),ah,aq (by omega),e1,e2,wrap64 (n:=((a/128:Nat):Int)) (by omega) (by omega),aU hp,ab,aK (by omega),aq (by omega)];have hsub:sub (ch m[a/128]) ((a%128:Nat):Int) ((ch m[a/128]).length:Int)=some ((ch m[a/128]).drop (a%128)):=by rw[EA _ _ _ (by rw[Cl];omega) (aM _),br (by rw[aV];exact aM _)]
   rw[hsub,ab,aq (by omega),ab,ab];have hd:((ch m[a/128]).drop (a%128)).length=128-a%128:=by rw[aV,Cl,hl]
   rw[hd];have hdr:s.drop (min (128-a%128) s.length)=s.drop (128-a%128):=by by_cases h3:128-a%128≤s.length;rw[fO h3];rw[Nat.min_eq_right (by omega),bV (aM _),bV (by omega)]
   have hsub2:sub s (((min (128-a%128) s.length:Nat)):Int) ((s.length:Int))=some (s.drop (128-a%128)):=by rw[←hdr];unfold sub;rw[ay (by omega)];simp
   rw[hsub2,ab,wrap64 (n:=(a:Int)+((min (128-a%128) s.length:Nat):Int)) (by omega) (by omega),ax,ax,Tb];rw[vK,aq h0,cD hp,show(a:Int)+((min (128-a%128) s.length:Nat):Int)=((a+min (128-a%128) s.length:Nat):Int) by omega];exact AP K K' hK n _ _ _ f (by rw[aV];omega) (by omega) (Dt hm ho) (by rw[aL,aV];omega)
theorem AY {R:Type}(K:Int→Bytes→List Bytes→Option R)(K':List Bytes→Option R)(hK:∀a m,K a [] m=K' m):∀(n:Nat)(m:List Bytes)(a:Nat)(s:Bytes)(f:Nat),s.length≤n→n<f→yg m→a+s.length≤128*m.length→
 aJ (jD K ([]:List Bytes)) f ((a:Int),s,m)=K' (vK n m a s)
 |n,m,a,s,0,_,hf,_,_=>by omega
 |n,m,a,s,f+1,hs,hf,hm,ha=>by
  rw[aJ];simp only[jD];by_cases h0:s.length=0;have:s=[]:=bO h0;subst this;rw[ae (by simp),af,hK];cases n<;>simp[vK];cases n with
  |zero=>omega
  |succ n=>
   obtain⟨hp,hl,ho⟩:=BL hm h0 ha;have h64:=hm.2;have e1:Int.tdiv (a:Int) 128=((a/128:Nat):Int):=I5 a 128;have e2:Int.tmod (a:Int) 128=((a%128:Nat):Int):=Hf a 128;rw[ai (by omega),ah,aq (by omega),aq (by omega),aq (by omega),e1,e2,wrap64 (n:=((a/128:Nat):Int)) (by omega) (by omega),wrap64 (n:=128-((a%128:Nat):Int)) (by omega) (by omega),aU hp,ab];obtain⟨c,hc⟩:∃c,min (128-a%128) s.length=c:=⟨_,rfl⟩
   rw[show(if 128-((a%128:Nat):Int)<(s.length:Int) then 128-((a%128:Nat):Int) else(s.length:Int))=(c:Int) by split<;>omega];have ht:s.take c=s.take (128-a%128):=by by_cases h3:128-a%128≤s.length;rw[←hc,fO h3];rw[←hc,Nat.min_eq_right (by omega),br (aM _),br (by omega)]
   have hdr:s.drop c=s.drop (128-a%128):=by by_cases h3:128-a%128≤s.length;rw[←hc,fO h3];rw[←hc,Nat.min_eq_right (by omega),bV (aM _),bV (by omega)]
   have hs1:sub s 0 (c:Int)=some (s.take (128-a%128)):=by rw[←ht];unfold sub;rw[ay (by omega)];simp
   have hs2:sub s (c:Int) (s.length:Int)=some (s.drop (128-a%128)):=by rw[←hdr];unfold sub;rw[ay (by omega)];simp
   rw[hs1,ab,Ez _ _ _ (by omega),ab,ab,ab,hs2,ab,VG (by rw[bt,hl];omega),wrap64 (n:=(a:Int)+(c:Int)) (by omega) (by omega),ax];rw[vK,aq h0,cD hp,hc,show(a:Int)+(c:Int)=((a+c:Nat):Int) by omega];exact AY K K' hK n _ _ _ f (by rw[aV];omega) (by omega) (Dt hm ho) (by rw[aL,aV];omega)
def rH (m:List Bytes)(a:Int)(s:Bytes):List Bytes×Bool:=bif dX m a (s.length:Int) then(vK s.length m a.toNat s,true) else(m,false)
theorem Pc (m:List Bytes)(a:Int)(s:Bytes)(h:m.length≤1000000000)(hs:s.length≤1000000000):nh m a s=some (rH m a s):=by
 have hfu:=cC;unfold nh rH;rw[gS m (by omega),ab,zy m _ _ h,ab];cases hw:dX m a (s.length:Int)with|false=>rfl|true=>?_
 simp only[dX,aj,aP]at hw;obtain⟨a,rfl⟩:=aO hw.2.2.1;simp only[al,af,ah,ax];exact AP _ (λm=>some (m,true)) (λ_ _=>rfl) s.length m a s fuel (aM _) (by omega) (Aq.1 hw.1) (by omega)
theorem P1 (m:List Bytes)(a:Int)(s:Bytes)(h:m.length≤1000000000)(hs:s.length≤1000000000):nK m a s=some (rH m a s):=by
 have hfu:=cC;unfold nK rH;rw[kM m (by omega),ab,zR m _ _ h,ab];cases hw:dX m a (s.length:Int)with|false=>rfl|true=>?_
 simp only[dX,aj,aP]at hw;obtain⟨a,rfl⟩:=aO hw.2.2.1;simp only[al,af,ah,ax];exact AY _ (λm=>some (m,true)) (λ_ _=>rfl) s.length m a s fuel (aM _) (by omega) (Aq.1 hw.1) (by omega)
theorem zY (m:List Bytes)(a:Int)(s:Bytes):(rH m a s).1.length=m.length:=by
 unfold rH;cases hw:dX m a (s.length:Int)with|false=>rfl|true=>?_
 simp only[dX,aj,aP]at hw;exact(yB s.length (Aq.1 hw.1) (by omega)).2
def KO:List (Int×Int)→List Bytes→Bytes→List Bytes
 |[],m,_=>m
 |p::q,m,s=>KO q (rH m p.1 (s.take p.2.toNat)).1 (s.drop p.2.toNat)
theorem Np:∀(q:List (Int×Int))(m:List Bytes)(s:Bytes),(KO q m s).length=m.length
 |[],m,s=>rfl
 |p::q,m,s=>by rw[KO,Np q,zY]
def En (q:List (Int×Int)):Int:=(q.map (·.2)).sum
theorem RI:∀(q:List (Int×Int)),(∀p∈q,0≤p.2)→0≤En q
 |[],_=>Int.le_refl _
 |p::q,h=>by have:=RI q (λx hx=>h x (by simp[hx]));have:=h p (by simp);simp only[En,bW,List.sum_cons]at*;omega
theorem Nt {p:Int×Int}{q:List (Int×Int)}(hc:∀x∈p::q,0≤x.2){s:Bytes}(hs:(s.length:Int)=En (p::q)):0≤p.2∧p.2≤(s.length:Int)∧((s.drop p.2.toNat).length:Int)=En q:=by
 have h1:=hc p (by simp);have h2:=RI q (λx hx=>hc x (by simp[hx]));have h3:En (p::q)=p.2+En q:=by simp[En]
 rw[h3]at hs;refine⟨h1,by omega,?_⟩;rw[aV];omega
theorem I3 {s:Bytes}{c:Int}(h0:0≤c)(h1:c≤(s.length:Int)):sub s 0 c=some (s.take c.toNat):=by unfold sub;rw[ay (by omega)];simp
theorem NS {s:Bytes}{c:Int}(h0:0≤c)(h1:c≤(s.length:Int)):sub s c (s.length:Int)=some (s.drop c.toNat):=by unfold sub;rw[ay (by omega)];simp
theorem DS (K:Bytes→Int→List Bytes→Option (List Bytes×Bool))(hK:∀s i m,K s i m=some (m,true)):∀(rest pre:List (Int×Int))(m:List Bytes)(s:Bytes)(f:Nat),rest.length<f→pre.length+rest.length≤1000000→(∀x∈rest,0≤x.2)→(s.length:Int)=En rest→m.length≤1000000000→s.length≤1000000→
 aJ (s7 K (pre++rest) ((pre++rest).length:Int) ([]:List Bytes)) f (s,(pre.length:Int),m)=some (KO rest m s,true)
 |rest,pre,m,s,0,hf,_,_,_,_,_=>by omega
 |[],pre,m,s,f+1,_,_,_,_,_,_=>by rw[aJ];simp only[s7];rw[ae (by simp),af,hK];rfl
 |p::q,pre,m,s,f+1,hf,hn,hc,hs,hm,hl=>by
  obtain⟨h1,h2,h3⟩:=Nt hc hs;simp only[a7]at hf hn;have hi:pre.length<(pre++p::q).length:=by simp
  have hp:(pre++p::q)[pre.length]=p:=by simp
  rw[aJ];simp only[s7];rw[ai (by simp;omega),aU hi,hp,wrap64 (by omega) (by omega)];simp only[ah,ab,I3 h1 h2,NS h1 h2,Pc m _ _ hm (show(s.take p.2.toNat).length≤1000000000 by rw[bt];omega)];have key:=DS K hK q (pre++[p]) (rH m p.1 (s.take p.2.toNat)).1 (s.drop p.2.toNat) f (by omega) (by simp;omega) (λx hx=>hc x (by simp[hx])) h3 (by rw[zY];exact hm) (by rw[aV];omega);have el:((pre++[p]).length:Int)=(pre.length:Int)+1:=by simp
  rw[aE,List.singleton_append,el]at key;rw[KO];exact key
theorem D0 (K:Bytes→Int→List Bytes→Option (List Bytes×Bool))(hK:∀s i m,K s i m=some (m,true)):∀(rest pre:List (Int×Int))(m:List Bytes)(s:Bytes)(f:Nat),rest.length<f→pre.length+rest.length≤1000000→(∀x∈rest,0≤x.2)→(s.length:Int)=En rest→m.length≤1000000000→s.length≤1000000→
 aJ (kj K ((pre++rest).map (·.1)) ((pre++rest).map (·.2)) ([]:List Bytes)) f (s,(pre.length:Int),m)=some (KO rest m s,true)
 |rest,pre,m,s,0,hf,_,_,_,_,_=>by omega
 |[],pre,m,s,f+1,_,_,_,_,_,_=>by rw[aJ];simp only[kj];rw[ae (by simp),af,hK];rfl
 |p::q,pre,m,s,f+1,hf,hn,hc,hs,hm,hl=>by
  obtain⟨h1,h2,h3⟩:=Nt hc hs;simp only[a7]at hf hn;have hi:pre.length<(pre++p::q).length:=by simp
  have hp:(pre++p::q)[pre.length]=p:=by simp
  have i1:idx ((pre++p::q).map (·.1)) (pre.length:Int)=some p.1:=by rw[aU (by simp),List.getElem_map,hp]
  have i2:idx ((pre++p::q).map (·.2)) (pre.length:Int)=some p.2:=by rw[aU (by simp),List.getElem_map,hp]
  rw[aJ];simp only[kj];rw[ai (by simp;omega),i1,i2,wrap64 (by omega) (by omega)];simp only[ah,ab,I3 h1 h2,NS h1 h2,P1 m _ _ hm (show(s.take p.2.toNat).length≤1000000000 by rw[bt];omega)];have key:=D0 K hK q (pre++[p]) (rH m p.1 (s.take p.2.toNat)).1 (s.drop p.2.toNat) f (by omega) (by simp;omega) (λx hx=>hc x (by simp[hx])) h3 (by rw[zY];exact hm) (by rw[aV];omega);have el:((pre++[p]).length:Int)=(pre.length:Int)+1:=by simp
  rw[aE,List.singleton_append,el]at key;rw[KO];exact key
theorem GL (l:List aA)(m:List Bytes)(d:Int)(w:Bool):∀(n a r:Nat)(q:List (Int×Int)),r≤n→kO l m d w n a r=some q→En q=(r:Int)∧(∀p∈q,0≤p.2)∧q.length≤n
 |0,a,r,q,hr,h=>by simp only[kO,aS]at h;subst h;exact⟨by show(0:Int)=_;omega,by simp,by simp⟩
 |n+1,a,r,q,hr,h=>by simp only[kO]at h;split at h;simp only[aS]at h;subst h;exact⟨by show(0:Int)=_;omega,by simp,by simp⟩;split at h;simp only[Option.map_eq_some_iff]at h;obtain⟨q',h1,rfl⟩:=h;obtain⟨i1,i2,i3⟩:=GL l m d w n _ _ q' (by omega) h1;refine⟨?_,?_,by simp only[a7];omega⟩;simp only[En,bW,List.sum_cons]at i1⊢;rw[i1];omega;intro p hp;rcases bM.1 hp with rfl|hp;show(0:Int)≤((min (128-a%128) r:Nat):Int);omega;exact i2 p hp;cases h
theorem IM (l:List aA)(m:List Bytes)(d a n:Int)(w:Bool)(h:(kh l m d a n w).2=true):En (kh l m d a n w).1=n∧(∀p∈(kh l m d a n w).1,0≤p.2)∧(kh l m d a n w).1.length≤4096∧n≤4096:=by
 unfold kh at h⊢;cases hB:ei l&&(eL m&&cq n 0 4096)with|false=>rw[hB]at h;simp at h|true=>?_
 rw[hB]at h;simp only[aj,cv]at hB;simp only[ah]at h⊢;cases h0:n==0 with
 |true=>
  have:n=0:=by simpa using h0
  subst this;exact⟨rfl,by simp,by simp,by omega⟩
 |false=>rw[h0]at h;simp only[af]at h⊢;cases ha:decide (a<0)with|true=>rw[ha]at h;simp at h|false=>rw[ha]at h;simp only[af]at h⊢;cases hq:kO l m d w n.toNat a.toNat n.toNat with|none=>rw[hq]at h;cases h|some q=>obtain⟨i1,i2,i3⟩:=GL l m d w _ _ _ q (aM _) hq;exact⟨by simp only;rw[i1];omega,i2,by simp only;omega,by omega⟩
def mP (l:List aA)(m:List Bytes)(d a:Int)(s:Bytes)(w:Bool):List Bytes×Bool:=
 bif (kh l m d a (s.length:Int) w).2 then(KO (kh l m d a (s.length:Int) w).1 m s,true) else(m,false)
theorem vA (l:List aA)(m:List Bytes)(d a:Int)(s:Bytes)(w:Bool):(mP l m d a s w).1.length=m.length:=by unfold mP;cases (kh l m d a (s.length:Int) w).2 with|false=>rfl|true=>exact Np _ _ _
theorem U0 (l:List aA)(m:List Bytes)(d a:Int)(s:Bytes)(w:Bool)(hl:l.length≤1000000000)(hm:m.length≤1000000000)(ha:a≤9223372036854775807):Ch l m d a s w=some (mP l m d a s w):=by
 have hfu:=cC;unfold Ch mP;rw[gS m (by omega),ab,MM l m d a _ w hl hm ha,ab];have hS:=IM l m d a (s.length:Int) w;generalize kh l m d a (s.length:Int) w=r at hS⊢;cases hr:r.2 with|false=>rfl|true=>?_
 obtain⟨h1,h2,h3,h4⟩:=hS hr;simp only[al,af,ah];exact DS _ (λ_ _ _=>rfl) r.1 [] m s fuel (by omega) (by simp;omega) h2 h1.symm hm (by omega)
theorem yo (l:List aA)(m:List Bytes)(d a:Int)(s:Bytes)(hl:l.length≤1000000000)(hm:m.length≤1000000000)(ha:a≤9223372036854775807):lG l m d a s=some (mP l m d a s true):=by
 have hfu:=cC;unfold lG mP;rw[IV l m d a _ true hl hm ha,ab,kM m (by omega),ab];have hS:=IM l m d a (s.length:Int) true;generalize kh l m d a (s.length:Int) true=r at hS⊢;cases hr:r.2 with|false=>rfl|true=>?_
 obtain⟨h1,h2,h3,h4⟩:=hS hr;simp only[al,af,ah];exact D0 _ (λ_ _ _=>rfl) r.1 [] m s fuel (by omega) (by simp;omega) h2 h1.symm hm (by omega)
theorem xE (l:List aA)(m:List Bytes)(d a:Int)(s:Bytes)(hl:l.length≤1000000000)(hm:m.length≤1000000000)(ha:a≤9223372036854775807):lv l m d a s=some (mP l m d a s true):=by rw[lv,U0 l m d a s true hl hm ha];rfl
def zg (d:Int×Int×Int×Int×Int×Int):Bool:=cq d.1 0 3&&(cq d.2.1 0 3&&(cq d.2.2.1 0 65535&&(cq d.2.2.2.2.1 0 65535&&(cq d.2.2.2.2.2 0 65535&&cq d.2.2.2.1 0 4294967295))))
theorem UN (d:Int×Int×Int×Int×Int×Int):vT d=some (zg d):=by simp only[vT,cz,ab,zg];cases cq d.1 0 3<;>cases cq d.2.1 0 3<;>cases cq d.2.2.1 0 65535<;>cases cq d.2.2.2.2.1 0 65535<;>cases cq d.2.2.2.2.2 0 65535<;>rfl
theorem VR (d:Int×Int×Int×Int×Int×Int):wA d=some (zg d):=by simp only[wA,cc,ab,zg];cases cq d.1 0 3<;>cases cq d.2.1 0 3<;>cases cq d.2.2.1 0 65535<;>cases cq d.2.2.2.2.1 0 65535<;>cases cq d.2.2.2.2.2 0 65535<;>rfl
def Ec (d:Int×Int×Int×Int×Int×Int):Bytes:=
 bif zg d then((((bytesOf [fg d.1,fg d.2.1]++cZ d.2.2.1)++ez d.2.2.2.1)++cZ d.2.2.2.2.1)++cZ d.2.2.2.2.2)++ez 0 else []
theorem K2 (d:Int×Int×Int×Int×Int×Int):lh d=some (Ec d):=by
 have h1:=bu d.2.2.1;have h2:=cy d.2.2.2.1;have h3:=bu d.2.2.2.2.1;have h4:=bu d.2.2.2.2.2;have h5:=cy 0;have h0:(bytesOf [fg d.1,fg d.2.1]).length=2:=rfl;unfold lh Ec;rw[VR,ab];cases zg d with|false=>rfl|true=>?_
 simp only[al,af,ah,jf,jg,ab];rw[aK (by omega),aK (by simp only[ak];omega),aK (by simp only[ak];omega),aK (by simp only[ak];omega),aK (by simp only[ak];omega)]
theorem Rd (d:Int×Int×Int×Int×Int×Int):k6 d=some (Ec d):=by
 have h1:=bu d.2.2.1;have h2:=cy d.2.2.2.1;have h3:=bu d.2.2.2.2.1;have h4:=bu d.2.2.2.2.2;have h5:=cy 0;have h0:(bytesOf [fg d.1,fg d.2.1]).length=2:=rfl;unfold k6 Ec;rw[UN,ab];cases zg d with|false=>rfl|true=>?_
 simp only[al,af,ah,mm,po,ab];rw[aK (by omega),aK (by simp only[ak];omega),aK (by simp only[ak];omega),aK (by simp only[ak];omega),aK (by simp only[ak];omega)]
def rK (r:Int×Int×Int×Int):Int:=bif fW r then ao (r.2.1-lf r) else 0
def mR (r:Int×Int×Int×Int)(c:Int):Int:=bif !fW r||decide (c<0) then-1 else r.1+Int.tmod c r.2.1*16
theorem wv {r:Int×Int×Int×Int}(h:fW r=true):0≤r.1∧r.1≤130944∧(r.2.1=2∨r.2.1=4∨r.2.1=8∨r.2.1=16)∧0≤r.2.2.1∧r.2.2.1≤2*r.2.1-1∧0≤r.2.2.2∧r.2.2.2≤2*r.2.1-1:=by simp only[fW,aj,cv]at h;exact⟨h.1.1,h.1.2,jd.1 h.2.1,h.2.2.1.1,h.2.2.1.2,h.2.2.2.1.1,h.2.2.2.1.2⟩
theorem xj (r:Int×Int×Int×Int)(c:Int): -1≤mR r c∧mR r c≤200000:=by
 unfold mR;cases hc: !fW r||decide (c<0)with
 |true=>exact⟨Int.le_refl _,by simp⟩
 |false=>
  simp only[Bool.or_eq_false_iff,Bool.not_eq_false',decide_eq_false_iff_not]at hc;have h:=wv hc.1;have h2:0≤Int.tmod c r.2.1∧Int.tmod c r.2.1<r.2.1:=by rw[dn (by omega)];exact⟨dj _ (by omega),cX _ (by omega)⟩
  simp only[af];omega
def da (l:List aA)(m:List Bytes)(d:Int)(r:Int×Int×Int×Int)(s:Bytes):List Bytes×(Int×Int×Int×Int)×Bool:=
 bif (rK r==0)||((s.length:Int) !=16) then(m,r,false) else
 bif !(mP l m d (mR r r.2.2.2) s true).2 then(m,r,false) else
 ((mP l m d (mR r r.2.2.2) s true).1,(r.1,r.2.1,r.2.2.1,Int.tmod (r.2.2.2+1) (2*r.2.1)),true)
theorem Dv {l:List aA}{m:List Bytes}{d a:Int}{s:Bytes}{w:Bool}(h:(mP l m d a s w).2=false):(mP l m d a s w).1=m:=by unfold mP at h⊢;cases hr:(kh l m d a (s.length:Int) w).2 with|false=>rfl|true=>rw[hr]at h;cases h
theorem DE (r:Int×Int×Int×Int):oA r=some (rK r):=by
 unfold oA rK;rw[vG,ab];cases fW r with|false=>rfl|true=>?_
 simp only[al,af,ah,CJ,ab]
theorem DG (r:Int×Int×Int×Int)(c:Int):ko r c=some (mR r c):=by
 have hin:=xj r c;unfold ko;rw[vG,ab];unfold mR at hin⊢;cases hb:fW r with|false=>rfl|true=>?_
 have h:=wv hb;by_cases hc:c<0;rw[ai hc];rfl;rw[hb,ae hc]at hin;rw[ae hc];have h2:0≤Int.tmod c r.2.1∧Int.tmod c r.2.1<r.2.1:=by rw[dn (by omega)];exact⟨dj _ (by omega),cX _ (by omega)⟩
 simp only[al,af,ab,bI]at hin⊢;rw[aq (by omega),wrap64 (n:=16*Int.tmod c r.2.1) (by omega) (by omega),wrap64 (by omega) (by omega)];congr 1;omega
theorem NM (l:List aA)(m:List Bytes)(d:Int)(r:Int×Int×Int×Int)(s:Bytes)(hl:l.length≤1000000000)(hm:m.length≤1000000000):uw l m d r s=some (da l m d r s):=by
 have hA:=xj r r.2.2.2;unfold uw da;simp only[DE,ab,DG,yo l m d _ s hl hm (show mR r r.2.2.2≤9223372036854775807 by omega),kM m (show m.length≤1073741824 by omega)];cases hf:rK r==0 with|true=>rfl|false=>?_
 cases (s.length:Int) !=16 with|true=>rfl|false=>?_
 have hb:fW r=true:=by cases hb:fW r with|true=>rfl|false=>unfold rK at hf;rw[hb]at hf;cases hf
 have h:=wv hb;simp only[af,ab,bI];cases hp:(mP l m d (mR r r.2.2.2) s true).2 with|false=>simp only[cA,ah,Dv hp]|true=>simp only[al,af];rw[wrap64 (n:=2*r.2.1) (by omega) (by omega),aq (by omega),wrap64 (n:=r.2.2.2+1) (by omega) (by omega)]
theorem Su (r:Int×Int×Int×Int):so r=some (rK r):=by
 unfold so rK;rw[w3,ab];cases fW r with|false=>rfl|true=>?_
 simp only[al,af,ah,Gn,ab]
theorem It (r:Int×Int×Int×Int)(c:Int):jK r c=some (mR r c):=by
 have hin:=xj r c;unfold jK;rw[w3,ab];unfold mR at hin⊢;cases hb:fW r with|false=>rfl|true=>?_
 have h:=wv hb;by_cases hc:c<0;rw[ai hc];rfl;rw[hb,ae hc]at hin;rw[ae hc];have h2:0≤Int.tmod c r.2.1∧Int.tmod c r.2.1<r.2.1:=by rw[dn (by omega)];exact⟨dj _ (by omega),cX _ (by omega)⟩
 simp only[al,af,ab,bI]at hin⊢;rw[aq (by omega),wrap64 (n:=Int.tmod c r.2.1*16) (by omega) (by omega),wrap64 (by omega) (by omega)]
theorem ML (l:List aA)(m:List Bytes)(d:Int)(r:Int×Int×Int×Int)(s:Bytes)(hl:l.length≤1000000000)(hm:m.length≤1000000000):ub l m d r s=some (da l m d r s):=by
 have hA:=xj r r.2.2.2;unfold ub da;simp only[Su,ab,It,xE l m d _ s hl hm (show mR r r.2.2.2≤9223372036854775807 by omega),gS m (show m.length≤1073741824 by omega)];cases hf:rK r==0 with|true=>rfl|false=>?_
 cases (s.length:Int) !=16 with|true=>rfl|false=>?_
 have hb:fW r=true:=by cases hb:fW r with|true=>rfl|false=>unfold rK at hf;rw[hb]at hf;cases hf
 have h:=wv hb;simp only[af,ab,bI];cases hp:(mP l m d (mR r r.2.2.2) s true).2 with|false=>simp only[cA,ah,Dv hp]|true=>simp only[al,af];rw[wrap64 (n:=2*r.2.1) (by omega) (by omega),aq (by omega),wrap64 (n:=r.2.2.2+1) (by omega) (by omega)]
theorem Ev {p:bZ}(h:fC p=true):0≤p.1∧p.1≤130944∧1≤p.2.1∧p.2.1≤512∧0≤p.2.2.1∧p.2.2.1≤16:=by simp only[fC,aj,cv]at h;exact⟨h.1.1,h.1.2,h.2.1.1,h.2.1.2,h.2.2.1.1,h.2.2.1.2⟩
def uS (p:bZ)(i:Int):Int:=bif !fC p|| !cq i 0 (p.2.2.1-1) then-1 else p.1+i*p.2.1
theorem Qt {p:bZ}{i:Int}(hp:fC p=true)(hi:cq i 0 (p.2.2.1-1)=true):ao (p.1+ao (i*p.2.1))=p.1+i*p.2.1:=by have h:=Ev hp;have h2:=cv.1 hi;have h3:0≤i*p.2.1:=Int.mul_nonneg h2.1 (by omega);have h4:i*p.2.1≤16*512:=Int.mul_le_mul (by omega) (by omega) (by omega) (by omega);rw[wrap64 (n:=i*p.2.1) (by omega) (by omega),wrap64 (by omega) (by omega)]
theorem NF (p:bZ)(i:Int)(h:p.2.2.2.length≤1000000000):hZ p i=some (uS p i):=by
 unfold hZ uS;rw[vF p h,ab];cases hp:fC p with|false=>rfl|true=>?_
 have hin:=Ev hp;rw[wrap64 (n:=p.2.2.1-1) (by omega) (by omega),cc];cases hi:cq i 0 (p.2.2.1-1)with|false=>rfl|true=>?_
 simp only[al,af,ab,bI,Qt hp hi]
theorem ME (p:bZ)(i:Int)(h:p.2.2.2.length≤1000000000):g9 p i=some (uS p i):=by
 unfold g9 uS;rw[u1 p h,ab];cases hp:fC p with|false=>rfl|true=>?_
 have hin:=Ev hp;rw[wrap64 (n:=p.2.2.1-1) (by omega) (by omega),cz];cases hi:cq i 0 (p.2.2.1-1)with|false=>rfl|true=>?_
 simp only[al,af,ab,bI,Qt hp hi]
def descOf (p:bZ)(b:Int):Bytes:=Ec (3,0,p.2.1,uS p b,0,b)
def kZ (l:List aA)(d:Int)(p:bZ):List Int→List Bytes→(Int×Int×Int×Int)→Nat×List Bytes×(Int×Int×Int×Int)
 |[],m,r=>(0,m,r)
 |b::q,m,r=>bif (da l m d r (descOf p b)).2.2 then
   ((kZ l d p q (da l m d r (descOf p b)).1 (da l m d r (descOf p b)).2.1).1+1,(kZ l d p q (da l m d r (descOf p b)).1 (da l m d r (descOf p b)).2.1).2)
  else(0,m,r)
theorem yk (l:List aA)(m:List Bytes)(d:Int)(r:Int×Int×Int×Int)(s:Bytes):(da l m d r s).1.length=m.length:=by
 unfold da;cases (rK r==0)||((s.length:Int) !=16)with|true=>rfl|false=>?_
 cases (mP l m d (mR r r.2.2.2) s true).2 with|false=>rfl|true=>exact vA ..
theorem C4 (l:List aA)(d:Int)(p:bZ):∀(q:List Int)(m:List Bytes)(r:Int×Int×Int×Int),(kZ l d p q m r).2.1.length=m.length∧(kZ l d p q m r).1≤q.length
 |[],m,r=>⟨rfl,aM _⟩
 |b::q,m,r=>by rw[kZ];cases (da l m d r (descOf p b)).2.2 with|false=>exact⟨rfl,dv _⟩|true=>have:=C4 l d p q (da l m d r (descOf p b)).1 (da l m d r (descOf p b)).2.1;simp only[ah,a7];exact⟨by rw[this.1,yk],by omega⟩
theorem Uw (r:Int×Int×Int×Int):0≤rK r:=by
 unfold rK;cases hb:fW r with
 |false=>exact Int.le_refl _
 |true=>
  have h:=wv hb;simp only[fW,aj,aP]at hb;have hu:=hb.2.2.2.2;have h0:0≤lf r:=by unfold lf;split;exact dj _ (by omega);exact Int.le_refl _
  simp only[ah];rw[wrap64 (by omega) (by omega)];omega
theorem KQ {l:List aA}{m:List Bytes}{d:Int}{r:Int×Int×Int×Int}{s:Bytes}(h:¬rK r>0):da l m d r s=(m,r,false):=by
 have h0:=Uw r;have:rK r=0:=by omega
 unfold da;rw[this];rfl
theorem Ca {R:Type}(K:Int→Int→(Int×Int×Int×Int)→List Bytes→Option R)(K':Nat→(Int×Int×Int×Int)→List Bytes→Option R)(hK:∀(c:Nat) i r m,K (c:Int) i r m=K' c r m)(l:List aA)(d:Int)(p p2 p3:bZ)(hp:p.2.2.2.length≤1000000000)(hl:l.length≤1000000000):∀(rest pre:List Int)(m:List Bytes)(r:Int×Int×Int×Int)(f:Nat),rest.length<f→pre.length+rest.length≤1000000000→m.length≤1000000000→
 aJ (jI K l d (pre++rest) ((pre++rest).length:Int) p ([]:List Bytes) (0,0,0,0) p2 p3) f ((pre.length:Int),(pre.length:Int),r,m)=K' (pre.length+(kZ l d p rest m r).1) (kZ l d p rest m r).2.2 (kZ l d p rest m r).2.1
 |rest,pre,m,r,0,hf,_,_=>by omega
 |[],pre,m,r,f+1,_,_,_=>by rw[aJ];simp only[jI];rw[ae (by simp),af,hK];rfl
 |b::q,pre,m,r,f+1,hf,hn,hm=>by
  simp only[a7]at hf hn;have hi:pre.length<(pre++b::q).length:=by simp
  have hb:(pre++b::q)[pre.length]=b:=by simp
  rw[aJ];simp only[jI];rw[ai (by simp;omega),aU hi,hb];simp only[ah,ab,ME p b hp,Rd,ML l m d r _ hl hm];rw[show Ec (3,0,p.2.1,uS p b,0,b)=descOf p b from rfl,kZ];cases hq:(da l m d r (descOf p b)).2.2 with
  |false=>simp only[cA,ah,af,hK,ck]
  |true=>
   simp only[al,af,ah];rw[wrap64 (n:=(pre.length:Int)+1) (by omega) (by omega)];have key:=Ca K K' hK l d p p2 p3 hp hl q (pre++[b]) (da l m d r (descOf p b)).1 (da l m d r (descOf p b)).2.1 f (by omega) (by simp;omega) (by rw[yk];exact hm);have el:((pre++[b]).length:Int)=(pre.length:Int)+1:=by simp
   have el2:(pre++[b]).length=pre.length+1:=by simp
   rw[aE,List.singleton_append,el,el2]at key;rw[show pre.length+((kZ l d p q (da l m d r (descOf p b)).1 (da l m d r (descOf p b)).2.1).1+1)=pre.length+1+(kZ l d p q (da l m d r (descOf p b)).1 (da l m d r (descOf p b)).2.1).1 by omega];exact key
theorem CD {R:Type}(K:Int→(Int×Int×Int×Int)→List Bytes→bZ→Option R)(l:List aA)(d:Int)(p p2:bZ)(hp:p.2.2.2.length≤1000000000)(hl:l.length≤1000000000)(A B C:Int):∀(rest:List Int)(c:Nat)(m:List Bytes)(r:Int×Int×Int×Int)(f:Nat),rest.length<f→c+rest.length≤1000000000→m.length≤1000000000→
 aJ (kl K l d p ([]:List Bytes) (0,0,0,0) p2) f ((c:Int),r,m,A,B,C,rest)=K ((c+(kZ l d p rest m r).1:Nat):Int) (kZ l d p rest m r).2.2 (kZ l d p rest m r).2.1 (A,B,C,rest.drop (kZ l d p rest m r).1)
 |rest,c,m,r,0,hf,_,_=>by omega
 |[],c,m,r,f+1,_,_,_=>by
  rw[aJ];simp only[kl,DE,ab];have hc:(cond (decide (rK r>0)) (some (decide ((([]:List Int).length:Int)>0))) (some false))=some false:=by cases decide (rK r>0)<;>rfl
  rw[hc];rfl
 |b::q,c,m,r,f+1,hf,hn,hm=>by
  simp only[a7]at hf hn;rw[aJ];simp only[kl,DE,ab];by_cases hr:rK r>0;rw[ai hr,ai (show(((b::q).length:Nat):Int)>0 by simp)];have hi:idx (b::q) 0=some b:=rfl;have hs:sub (b::q) 1 ((b::q).length:Int)=some q:=by unfold sub;rw[ay (by simp;omega)];simp
  simp only[ah,ab,hi,NF p b hp,K2,NM l m d r _ hl hm];rw[show Ec (3,0,p.2.1,uS p b,0,b)=descOf p b from rfl,kZ];cases hq:(da l m d r (descOf p b)).2.2 with|false=>rfl|true=>simp only[al,af,ah,hs,ab];rw[dw (by omega),wrap64 (n:=(c:Int)+1) (by omega) (by omega),bc];have key:=CD K l d p p2 hp hl A B C q (c+1) (da l m d r (descOf p b)).1 (da l m d r (descOf p b)).2.1 f (by omega) (by omega) (by rw[yk];exact hm);rw[show((c+1:Nat):Int)=(c:Int)+1 by omega]at key;refine Eq.trans key ?_;rw[show c+1+(kZ l d p q (da l m d r (descOf p b)).1 (da l m d r (descOf p b)).2.1).1=c+((kZ l d p q (da l m d r (descOf p b)).1 (da l m d r (descOf p b)).2.1).1+1) by omega];rfl
  rw[ae hr,kZ,KQ hr];rfl
def vP (l:List aA)(m:List Bytes)(d:Int)(r:Int×Int×Int×Int)(p:bZ):List Bytes×(Int×Int×Int×Int)×bZ×Int:=
 bif !fW r|| !fC p then(m,r,p,0) else
 ((kZ l d p p.2.2.2 m r).2.1,(kZ l d p p.2.2.2 m r).2.2,(p.1,p.2.1,p.2.2.1,p.2.2.2.drop (kZ l d p p.2.2.2 m r).1),((kZ l d p p.2.2.2 m r).1:Int))
theorem UO (l:List aA)(m:List Bytes)(d:Int)(r:Int×Int×Int×Int)(p:bZ)(hl:l.length≤1000000000)(hm:m.length≤1000000000)(hp:p.2.2.2.length≤1000000000):sg l m d r p=some (vP l m d r p):=by
 have hfu:=cC;unfold sg vP;simp only[gS m (show m.length≤1073741824 by omega),s4 p hp,w3,u1 p hp,ab];cases fW r with|false=>rfl|true=>?_
 cases fC p with|false=>rfl|true=>?_
 simp only[al,af,ab,bI];have hlen:=(C4 l d p p.2.2.2 m r).2;refine(Ca _ (λc r m=>aa (sub p.2.2.2 (c:Int) (p.2.2.2.length:Int)) λx14=>aa (eA x14) λr15=>some (m,r,(p.1,p.2.1,p.2.2.1,r15),(c:Int))) (λ_ _ _ _=>rfl) l d p _ p hp hl p.2.2.2 [] m r fuel (by omega) (by simp;omega) hm).trans ?_;rw[eo,bJ,EA _ _ _ hlen (aM _),ab,br (by rw[aV];exact aM _),kv _ (by rw[aV];omega)];rfl
theorem VT (l:List aA)(m:List Bytes)(d:Int)(r:Int×Int×Int×Int)(p:bZ)(hl:l.length≤1000000000)(hm:m.length≤1000000000)(hp:p.2.2.2.length≤1000000000):sP l m d r p=some (vP l m d r p):=by
 have hfu:=cC;unfold sP vP;simp only[kM m (show m.length≤1073741824 by omega),u7 p hp,vG,vF p hp,ab];cases fW r with|false=>rfl|true=>?_
 cases fC p with|false=>rfl|true=>?_
 simp only[al,af,ab,bI];refine(CD _ l d p _ hp hl p.1 p.2.1 p.2.2.1 p.2.2.2 0 m r fuel (by omega) (by omega) hm).trans ?_;rw[bJ]
theorem GK (l:List aA)(m:List Bytes)(d:Int)(w:Bool):∀(n a r:Nat)(q:List (Int×Int)),kO l m d w n a r=some q→q.length≤n
 |0,a,r,q,h=>by simp only[kO,aS]at h;subst h;simp
 |n+1,a,r,q,h=>by simp only[kO]at h;split at h;simp only[aS]at h;subst h;simp;split at h;simp only[Option.map_eq_some_iff]at h;obtain⟨q',h1,rfl⟩:=h;have:=GK l m d w n _ _ q' h1;simp only[a7];omega;cases h
theorem Dz (l:List aA)(m:List Bytes)(d a n:Int)(w:Bool):(kh l m d a n w).1.length≤4096:=by
 unfold kh;cases hB:ei l&&(eL m&&cq n 0 4096)with|false=>simp|true=>?_
 simp only[aj,cv]at hB;simp only[ah];cases n==0 with|true=>simp|false=>?_
 cases decide (a<0)with|true=>simp|false=>?_
 simp only[af];split;rename_i q hq;have:=GK _ _ _ _ _ _ _ _ hq;show q.length≤4096;omega;simp
def lD (m:List Bytes)(p:Int×Int):Bytes:=bif dX m p.1 p.2 then tQ m p.1.toNat p.2.toNat else []
theorem wM (m:List Bytes)(p:Int×Int):(lD m p).length≤8192:=by unfold lD;cases h:dX m p.1 p.2 with|false=>simp|true=>simp only[dX,aj,aP]at h;have:=VJ m p.1.toNat p.2.toNat;have:=(mem_iff.1 h.1).2;simp only[ah];omega
theorem rh (m:List Bytes):∀q:List (Int×Int),(q.flatMap (lD m)).length≤8192*q.length
 |[]=>by simp
 |p::q=>by have:=rh m q;have:=wM m p;simp only[List.flatMap_cons,ak,a7];omega
def pV (l:List aA)(m:List Bytes)(d a n:Int):Bytes×Bool:=
 bif (kh l m d a n false).2 then((kh l m d a n false).1.flatMap (lD m),true) else([],false)
theorem B0 {α β:Type}(g:α→List β)(l:List α)(i:Nat)(hi:i<l.length):(l.take (i+1)).flatMap g=(l.take i).flatMap g++g l[i]:=by rw[bh hi,List.flatMap_append];simp
theorem zw (l:List aA)(m:List Bytes)(d a n:Int)(hl:l.length≤1000000000)(hm:m.length≤1000000000)(ha:a≤9223372036854775807):m7 l m d a n=some (pV l m d a n):=by
 unfold m7 pV;rw[MM l m d a n false hl hm ha,ab];have hL:=Dz l m d a n false;generalize kh l m d a n false=r at hL⊢;cases hr:r.2 with|false=>rfl|true=>?_
 simp only[al,af,ah];refine(cS (λi=>((r.1.take i).flatMap (lD m),(i:Int))) r.1.length (by omega) (λi nx hi=>?_) (λnx=>?_));simp only[oH];rw[ai (by omega),aU hi,wrap64 (by omega) (by omega)];have e:k9 m r.1[i].1 r.1[i].2=some (lD m r.1[i],dX m r.1[i].1 r.1[i].2):=by rw[U1 m _ _ hm,lD];cases dX m r.1[i].1 r.1[i].2<;>rfl
 have h1:=rh m (r.1.take i);have h2:=wM m r.1[i];simp only[ah,ab,e];rw[aK (by rw[bt]at h1;omega),←B0];rfl;simp only[oH];rw[ae (by omega),cr];rfl
theorem wy (l:List aA)(m:List Bytes)(d a n:Int)(hl:l.length≤1000000000)(hm:m.length≤1000000000)(ha:a≤9223372036854775807):nA l m d a n=some (pV l m d a n):=by
 unfold nA pV;rw[IV l m d a n false hl hm ha,ab];have hL:=Dz l m d a n false;generalize kh l m d a n false=r at hL⊢;cases hr:r.2 with|false=>rfl|true=>?_
 simp only[al,af,ah];refine(cS (λi=>((r.1.take i).flatMap (lD m),(i:Int))) r.1.length (by omega) (λi nx hi=>?_) (λnx=>?_));simp only[oT];have i1:idx (r.1.map (·.1)) (i:Int)=some r.1[i].1:=by rw[aU (by simpa using hi),List.getElem_map]
 have i2:idx (r.1.map (·.2)) (i:Int)=some r.1[i].2:=by rw[aU (by simpa using hi),List.getElem_map]
 rw[ai (by rw[cL];omega),i1,i2,wrap64 (by omega) (by omega)];have e:ln m r.1[i].1 r.1[i].2=some (lD m r.1[i],dX m r.1[i].1 r.1[i].2):=by rw[V5 m _ _ hm,lD];cases dX m r.1[i].1 r.1[i].2<;>rfl
 have h1:=rh m (r.1.take i);have h2:=wM m r.1[i];simp only[ah,ab,e];rw[aK (by rw[bt]at h1;omega),←B0];rfl;simp only[oT];rw[ae (by rw[cL];omega),cr];rfl
theorem zh (l:List aA)(m:List Bytes)(d a n:Int):(pV l m d a n).1.length≤100000000:=by have hL:=Dz l m d a n false;have h1:=rh m (kh l m d a n false).1;unfold pV;cases (kh l m d a n false).2 with|false=>simp|true=>simp only[ah];omega
def pU (s:Bytes):(Int×Int×Int×Int×Int)×Int×Bool:=
 bif ((s.length:Int) !=16)||decide (dK s 12>1) then((0,0,0,0,0),0,false) else((cu s 0,cu s 2,cu s 4,cu s 6,dK s 8),dK s 12,true)
theorem O3 (s:Bytes)(h:s.length≤1000000000):ic s=some (pU s):=by
 unfold ic pU;cases (s.length:Int) !=16 with|true=>rfl|false=>?_
 simp only[wZ s _ h,uM s _ h,ab,af,cB];cases decide (dK s 12>1)<;>rfl
theorem PW (s:Bytes)(h:s.length≤1000000000):ig s=some (pU s):=by
 unfold ig pU;cases (s.length:Int) !=16 with|true=>rfl|false=>?_
 simp only[pO s _ h,rT s _ h,ab,af,cB];cases decide (dK s 12>1)<;>rfl
def rf (q:Int×Int×Int):Int:=bif decide (q.2.2<q.2.1) then 1 else 0
theorem Iq (q:Int×Int×Int):qn q=some (rf q):=by unfold qn rf;cases decide (q.2.2<q.2.1)<;>rfl
theorem ld {q:Int×Int×Int}(h:fj q=true):0≤q.1∧q.1≤130944∧(q.2.1=2∨q.2.1=4∨q.2.1=8∨q.2.1=16)∧0≤q.2.2∧q.2.2≤2*q.2.1-1:=by simp only[fj,aj,cv]at h;obtain⟨h1,h2,h3⟩:=h;rw[As h2]at h3;exact⟨h1.1,h1.2,jd.1 h2,h3⟩
theorem IW (q:Int×Int×Int)(h:fj q=true):oD q=some (rf q):=by
 obtain⟨_,_,h3,h4,h5⟩:=ld h;have e:Int.tdiv q.2.2 q.2.1=if q.2.2<q.2.1 then 0 else 1:=by rw[Int.tdiv_eq_ediv_of_nonneg h4];split;exact Int.ediv_eq_zero_of_lt h4 (by assumption);rcases h3 with g|g|g|g<;>(rw[g];omega)
 unfold oD rf;rw[aq (by omega),e];by_cases hq:q.2.2<q.2.1;rw[ay hq,ai hq];rfl;rw[aq hq,ae hq];rfl
def gL (q:Int×Int×Int):Int:=q.1+Int.tmod q.2.2 q.2.1*16
theorem RO {a b:Int}(h:0≤a)(hb:0<b):0≤Int.tmod a b∧Int.tmod a b<b:=by rw[dn h];exact⟨dj _ (by omega),cX _ hb⟩
theorem CB {q:Int×Int×Int}(h:fj q=true):0≤Int.tmod q.2.2 q.2.1∧Int.tmod q.2.2 q.2.1<16:=by obtain⟨_,_,h3,h4,h5⟩:=ld h;have:=RO h4 (show 0<q.2.1 by omega);omega
theorem Iu (q:Int×Int×Int)(h:fj q=true):jN q=some (gL q):=by obtain⟨h1,h2,h3,h4,h5⟩:=ld h;have:=CB h;unfold jN gL;rw[aq (by omega),wrap64 (n:=Int.tmod q.2.2 q.2.1*16) (by omega) (by omega),wrap64 (by omega) (by omega)]
def amh (q:Int×Int×Int):Int×Int×Int:=(q.1,q.2.1,Int.tmod (q.2.2+1) (2*q.2.1))
def KD (l:List aA)(m:List Bytes)(d:Int)(q:Int×Int×Int):Bool:=
 fj q&&((pV l m d (gL q) 16).2&&((pU (pV l m d (gL q) 16).1).2.2&&((pU (pV l m d (gL q) 16).1).2.1==rf q)))
def ox (l:List aA)(m:List Bytes)(d:Int)(q:Int×Int×Int):(Int×Int×Int×Int×Int)×(Int×Int×Int)×Bool:=
 bif KD l m d q then((pU (pV l m d (gL q) 16).1).1,amh q,true) else((0,0,0,0,0),q,false)
theorem UX (l:List aA)(m:List Bytes)(d:Int)(q:Int×Int×Int)(hl:l.length≤1000000000)(hm:m.length≤1000000000):jr l m d q=some (ox l m d q):=by
 unfold jr ox KD;rw[Db q,ab];cases hq:fj q with|false=>rfl|true=>?_
 obtain⟨h1,h2,h3,h4,h5⟩:=ld hq;have hs:=CB hq;have hd:=zh l m d (gL q) 16;simp only[al,af,Iu q hq,ab,zw l m d (gL q) 16 hl hm (by unfold gL;omega),bn];cases (pV l m d (gL q) 16).2 with|false=>rfl|true=>?_
 simp only[al,af,O3 _ (aH hd (by omega)),ab,bn];cases (pU (pV l m d (gL q) 16).1).2.2 with|false=>rfl|true=>?_
 simp only[al,af,Iq,ab,bn,bne];cases (pU (pV l m d (gL q) 16).1).2.1==rf q with|false=>rfl|true=>?_
 simp only[al,af,ah];rw[wrap64 (n:=2*q.2.1) (by omega) (by omega),aq (by omega),wrap64 (n:=q.2.2+1) (by omega) (by omega)];rfl
theorem V1 (l:List aA)(m:List Bytes)(d:Int)(q:Int×Int×Int)(hl:l.length≤1000000000)(hm:m.length≤1000000000):jB l m d q=some (ox l m d q):=by
 unfold jB ox KD;rw[DF q,ab];cases hq:fj q with|false=>rfl|true=>?_
 obtain⟨h1,h2,h3,h4,h5⟩:=ld hq;have hs:=CB hq;have hd:=zh l m d (gL q) 16;have es:ao (q.1+ao (16*Int.tmod q.2.2 q.2.1))=gL q:=by rw[wrap64 (n:=16*Int.tmod q.2.2 q.2.1) (by omega) (by omega),wrap64 (by omega) (by omega),gL];omega
 simp only[al,af];rw[aq (by omega),es];simp only[wy l m d (gL q) 16 hl hm (by unfold gL;omega),ab,bn,PW _ (aH hd (by omega)),IW q hq,bne];cases (pV l m d (gL q) 16).2 with|false=>rfl|true=>?_
 cases (pU (pV l m d (gL q) 16).1).2.2 with|false=>rfl|true=>?_
 cases (pU (pV l m d (gL q) 16).1).2.1==rf q with|false=>rfl|true=>?_
 simp only[al,af,ah,ab,bn];rw[wrap64 (n:=2*q.2.1) (by omega) (by omega),aq (by omega),wrap64 (n:=q.2.2+1) (by omega) (by omega)];rfl
def EM (s:Bytes)(i:Nat):Nat:=bX s (i/8)/2^(7-i%8)%2
theorem BN (s:Bytes)(i:Nat):EM s i<2:=Nat.mod_lt _ (by omega)
theorem Lz (b k:Nat)(hb:b<256)(hk:k≤7):ao (BitVec.toNat (BitVec.ofInt (IntKind.bits .i64) (ao (Int.fdiv (b:Int) ((2^k:Nat):Int)))&&&BitVec.ofInt (IntKind.bits .i64) 1))=((b/2^k%2:Nat):Int):=by have e:Int.fdiv (b:Int) ((2^k:Nat):Int)=((b/2^k:Nat):Int):=(Int.ofNat_fdiv b (2^k)).symm;have h1:b/2^k≤b:=Nat.div_le_self _ _;rw[e,fE (n:=b/2^k) (by omega)];have:=ZM (b/2^k) 1 (by omega) (by omega);rw[show((1:Nat):Int)=1 from rfl]at this;rw[this,Nat.and_one_is_mod];exact fE (by omega)
theorem Ra (s:Bytes)(i:Nat)(hi:i/8<s.length)(h:s.length≤1000000000):s6 s (i:Int)=some ((EM s i:Nat):Int):=by
 have e1:Int.tdiv (i:Int) 8=((i/8:Nat):Int):=(Int.ofNat_tdiv i 8).symm;have e2:Int.tmod (i:Int) 8=((i%8:Nat):Int):=(Int.ofNat_tmod i 8).symm;unfold s6;rw[aq (by omega),e1,wrap64 (n:=((i/8:Nat):Int)) (by omega) (by omega),aU hi,ab,aq (by omega),e2,wrap64 (n:=7-((i%8:Nat):Int)) (by omega) (by omega),aq (by omega)];have e3:(2:Int)^(min (Int.toNat (7-((i%8:Nat):Int))) (IntKind.bits .u8))=((2^(7-i%8):Nat):Int):=by rw[show min (Int.toNat (7-((i%8:Nat):Int))) (IntKind.bits .u8)=7-i%8 from by show min _ 8=_;omega];push_cast;rfl
 rw[e3,Lz _ _ (iy _) (by omega),EM,bX,cD hi]
theorem Rz (s:Bytes)(i:Nat)(hi:i/8<s.length)(h:s.length≤1000000000):tr s (i:Int)=some ((EM s i:Nat):Int):=by
 have e1:Int.tdiv (i:Int) 8=((i/8:Nat):Int):=(Int.ofNat_tdiv i 8).symm;have e2:Int.tmod (i:Int) 8=((i%8:Nat):Int):=(Int.ofNat_tmod i 8).symm;have hb:=iy s[i/8];unfold tr;rw[aq (by omega),e1,wrap64 (n:=((i/8:Nat):Int)) (by omega) (by omega),aU hi,ab,aq (by omega),e2,wrap64 (n:=7-((i%8:Nat):Int)) (by omega) (by omega),aq (by omega),fE (n:=s[i/8].toNat) (by omega)];have e3:(2:Int)^(min (Int.toNat (7-((i%8:Nat):Int))) (IntKind.bits .i64))=((2^(7-i%8):Nat):Int):=by rw[show min (Int.toNat (7-((i%8:Nat):Int))) (IntKind.bits .i64)=7-i%8 from by show min _ 64=_;omega];push_cast;rfl
 have e4:Int.fdiv ((s[i/8].toNat:Nat):Int) ((2^(7-i%8):Nat):Int)=((s[i/8].toNat/2^(7-i%8):Nat):Int):=(Int.ofNat_fdiv _ _).symm;have h1:s[i/8].toNat/2^(7-i%8)≤s[i/8].toNat:=Nat.div_le_self _ _;have key:=Lz s[i/8].toNat (7-i%8) hb (by omega);rw[e4,fE (n:=s[i/8].toNat/2^(7-i%8)) (by omega)]at key;rw[e3,e4,key,EM,bX,cD hi]
def Qk (s:Bytes)(a:Nat):Nat→Nat
 |0=>0
 |j+1=>2*Qk s a j+EM s (a+j)
theorem Yc (s:Bytes)(a:Nat):∀j,Qk s a j<2^j
 |0=>by simp[Qk]
 |j+1=>by have:=Yc s a j;have:=BN s (a+j);rw[Qk,Nat.pow_succ];omega
theorem Hp (s:Bytes)(a j:Nat)(hj:j≤32):Qk s a j<4294967296:=Nat.lt_of_lt_of_le (Yc s a j) (Nat.pow_le_pow_right (n:=2) (by omega) hj)
def Od (s:Bytes)(a:Int):Int:=bif ((s.length:Int) !=16)|| !cq a 0 96 then-1 else((Qk s a.toNat 32:Nat):Int)
theorem YO (s:Bytes)(a:Int):qa s a=some (Od s a):=by
 unfold qa Od;rw[cz];cases hs:(s.length:Int) !=16 with|true=>rfl|false=>?_
 cases ha:cq a 0 96 with|false=>rfl|true=>?_
 have h1:=cv.1 ha;have h2:s.length=16:=by simp at hs;omega
 obtain⟨a,rfl⟩:=aO h1.1;simp only[af,ab,al,bI,ax];refine cS (λi=>(((Qk s a i:Nat):Int),((a+i:Nat):Int))) 32 (by omega) (λi nx hi=>?_) (λnx=>?_);have hw:=Hp s a i (by omega);have hb:=BN s (a+i);simp only[lT];rw[wrap64 (n:=(a:Int)+32) (by omega) (by omega),ai (by omega),ah,aq (by omega),Ra s (a+i) (by omega) (by omega),ab,wrap64 (n:=((a+i:Nat):Int)+1) (by omega) (by omega)];have e1:ao (((Qk s a i:Nat):Int)*2^(min (Int.toNat 1) (IntKind.bits .i64)))=((2^1*Qk s a i:Nat):Int):=by have:(2:Int)^(min (Int.toNat 1) (IntKind.bits .i64))=2:=rfl;rw[this,wrap64 (by omega) (by omega)];omega
 rw[e1,BA _ _ _ (by omega) (by omega)];rw[show(((a+i:Nat):Int)+1)=((a+(i+1):Nat):Int) by omega];rfl;simp only[lT];rw[wrap64 (n:=(a:Int)+32) (by omega) (by omega),ae (by omega)];rfl
theorem Zp (s:Bytes)(a:Int):rr s a=some (Od s a):=by
 unfold rr Od;rw[cc];cases hs:(s.length:Int) !=16 with|true=>rfl|false=>?_
 cases ha:cq a 0 96 with|false=>rfl|true=>?_
 have h1:=cv.1 ha;have h2:s.length=16:=by simp at hs;omega
 obtain⟨a,rfl⟩:=aO h1.1;simp only[af,ab,al,bI,ax];refine cS (λi=>(((Qk s a i:Nat):Int),(i:Int))) 32 (by omega) (λi nx hi=>?_) (λnx=>?_);have hw:=Hp s a i (by omega);have hb:=BN s (a+i);simp only[l9];rw[ai (by omega),ah,wrap64 (n:=(a:Int)+(i:Int)) (by omega) (by omega),show(a:Int)+(i:Int)=((a+i:Nat):Int) by omega,Rz s (a+i) (by omega) (by omega),ab,wrap64 (n:=(i:Int)+1) (by omega) (by omega)];rw[wrap64 (n:=2*((Qk s a i:Nat):Int)) (by omega) (by omega),wrap64 (by omega) (by omega),Qk];congr 1;simp only[l9];rw[ae (by omega)];rfl
def AN (s v:Bytes):Nat→Nat
 |0=>0
 |i+1=>if EM v i=1 then AN s v i^^^Qk s i 32 else AN s v i
theorem Gf (s v:Bytes):∀i,AN s v i<4294967296
 |0=>by simp[AN]
 |i+1=>by have:=Gf s v i;rw[AN];split;exact wQ this (Hp s i 32 (by omega));exact this
def zt (s v:Bytes):Int:=bif ((s.length:Int) !=16)||decide ((v.length:Int)>12) then-1 else((AN s v (8*v.length):Nat):Int)
theorem UP (s v:Bytes):p6 s v=some (zt s v):=by
 unfold p6 zt;cases hs:(s.length:Int) !=16 with|true=>rfl|false=>?_
 cases hv:decide ((v.length:Int)>12)with|true=>rfl|false=>?_
 have h2:s.length=16:=by simp at hs;omega
 have h3:v.length≤12:=by simp at hv;omega
 simp only[af,ab,bI];refine cS (λi=>(((AN s v i:Nat):Int),(i:Int))) (8*v.length) (by omega) (λi nx hi=>?_) (λnx=>?_);have hw:=Hp s i 32 (by omega);have hh:=Gf s v i;have hb:=BN v i;have eW:Od s (i:Int)=((Qk s i 32:Nat):Int):=by unfold Od;rw[hs,cv.2 (show(0:Int)≤(i:Int)∧(i:Int)≤96 by omega)];rfl
 simp only[lR];rw[wrap64 (n:=8*(v.length:Int)) (by omega) (by omega),ai (by omega),ah,Ra v i (by omega) (by omega),ab,YO,ab,eW,RR _ _ (by omega) (by omega),wrap64 (n:=(i:Int)+1) (by omega) (by omega),fE (Nat.lt_trans (wQ hh hw) (by omega)),AN];by_cases h1:EM v i=1;rw[h1,ay rfl];rfl;rw[aq h1,show(((EM v i:Nat):Int)==1)=false from by simp;omega];rfl;simp only[lR];rw[wrap64 (n:=8*(v.length:Int)) (by omega) (by omega),ae (by omega)];rfl
theorem VV (s v:Bytes):rm s v=some (zt s v):=by
 unfold rm zt;cases hs:(s.length:Int) !=16 with|true=>rfl|false=>?_
 cases hv:decide ((v.length:Int)>12)with|true=>rfl|false=>?_
 have h2:s.length=16:=by simp at hs;omega
 have h3:v.length≤12:=by simp at hv;omega
 simp only[af,ab,bI];refine cS (λi=>(((AN s v i:Nat):Int),(i:Int))) (8*v.length) (by omega) (λi nx hi=>?_) (λnx=>?_);have hw:=Hp s i 32 (by omega);have hh:=Gf s v i;have hb:=BN v i;have eW:Od s (i:Int)=((Qk s i 32:Nat):Int):=by unfold Od;rw[hs,cv.2 (show(0:Int)≤(i:Int)∧(i:Int)≤96 by omega)];rfl
 simp only[l8];rw[wrap64 (n:=8*(v.length:Int)) (by omega) (by omega),ai (by omega),ah,Rz v i (by omega) (by omega),ab,Zp,ab,eW,RR _ _ (by omega) (by omega),wrap64 (n:=(i:Int)+1) (by omega) (by omega),fE (Nat.lt_trans (wQ hh hw) (by omega)),AN];by_cases h1:EM v i=1;rw[h1,ay rfl];rfl;rw[aq h1,show(((EM v i:Nat):Int)==1)=false from by simp;omega];rfl;simp only[l8];rw[wrap64 (n:=8*(v.length:Int)) (by omega) (by omega),ae (by omega)];rfl
def xC (f:Int×Int×Int×Int×Int):Bytes:=((ez f.2.1++ez f.2.2.1)++cZ f.2.2.2.1)++cZ f.2.2.2.2
theorem O5 (f:Int×Int×Int×Int×Int):p7 f=some (xC f):=by have:=cy f.2.1;have:=cy f.2.2.1;have:=bu f.2.2.2.1;have:=bu f.2.2.2.2;simp only[p7,po,mm,ab];rw[aK (by omega),aK (by simp only[ak];omega),aK (by simp only[ak];omega)];rfl
theorem PY (f:Int×Int×Int×Int×Int):rn f=some (xC f):=by have:=cy f.2.1;have:=cy f.2.2.1;have:=bu f.2.2.2.1;have:=bu f.2.2.2.2;simp only[rn,jg,jf,ab];rw[aK (by omega),aK (by simp only[ak];omega),aK (by simp only[ak];omega)];rfl
theorem Kq (s:Bytes)(f:Int×Int×Int×Int×Int):si s f=some (zt s (xC f)):=by simp only[si,O5,UP,ab]
theorem K5 (s:Bytes)(f:Int×Int×Int×Int×Int):sQ s f=some (zt s (xC f)):=by simp only[sQ,PY,VV,ab]
end
end Go.Pu
