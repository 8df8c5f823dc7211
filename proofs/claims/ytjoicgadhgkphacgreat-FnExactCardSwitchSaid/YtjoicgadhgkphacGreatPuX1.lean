import Derived.Test.YtjoicgadhgkphacGreatDnData
import Derived.Test.YtjoicgadhgkphacGreatPure
namespace Go.Pu
open Go.Dn
set_option linter.unusedSimpArgs false
set_option linter.unusedVariables false
noncomputable section
/- Plain laws of the partial operations and of loops. -/
theorem wrap64 {n:Int}(h1: -9223372036854775808≤n)(h2:n≤9223372036854775807):aq n=n:=by simp only[aq,eo,IntKind.wrap,IntKind.bits,IntKind.signed];simp;omega
@[simp] theorem ab {α R:Type}(a:α)(k:α→Option R):aa (some a) k=k a:=rfl
@[simp] theorem aaB {α R:Type}(k:α→Option R):aa none k=none:=rfl
@[simp] theorem yn {α R:Type}(c:Bool)(x y:α)(k:α→Option R):aa (cond c (some x) (some y)) k=k (cond c x y):=by cases c<;>rfl
theorem aZ {α:Type}(c:Bool)(x y:α):cond c (some x) (some y)=some (cond c x y):=by cases c<;>rfl
theorem aJ {R:Type}{n:Nat}{k:Option R}(h:n≤1073741824):room n k=k:=by simp[room,h]
theorem Q7 {α:Type}(xs:List α)(i:Nat):idx xs (i:Int)=xs[i]?:=rfl
theorem aX {α:Type}{xs:List α}{i:Nat}(h:i<xs.length):idx xs (i:Int)=some xs[i]:=by rw[Q7];exact List.getElem?_eq_getElem h
def X0 {σ R:Type}(step:Nat→σ→(σ→Option R)→Option R)(fin:σ→Option R)(N:Nat):Nat→Nat→σ→Option R
 |0,_,s=>fin s
 |n+1,i,s=>step i s (λs'=>X0 step fin N n (i+1) s')
theorem zU {X σ R:Type}{T:(X→Option R)→X→Option R}(N:Nat)(e:σ→Nat→X)(step:Nat→σ→(σ→Option R)→Option R)(fin:σ→Option R)(hs:∀i s nx,i<N→T nx (e s i)=step i s (λs'=>nx (e s' (i+1))))(hf:∀s nx,T nx (e s N)=fin s): ∀n i s,i≤N→N-i<n→aH T n (e s i)=X0 step fin N (N-i) i s:=by
 intro n;induction n with
 |zero=>intro i s _ h;omega
 |succ n ih=>
  intro i s hi hn;rw[aH];rcases bw i N with hlt|hge;rw[hs i s _ hlt,show N-i=(N-(i+1))+1 by omega,X0];congr 1;funext s';exact ih (i+1) s' (by omega) (by omega);have:i=N:=by omega
  subst this;rw[hf,gr,X0]
def po {α σ R:Type}(step:α→σ→(σ→Option R)→Option R)(fin:σ→Option R):List α→σ→Option R
 |[],s=>fin s
 |x::xs,s=>step x s (po step fin xs)
theorem rG {α X σ R:Type}{T:(X→Option R)→X→Option R}(xs:List α)(e:σ→Nat→X)(step:α→σ→(σ→Option R)→Option R)(fin:σ→Option R)(hs:∀i (h:i<xs.length) s nx,T nx (e s i)=step xs[i] s (λs'=>nx (e s' (i+1))))(hf:∀s nx,T nx (e s xs.length)=fin s): ∀n i s,i≤xs.length→xs.length-i<n→aH T n (e s i)=po step fin (xs.drop i) s:=by
 intro n;induction n with
 |zero=>intro i s _ h;omega
 |succ n ih=>
  intro i s hi hn;rw[aH];rcases bw i xs.length with hlt|hge;rw[hs i hlt s _,bA hlt,po];congr 1;funext s';exact ih (i+1) s' (by omega) (by omega);have:i=xs.length:=by omega
  subst this;rw[hf,List.drop_length,po]
def gA:(t:CT)→t.D→Nat
 | .int _,_=>0
 | .bool,_=>0
 | .str,s=>s.length
 | .sl e,xs=>xs.length+(xs.map (gA e)).sum
 | .pair a b,x=>gA a x.1+gA b x.2
def bJ (n:Nat):(t:CT)→t.D→Prop
 | .int _,_=>True
 | .bool,_=>True
 | .str,s=>s.length≤n
 | .sl e,xs=>xs.length≤n∧∀x∈xs,bJ n e x
 | .pair a b,x=>bJ n a x.1∧bJ n b x.2
theorem Bj {α:Type}(f:α→Nat):∀(xs:List α)(x:α),x∈xs→f x≤(xs.map f).sum
 |y::ys,x,h=>by rcases bE.1 h with rfl|h;simp;have:=Bj f ys x h;simp;omega
theorem yg {n:Nat}:∀{t:CT}{x:t.D},gA t x≤n→bJ n t x
 | .int _,_,_=>trivial
 | .bool,_,_=>trivial
 | .str,_,h=>h
 | .sl e,xs,h=>by simp only[gA]at h;exact⟨by omega,λx hx=>yg (by have:=Bj (gA e) xs x hx;omega)⟩
 | .pair a b,x,h=>by simp only[gA]at h;exact⟨yg (by omega),yg (by omega)⟩
theorem bJ.mono {n m:Nat}(h:n≤m):∀{t:CT}{x:t.D},bJ n t x→bJ m t x
 | .int _,_,_=>trivial
 | .bool,_,_=>trivial
 | .str,_,k=>a7 k h
 | .sl _,_,k=>⟨a7 k.1 h,λx hx=>bJ.mono h (k.2 x hx)⟩
 | .pair _ _,_,k=>⟨bJ.mono h k.1,bJ.mono h k.2⟩
def kh:(t:CT)→t.D→Prop
 | .int k,n=>k.min≤n∧n≤k.max
 | .bool,_=>True
 | .str,s=>s.length≤9223372036854775807
 | .sl e,xs=>xs.length≤9223372036854775807∧∀x∈xs,kh e x
 | .pair a b,x=>kh a x.1∧kh b x.2
def hG (l n:Int):Int:=if n≤l then l-n else-1
def Ev {α β R:Type}(f:α→Option β)(k0:List β→Int→Option R)(v0:List α)(nx:List β×Int→Option R)(x:List β×Int):Option R:=
 cond (decide (x.2<(List.length v0:Int))) (
  aa (idx v0 x.2) λx1=>
  aa (f x1) λr2=>
  aa (idx x.1 x.2) λ_=>
  aa (idx x.1 x.2) λ_=>
  nx (List.set x.1 (Int.toNat x.2) r2,aq (x.2+1))) (
  k0 x.1 x.2)
noncomputable def Lp {α β:Type}(f:α→Option β)(z:β)(a0:List α):Option (List β):=
 if 0≤((List.length a0:Int))∧((List.length a0:Int))≤((List.length a0:Int)) then(
 room (Int.toNat ((List.length a0:Int))) (
 aH (Ev f (λy5 _=>some y5) a0) fuel (List.replicate (Int.toNat ((List.length a0:Int))) z,0))) else none
theorem gB {α:Type}{f:α→Option α}{z:α}{a:List α}(hn:a.length≤1073741824)(hf:∀x∈a,f x=some x):Lp f z a=some a:=by
 unfold Lp;have hfu:=dI;rw[ay (by omega),aJ (by simp;omega)]
 have key:=zU (T:=Ev f (λy5 _=>some y5) a) a.length (λ(_:Unit) i=>(a.take i++List.replicate (a.length-i) z,(i:Int))) (λ_ s k=>k s) (λ_=>some a)
  (λi s nx hi=>by
   have h1:(a.take i).length=i:=by simp;omega
   have hl:i<(a.take i++List.replicate (a.length-i) z).length:=by simp;omega
   simp only[Ev];rw[ah (by omega)];simp only[ai,aX hi,ab,hf _ (aL hi),aX hl];congr 1;refine Prod.ext ?_ (wrap64 (by omega) (by omega));simp only[ax];rw[List.set_append_right _ _ (by omega),h1,gr,bh hi,show a.length-i=(a.length-(i+1))+1 by omega,List.replicate_succ,List.set_cons_zero,aG,List.singleton_append])
  (λs nx=>by simp only[Ev];rw[ae (by omega)];simp)
  fuel 0 () (by omega) (by omega)
 simp only[List.take_zero,bm,Nat.sub_zero,ax]at key⊢;have e:((0:Nat):Int)=0:=rfl;rw[e]at key;rw[key];have:∀n i,X0 (R:=List α) (λ_ (s:Unit) k=>k s) (λ_=>some a) a.length n i ()=some a:=by intro n;induction n with|zero=>intro i;rfl|succ n ih=>intro i;rw[X0];exact ih _
 exact this _ _
def Eu {α R:Type}(f:α→Int→Option Int)(k0:Int→Int→Option R)(k1:Int→Int→Int→Option R)(v0:List α)(nx:Int×Int→Option R)(x:Int×Int):Option R:=
 cond (decide (x.2<((List.length v0:Int)))) (
  aa (idx v0 x.2) λx1=>
  aa (f x1 x.1) λr2=>
  cond (decide (r2<0)) (
   k1 r2 (-1) x.2) (
   nx (r2,aq (x.2+1)))) (
  k0 x.1 x.2)
noncomputable def Et {α:Type}(f:α→Int→Option Int)(a0:List α)(a1:Int):Option Int:=
 cond (decide ((aq (a1-((List.length a0:Int))))<0)) (
  some (-1)) (
  aH (Eu f (λy3 _=>some y3) (λ_ y6 _=>some y6) a0) fuel (aq (a1-((List.length a0:Int))),0))
theorem Hb {α:Type}{f:α→Int→Option Int}{s:α→Nat}{a:List α}{l:Int}(h0:0≤l)(h1:l≤1048576)(hm:a.length≤9223372036854775807)(hf:∀x∈a,∀l:Int,0≤l→l≤1048576→∃r,f x l=some r∧((s x:Int)≤l→r=l-s x)∧(¬(s x:Int)≤l→r<0)):Et f a l=some (hG l ((a.length+(a.map s).sum:Nat):Int)):=by
 unfold Et;have hfu:=dI;rw[wrap64 (by omega) (by omega)];rcases Int.lt_or_le (l-a.length) 0 with hneg|hpos;rw[ah hneg];simp only[ai,hG];rw[ao (by omega)];rw[ae (by omega)];simp only[af];have key:=rG (T:=Eu f (λy3 _=>some y3) (λ_ y6 _=>some y6) a) a (λ(q:Int) i=>(q,(i:Int))) (λx q k=>aa (f x q) λr=>cond (decide (r<0)) (some (-1)) (k r)) (λq=>some q) (λi hi q nx=>by simp only[Eu];rw[ah (by omega)];simp only[ai,aX hi,ab];rw[wrap64 (by omega) (by omega)];rfl) (λq nx=>by simp only[Eu];rw[ae (by omega)];rfl) fuel 0 (l-a.length) (by omega) (by omega);have e:((0:Nat):Int)=0:=rfl;rw[e,cJ]at key;rw[key];have main:∀(b:List α)(q:Int),0≤q→q≤1048576→(∀x∈b,x∈a)→po (λx q k=>aa (f x q) λr=>cond (decide (r<0)) (some (-1)) (k r)) (λq=>some q) b q=some (hG q ((b.map s).sum:Nat)):=by intro b;induction b with|nil=>intro q hq _ _;simp[po,hG,hq]|cons x b ih=>intro q hq hq2 hb;obtain⟨r,hr,hr1,hr2⟩:=hf x (hb x (by simp)) q hq hq2;rw[po,hr,ab];by_cases hle:(s x:Int)≤q;have:=hr1 hle;subst this;rw[ae (by omega)];simp only[af];rw[ih _ (by omega) (by omega) (λy hy=>hb y (by simp[hy]))];simp only[hG,cq,List.sum_cons];congr 1;split<;>split<;>omega;rw[ah (hr2 hle)];simp only[ai,hG,cq,List.sum_cons];rw[ao (by omega)]
 rw[main a _ (by omega) (by omega) (λx h=>h)];simp only[hG];congr 1;split<;>split<;>omega
def Ei {α R:Type}(f:α→α→Option Bool)(k0:Int→Option R)(k1:Bool→Int→Option R)(v0 v1:List α)(nx:Int→Option R)(x:Int):Option R:=
 cond (decide (x<((List.length v0:Int)))) (
  aa (idx v0 x) λx1=>
  aa (idx v1 x) λx2=>
  aa (f x1 x2) λr3=>
  cond (!r3) (
   k1 false x) (
   nx (aq (x+1)))) (
  k0 x)
noncomputable def Kt {α:Type}(f:α→α→Option Bool)(a0 a1:List α):Option Bool:=
 cond (((List.length a0:Int)) !=((List.length a1:Int))) (
  some false) (
  aH (Ei f (λ_=>some true) (λy5 _=>some y5) a0 a1) fuel 0)
theorem eS {α:Type}{f:α→α→Option Bool}{a:List α}(hm:a.length≤1000000000000)(hf:∀x∈a,f x x=some true):Kt f a a=some true:=by
 unfold Kt;have hfu:=dI;simp only[ez,af];have key:=rG (T:=Ei f (λ_=>some true) (λy5 _=>some y5) a a) a (λ(_:Unit) i=>(i:Int)) (λx s k=>aa (f x x) λr=>cond (!r) (some false) (k s)) (λ_=>some true) (λi hi s nx=>by simp only[Ei];rw[ah (by omega)];simp only[ai,aX hi,ab];rw[wrap64 (by omega) (by omega)];rfl) (λs nx=>by simp only[Ei];rw[ae (by omega)];rfl) fuel 0 () (by omega) (by omega);have e:((0:Nat):Int)=0:=rfl;rw[e,cJ]at key;rw[key];have main:∀(b:List α),(∀x∈b,x∈a)→po (λx s k=>aa (f x x) λr=>cond (!r) (some false) (k s)) (λ_=>some true) b ()=some true:=by intro b;induction b with|nil=>intro _;rfl|cons x b ih=>intro hb;rw[po,hf x (hb x (by simp))];simp only[ab,al,af];exact ih (λy hy=>hb y (by simp[hy]))
 exact main a (λx h=>h)
theorem Bs {α:Type}{z:α}{a:List α}(hn:a.length≤1073741824):Lp some z a=some a:=gB hn (λ_ _=>rfl)
theorem xo {α:Type}[BEq α][LawfulBEq α]{a:List α}(hm:a.length≤1000000000000):Kt (λx y:α=>some (x==y)) a a=some true:=eS hm (λx _=>by simp)
theorem tq {α:Type}{f:α→Nat}:∀{xs:List α},(∀x∈xs,f x=0)→(xs.map f).sum=0
 |[],_=>rfl
 |x::xs,h=>by have:=tq (xs:=xs) (f:=f) (λy hy=>h y (by simp[hy]));simp[h x (by simp),this]
def cg (f:Int→Option Int)(n:Nat):Prop:=∀l:Int,0≤l→l≤1048576→f l=some (hG l n)
theorem cg.nil:cg (λl=>some l) 0:=λl h0 _=>by simp[hG,h0]
theorem cg.len {n m:Nat}(hn:n≤9223372036854775807){k:Int→Option Int}(h:cg k m): cg (λl=>cond (decide (aq (l-(n:Int))<0)) (some (-1)) (k (aq (l-(n:Int))))) (n+m):=by intro l h0 h1;simp only;rw[wrap64 (by omega) (by omega)];by_cases hl:l-(n:Int)<0;rw[ah hl];simp only[ai,hG];rw[ao (by omega)];rw[ae hl];simp only[af];rw[h _ (by omega) (by omega)];simp only[hG];congr 1;split<;>split<;>omega
theorem cg.sub {f k:Int→Option Int}{n m:Nat}(hf:cg f n)(h:cg k m):cg (λl=>aa (f l) λr=>cond (decide (r<0)) (some (-1)) (k r)) (n+m):=by
 intro l h0 h1;simp only;rw[hf l h0 h1,ab];by_cases hl:(n:Int)≤l;have e:hG l n=l-n:=by simp[hG,hl]
 rw[e,ae (by omega)];simp only[af];rw[h _ (by omega) (by omega)];simp only[hG];congr 1;split<;>split<;>omega;have e:hG l n= -1:=by simp[hG,hl]
 rw[e];simp only[hG];rw[ao (by omega)];rfl
theorem cg.cast {f:Int→Option Int}{n m:Nat}(h:cg f n)(e:n=m):cg f m:=e▸h
theorem cg.list {α:Type}{f:α→Int→Option Int}{s:α→Nat}{a:List α}(hm:a.length≤9223372036854775807)(hf:∀x∈a,cg (f x) (s x)):cg (Et f a) (a.length+(a.map s).sum):=λ_ h0 h1=>Hb h0 h1 hm (λx hx l h0 h1=>⟨_,hf x hx l h0 h1,λh=>by simp[hG,h],λh=>by simp[hG,h]⟩)
theorem cg.flat {n:Nat}(hn:n≤9223372036854775807):cg (λl=>cond (decide (aq (l-(n:Int))<0)) (some (-1)) (some (aq (l-(n:Int))))) n:=(cg.len (n:=n) hn cg.nil).cast (by omega)
theorem cg.strs {a:List (List UInt8)}(hm:kh (.sl .str) a):cg (Et (λx l=>some (aq (l-(x.length:Int)))) a) (gA (.sl .str) a):=λ_ h0 h1=>Hb (s:=gA .str) h0 h1 hm.1 (λx hx l h0 h1=>⟨l-x.length,by have:x.length≤9223372036854775807:=hm.2 x hx;rw[wrap64 (by omega) (by omega)],λ_=>rfl,λh=>by simp only[gA]at h;omega⟩)
theorem cg.use {f:Int→Option Int}{n:Nat}(hf:cg f n){l:Int}(h0:0≤l)(h1:l≤1048576){k:Int→Option Bool}(hk:(n:Int)≤l→k (l-n)=some true): (aa (f l) λr=>cond (decide (r<0)) (some true) (k r))=some true:=by
 rw[hf l h0 h1,ab];by_cases hl:(n:Int)≤l;have e:hG l n=l-n:=by simp[hG,hl]
 rw[e,ae (by omega)];exact hk hl;have e:hG l n= -1:=by simp[hG,hl]
 rw[e];rfl
theorem LB {α R:Type}{T:(Int→Option R)→Int→Option R}{fin hit:Option R}(p:α→Bool)(a:List α)(h:a.length≤1000000000000)(hs:∀i (hi:i<a.length) nx,T nx (i:Int)=cond (p a[i]) hit (nx ((i+1:Nat):Int)))(hf:∀nx,T nx (a.length:Int)=fin): aH T fuel 0=cond (a.any p) hit fin:=by
 have hfu:=dI;have key:∀n i,i≤a.length→a.length-i<n→aH T n (i:Int)=cond ((a.drop i).any p) hit fin:=by
  intro n;induction n with
  |zero=>intro i _ h;omega
  |succ n ih=>
   intro i hi hn;rw[aH];rcases bw i a.length with hlt|hge;rw[hs i hlt,bA hlt,List.any_cons];cases hq:p a[i]with|true=>rfl|false=>exact ih (i+1) (by omega) (by omega)
   have:i=a.length:=by omega
   subst this;rw[hf,List.drop_length];rfl
 exact key fuel 0 (by omega) (by omega)
theorem eM {R:Type}{T:(Int→Option R)→Int→Option R}{fin hit:Option R}(p:Nat→Bool)(N:Nat)(h:N≤1000000000000)(hs:∀i nx,i<N→T nx (i:Int)=cond (!(p i)) hit (nx ((i+1:Nat):Int)))(hf:∀nx,T nx (N:Int)=fin): aH T fuel 0=cond ((List.range N).all p) fin hit:=by
 have hfu:=dI;have key:∀n i,i≤N→N-i<n→aH T n (i:Int)=cond ((List.range' i (N-i)).all p) fin hit:=by
  intro n;induction n with
  |zero=>intro i _ h;omega
  |succ n ih=>
   intro i hi hn;rw[aH];rcases bw i N with hlt|hge;rw[hs i _ hlt,show N-i=(N-(i+1))+1 by omega,List.range'_succ,bD];cases hq:p i with|false=>rfl|true=>exact ih (i+1) (by omega) (by omega)
   have:i=N:=by omega
   subst this;rw[hf,gr];rfl
 have:=key fuel 0 (by omega) (by omega);rw[Nat.sub_zero,←List.range_eq_range']at this;exact this
theorem pk {α R:Type}{T:(Int→Option R)→Int→Option R}{fin hit:Option R}(p:α→Bool)(a:List α)(h:a.length≤1000000000000)(hs:∀i (hi:i<a.length) nx,T nx (i:Int)=cond (!(p a[i])) hit (nx ((i+1:Nat):Int)))(hf:∀nx,T nx (a.length:Int)=fin): aH T fuel 0=cond (a.all p) fin hit:=by
 have:=LB (T:=T) (fin:=fin) (hit:=hit) (λx=> !(p x)) a h hs hf;rw[this];have e:a.any (λx=> !(p x))= !(a.all p):=by rw[bX];simp
 rw[e];cases a.all p<;>rfl
theorem CN {X R:Type}{T:(X→Option R)→X→Option R}{fin hit:Option R}(e:Nat→X)(p:Nat→Bool)(N:Nat)(h:N≤1000000000000)(hs:∀i nx,i<N→(∀j,j<i→p j=true)→T nx (e i)=cond (!(p i)) hit (nx (e (i+1))))(hf:(∀j,j<N→p j=true)→∀nx,T nx (e N)=fin): aH T fuel (e 0)=cond ((List.range N).all p) fin hit:=by
 have hfu:=dI;have key:∀n i,i≤N→N-i<n→(∀j,j<i→p j=true)→aH T n (e i)=cond ((List.range' i (N-i)).all p) fin hit:=by
  intro n;induction n with
  |zero=>intro i _ h;omega
  |succ n ih=>
   intro i hi hn hp;rw[aH];rcases bw i N with hlt|hge;rw[hs i _ hlt hp,show N-i=(N-(i+1))+1 by omega,List.range'_succ,bD];cases hq:p i with|false=>rfl|true=>refine ih (i+1) (by omega) (by omega) λj hj=>?_;by_cases hji:j=i;rw[hji];exact hq;exact hp j (by omega)
   have:i=N:=by omega
   subst this;rw[hf hp,gr];rfl
 have:=key fuel 0 (by omega) (by omega) (λj hj=>absurd hj (by omega));rw[Nat.sub_zero,←List.range_eq_range']at this;exact this
theorem CV {α R:Type}{T:(Int→Option R)→Int→Option R}{fin:Option R}{hit:Int→Option R}(p:α→Bool)(a:List α)(h:a.length≤1000000000000)(hs:∀i (hi:i<a.length) nx,T nx (i:Int)=cond (p a[i]) (hit (i:Int)) (nx ((i+1:Nat):Int)))(hf:∀nx,T nx (a.length:Int)=fin): aH T fuel 0=(match a.findIdx? p with|some i=>hit (i:Int)|none=>fin):=by
 have hfu:=dI;have key:∀n i,i≤a.length→a.length-i<n→aH T n (i:Int)=(match (a.drop i).findIdx? p with|some j=>hit ((i+j:Nat):Int)|none=>fin):=by
  intro n;induction n with
  |zero=>intro i _ h;omega
  |succ n ih=>
   intro i hi hn;rw[aH];rcases bw i a.length with hlt|hge;rw[hs i hlt,bA hlt,List.findIdx?_cons];cases hq:p a[i]with|true=>rfl|false=>have:=ih (i+1) (by omega) (by omega);simp only[af];refine this.trans ?_;cases (a.drop (i+1)).findIdx? p with|none=>rfl|some j=>simp only[cp,aP,bB];congr 2;omega
   have:i=a.length:=by omega
   subst this;rw[hf,List.drop_length];rfl
 have:=key fuel 0 (by omega) (by omega);refine this.trans ?_;rw[cJ];cases a.findIdx? p with|none=>rfl|some j=>simp only[bU]
theorem cF (a b:Bool):(bif a then b else false)=(a&&b):=by cases a<;>rfl
theorem cT (a b:Bool):(bif a then true else b)=(a||b):=by cases a<;>rfl
theorem cN (a b:Bool):(bif a then false else b)=(!a&&b):=by cases a<;>rfl
def GP {α σ R:Type}(g:α→σ→Except (Option R) σ)(fin:σ→Option R):List α→σ→Option R
 |[],s=>fin s
 |x::xs,s=>match g x s with| .error r=>r| .ok s'=>GP g fin xs s'
theorem vx {α X σ R:Type}{T:(X→Option R)→X→Option R}(xs:List α)(e:σ→Nat→X)(Inv:Nat→σ→Prop)(g:α→σ→Except (Option R) σ)(fin:σ→Option R)(h:xs.length≤1000000000000)(hs:∀i (hi:i<xs.length) s nx,Inv i s→T nx (e s i)=match g xs[i] s with| .error r=>r| .ok s'=>nx (e s' (i+1)))(hn:∀i (hi:i<xs.length) s s',Inv i s→g xs[i] s=.ok s'→Inv (i+1) s')(hf:∀s nx,Inv xs.length s→T nx (e s xs.length)=fin s)(s:σ)(h0:Inv 0 s): aH T fuel (e s 0)=GP g fin xs s:=by
 have key:∀n i s,i≤xs.length→xs.length-i<n→Inv i s→aH T n (e s i)=GP g fin (xs.drop i) s:=by
  intro n;induction n with
  |zero=>intro i s _ h;omega
  |succ n ih=>
   intro i s hi hn' hI;rw[aH];rcases bw i xs.length with hlt|hge;rw[hs i hlt s _ hI,bA hlt,GP];cases hg:g xs[i] s with|error r=>rfl|ok s'=>exact ih (i+1) s' (by omega) (by omega) (hn i hlt s s' hI hg)
   have:i=xs.length:=by omega
   subst this;rw[hf s _ hI,List.drop_length,GP]
 have hfu:=dI;have:=key fuel 0 s (by omega) (by omega) h0;rwa[cJ]at this
theorem Cl {α σ R:Type}(f:σ→α→σ)(fin:σ→Option R):∀(xs:List α)(s:σ),GP (λx s=> .ok (f s x)) fin xs s=fin (xs.foldl f s)
 |[],_=>rfl
 |x::xs,s=>by rw[GP];exact Cl f fin xs (f s x)
theorem de {X R:Type}{T:(X→Option R)→X→Option R}{fin:Option R}(e:Nat→X)(N:Nat)(h:N≤1000000000000)(hs:∀i nx,i<N→T nx (e i)=nx (e (i+1)))(hf:∀nx,T nx (e N)=fin):aH T fuel (e 0)=fin:=by rw[CN (hit:=fin) (fin:=fin) e (λ_=>true) N h (λi nx hi _=>by rw[hs i nx hi];rfl) (λ_ nx=>hf nx)];cases (List.range N).all (λ_=>true)<;>rfl
theorem dR {α R:Type}{l:List α}{k:Option R}(h:l.length≤1000000000):room (List.length ([]:List α)+l.length) k=k:=aJ (by simp only[List.length_nil];omega)
theorem yh (a:List Int)(hm:kh (.sl (.int .i64)) a):cg (iM a) (gA (.sl (.int .i64)) a):=(cg.flat (n:=a.length) hm.1).cast (by simp only[gA];rw[tq (λx _=>by simp only[gA])];rfl)
theorem yi (a:List Bytes)(hm:kh (.sl .str) a):cg (jH a) (gA (.sl .str) a):=cg.strs hm
theorem TC (a:List Bytes)(hm:kh (.sl .str) a):cg (sB a) (gA (.sl .str) a):=
 cg.cast (f:=sB a) (cg.sub (yi a hm) cg.nil) (by simp only[gA];try omega)
theorem Oc (a:List aN)(hm:kh (.sl bg) a):cg (tE a) (gA (.sl bg) a):=(cg.flat (n:=a.length) hm.1).cast (by simp only[gA];rw[tq (λx _=>by simp only[gA])];rfl)
theorem RQ (a:eC)(hm:kh dF a):cg (pw a) (gA dF a):=
 cg.cast (f:=pw a) (cg.sub (yh a.2.2.2 hm.2.2.2) cg.nil) (by simp only[gA];try omega)
theorem Zi (a:fJ)(hm:kh dA a):cg (tf a) (gA dA a):=
 cg.cast (f:=tf a) (cg.sub (yh a.2.2 hm.2.2) cg.nil) (by simp only[gA];try omega)
theorem V2 (a:List fJ)(hm:kh (.sl dA) a):cg (xM a) (gA (.sl dA) a):=cg.list (f:=tf) (s:=gA dA) hm.1 (λx hx=>Zi x (hm.2 x hx))
theorem Qo (a:ew)(hm:kh fO a):cg (qH a) (gA fO a):=
 cg.cast (f:=qH a) (cg.sub (RQ a.2.1 hm.2.1) (cg.sub (V2 a.2.2.1 hm.2.2.1) cg.nil)) (by simp only[gA];try omega)
theorem Qm (a:cI)(hm:kh gE a):cg (qG a) (gA gE a):=
 cg.cast (f:=qG a) (cg.len (n:=a.2.2.2.2.2.2.2.length) hm.2.2.2.2.2.2.2 cg.nil) (by simp only[gA];try omega)
theorem Jb (a:aO)(hm:kh cd a):cg (n6 a) (gA cd a):=
 cg.cast (f:=n6 a) (cg.sub (Qm a.2.2.2.2.2.2.2.2 hm.2.2.2.2.2.2.2.2) cg.nil) (by simp only[gA];try omega)
theorem V4 (a:gD)(hm:kh nD a):cg (uh a) (gA nD a):=
 cg.cast (f:=uh a) (cg.sub (Jb a.1 hm.1) cg.nil) (by simp only[gA];try omega)
theorem Ql (a:bn)(hm:kh bt a):cg (mm a) (gA bt a):=
 cg.cast (f:=mm a) (cg.sub (V4 a.2.2.2.1 hm.2.2.2.1) cg.nil) (by simp only[gA];try omega)
theorem Od (a:List bn)(hm:kh (.sl bt) a):cg (tF a) (gA (.sl bt) a):=cg.list (f:=mm) (s:=gA bt) hm.1 (λx hx=>Ql x (hm.2 x hx))
theorem V0 (a:List eC)(hm:kh (.sl dF) a):cg (xK a) (gA (.sl dF) a):=cg.list (f:=pw) (s:=gA dF) hm.1 (λx hx=>RQ x (hm.2 x hx))
theorem Qp (a:List Vector)(hm:kh (.sl cl) a):cg (vf a) (gA (.sl cl) a):=(cg.flat (n:=a.length) hm.1).cast (by simp only[gA];rw[tq (λx _=>by simp only[gA])];rfl)
theorem VX (a:List Bool)(hm:kh (.sl .bool) a):cg (xI a) (gA (.sl .bool) a):=(cg.flat (n:=a.length) hm.1).cast (by simp only[gA];rw[tq (λx _=>by simp only[gA])];rfl)
theorem Ja (a:Filter)(hm:kh fw a):cg (n5 a) (gA fw a):=
 cg.cast (f:=n5 a) (cg.sub (yh a.2.2 hm.2.2) cg.nil) (by simp only[gA];try omega)
theorem V1 (a:List dX)(hm:kh (.sl dw) a):cg (xL a) (gA (.sl dw) a):=(cg.flat (n:=a.length) hm.1).cast (by simp only[gA];rw[tq (λx _=>by simp only[gA])];rfl)
theorem V3 (a:List Slot)(hm:kh (.sl cS) a):cg (xN a) (gA (.sl cS) a):=(cg.flat (n:=a.length) hm.1).cast (by simp only[gA];rw[tq (λx _=>by simp only[gA])];rfl)
theorem Ll (a:List Slot)(hm:kh (.sl cS) a):cg (nf a) (gA (.sl cS) a):=
 cg.cast (f:=nf a) (cg.sub (V3 a hm) cg.nil) (by simp only[gA];try omega)
theorem TD (a:fK)(hm:kh ia a):cg (sC a) (gA ia a):=
 cg.cast (f:=sC a) (cg.len (n:=a.1.length) hm.1 (cg.sub (yh a.2 hm.2) cg.nil)) (by simp only[gA];try omega)
theorem Oe (a:dv)(hm:kh eL a):cg (oI a) (gA eL a):=
 cg.cast (f:=oI a) (cg.sub (V1 a.1 hm.1) (cg.sub (Ll a.2.1 hm.2.1) (cg.sub (TD a.2.2 hm.2.2) cg.nil))) (by simp only[gA];try omega)
theorem TE (a:Stream)(hm:kh cu a):cg (n7 a) (gA cu a):=
 cg.cast (f:=n7 a) (cg.len (n:=a.2.2.1.length) hm.2.2.1 cg.nil) (by simp only[gA];try omega)
theorem Qn (a:List Stream)(hm:kh (.sl cu) a):cg (ve a) (gA (.sl cu) a):=cg.list (f:=n7) (s:=gA cu) hm.1 (λx hx=>TE x (hm.2 x hx))
theorem Zh (a:Host)(hm:kh cv a):cg (td a) (gA cv a):=
 cg.cast (f:=td a) (cg.sub (TC a.1 hm.1) (cg.sub (Oc a.2.1 hm.2.1) (cg.sub (Qo a.2.2.1 hm.2.2.1) (cg.sub (Od a.2.2.2.1 hm.2.2.2.1) (cg.sub (V0 a.2.2.2.2.1 hm.2.2.2.2.1) (cg.sub (Qp a.2.2.2.2.2.1 hm.2.2.2.2.2.1) (cg.sub (VX a.2.2.2.2.2.2.1 hm.2.2.2.2.2.2.1) (cg.sub (Ja a.2.2.2.2.2.2.2.1 hm.2.2.2.2.2.2.2.1) (cg.sub (Oe a.2.2.2.2.2.2.2.2.1 hm.2.2.2.2.2.2.2.2.1) (cg.sub (Qn a.2.2.2.2.2.2.2.2.2.1 hm.2.2.2.2.2.2.2.2.2.1) (cg.sub (yi a.2.2.2.2.2.2.2.2.2.2.2.1 hm.2.2.2.2.2.2.2.2.2.2.2.1) (cg.sub (yh a.2.2.2.2.2.2.2.2.2.2.2.2.1 hm.2.2.2.2.2.2.2.2.2.2.2.2.1) (cg.sub (yh a.2.2.2.2.2.2.2.2.2.2.2.2.2.1 hm.2.2.2.2.2.2.2.2.2.2.2.2.2.1) cg.nil))))))))))))) (by simp only[gA];try omega)
theorem VZ (a:List Host)(hm:kh (.sl cv) a):cg (xJ a) (gA (.sl cv) a):=cg.list (f:=td) (s:=gA cv) hm.1 (λx hx=>Zh x (hm.2 x hx))
theorem As (a:List aE)(hm:kh (.sl aC) a):cg (jI a) (gA (.sl aC) a):=(cg.flat (n:=a.length) hm.1).cast (by simp only[gA];rw[tq (λx _=>by simp only[gA])];rfl)
theorem Qk (a:bl)(hm:kh bq a):cg (ml a) (gA bq a):=
 cg.cast (f:=ml a) (cg.sub (Ja a.1 hm.1) cg.nil) (by simp only[gA];try omega)
theorem Ob (a:List bl)(hm:kh (.sl bq) a):cg (tD a) (gA (.sl bq) a):=cg.list (f:=ml) (s:=gA bq) hm.1 (λx hx=>Qk x (hm.2 x hx))
theorem VY (a:List Bytes)(hm:kh (.sl .str) a):cg (ug a) (gA (.sl .str) a):=
 cg.cast (f:=ug a) (cg.sub (yi a hm) cg.nil) (by simp only[gA];try omega)
theorem Zg (a:dj)(hm:kh dQ a):cg (vU a) (gA dQ a):=
 cg.cast (f:=vU a) (cg.sub (VZ a.1 hm.1) (cg.sub (As a.2.1 hm.2.1) (cg.sub (Ob a.2.2.1 hm.2.2.1) (cg.sub (VY a.2.2.2.1 hm.2.2.2.1) (cg.sub (yh a.2.2.2.2.2.1 hm.2.2.2.2.2.1) (cg.sub (yi a.2.2.2.2.2.2 hm.2.2.2.2.2.2) cg.nil)))))) (by simp only[gA];try omega)
theorem lO (a:List Int)(h:bJ 1048576 (.sl (.int .i64)) a):iO a=some a:=Bs (z:=0) (a7 h.1 (by omega))
theorem mE (a:List Bytes)(h:bJ 1048576 (.sl .str) a):jM a=some a:=Bs (z:=([]:Bytes)) (a7 h.1 (by omega))
theorem Je (a:List Bytes)(h:bJ 1048576 (.sl .str) a):n8 a=some a:=by first|(simp only[n8,mE _ h,ab];done)|(simp only[n8,mE _ h,ab];rfl)
theorem Qr (a:aN)(h:bJ 1048576 bg a):qJ a=some a:=rfl
theorem DW (a:List aN)(h:bJ 1048576 (.sl bg) a):tI a=some a:=gB (f:=qJ) (z:=(0,0,0,false)) (a7 h.1 (by omega)) (λx hx=>Qr x (h.2 x hx))
theorem Ey (a:ji)(h:bJ 1048576 eY a):vY a=some a:=rfl
theorem Lq (a:eC)(h:bJ 1048576 dF a):mn a=some a:=by first|(simp only[mn,lO _ h.2.2.2,ab];done)|(simp only[mn,lO _ h.2.2.2,ab];rfl)
theorem Zn (a:fJ)(h:bJ 1048576 dA a):py a=some a:=by first|(simp only[py,lO _ h.2.2,ab];done)|(simp only[py,lO _ h.2.2,ab];rfl)
theorem Om (a:List fJ)(h:bJ 1048576 (.sl dA) a):xT a=some a:=gB (f:=py) (z:=(0,0,([]:List Int))) (a7 h.1 (by omega)) (λx hx=>Zn x (h.2 x hx))
theorem Hh (a:ew)(h:bJ 1048576 fO a):mq a=some a:=by first|(simp only[mq,Ey _ h.1,Lq _ h.2.1,Om _ h.2.2.1,ab];done)|(simp only[mq,Ey _ h.1,Lq _ h.2.1,Om _ h.2.2.1,ab];rfl)
theorem kF (a:fu)(h:bJ 1048576 eu a):gK a=some a:=rfl
theorem Hf (a:cI)(h:bJ 1048576 gE a):vj a=some a:=rfl
theorem Dr (a:aO)(h:bJ 1048576 cd a):gR a=some a:=by first|(simp only[gR,Hf _ h.2.2.2.2.2.2.2.2,ab];done)|(simp only[gR,Hf _ h.2.2.2.2.2.2.2.2,ab];rfl)
theorem Oo (a:gD)(h:bJ 1048576 nD a):qK a=some a:=by first|(simp only[qK,Dr _ h.1,ab];done)|(simp only[qK,Dr _ h.1,ab];rfl)
theorem Qs (a:bn)(h:bJ 1048576 bt a):jL a=some a:=by first|(simp only[jL,Ey _ h.1,kF _ h.2.1,kF _ h.2.2.1,Oo _ h.2.2.2.1,ab];done)|(simp only[jL,Ey _ h.1,kF _ h.2.1,kF _ h.2.2.1,Oo _ h.2.2.2.1,ab];rfl)
theorem DX (a:List bn)(h:bJ 1048576 (.sl bt) a):tJ a=some a:=gB (f:=jL) (z:=((0,0,0,0),(0,0,0),(0,0,0),((0,0,0,0,0,0,0,0,0,0,0,0,0,0,0,([]:Bytes)),0,0),false,0)) (a7 h.1 (by omega)) (λx hx=>Qs x (h.2 x hx))
theorem Ok (a:List eC)(h:bJ 1048576 (.sl dF) a):xR a=some a:=gB (f:=mn) (z:=(0,0,0,([]:List Int))) (a7 h.1 (by omega)) (λx hx=>Lq x (h.2 x hx))
theorem TG (a:Vector)(h:bJ 1048576 cl a):sD a=some a:=rfl
theorem Hi (a:List Vector)(h:bJ 1048576 (.sl cl) a):vl a=some a:=gB (f:=sD) (z:=(0,0,0,0,false,false)) (a7 h.1 (by omega)) (λx hx=>TG x (h.2 x hx))
theorem Og (a:List Bool)(h:bJ 1048576 (.sl .bool) a):xO a=some a:=Bs (z:=false) (a7 h.1 (by omega))
theorem Aj (a:Filter)(h:bJ 1048576 fw a):k9 a=some a:=by first|(simp only[k9,lO _ h.2.2,ab];done)|(simp only[k9,lO _ h.2.2,ab];rfl)
theorem Zm (a:dX)(h:bJ 1048576 dw a):vZ a=some a:=rfl
theorem Ol (a:List dX)(h:bJ 1048576 (.sl dw) a):xS a=some a:=gB (f:=vZ) (z:=(0,0,0,0,0,0,0,0,0)) (a7 h.1 (by omega)) (λx hx=>Zm x (h.2 x hx))
theorem Ew (a:eQ)(h:bJ 1048576 fc a):vX a=some a:=rfl
theorem Zo (a:Slot)(h:bJ 1048576 cS a):pz a=some a:=by first|(simp only[pz,Ew _ h.2.1,ab];done)|(simp only[pz,Ew _ h.2.1,ab];rfl)
theorem On (a:List Slot)(h:bJ 1048576 (.sl cS) a):xU a=some a:=gB (f:=pz) (z:=(0,(0,0,0,0,0),0)) (a7 h.1 (by omega)) (λx hx=>Zo x (h.2 x hx))
theorem CD (a:List Slot)(h:bJ 1048576 (.sl cS) a):jJ a=some a:=by first|(simp only[jJ,On _ h,ab];done)|(simp only[jJ,On _ h,ab];rfl)
theorem Jf (a:fK)(h:bJ 1048576 ia a):oa a=some a:=by first|(simp only[oa,lO _ h.2,ab];done)|(simp only[oa,lO _ h.2,ab];rfl)
theorem DY (a:dv)(h:bJ 1048576 eL a):kP a=some a:=by first|(simp only[kP,Ol _ h.1,CD _ h.2.1,Jf _ h.2.2,ab];done)|(simp only[kP,Ol _ h.1,CD _ h.2.1,Jf _ h.2.2,ab];rfl)
theorem TF (a:Stream)(h:bJ 1048576 cu a):la a=some a:=by first|(simp only[la,Ew _ h.1,ab];done)|(simp only[la,Ew _ h.1,ab];rfl)
theorem Hg (a:List Stream)(h:bJ 1048576 (.sl cu) a):vk a=some a:=gB (f:=la) (z:=((0,0,0,0,0),0,([]:Bytes),false)) (a7 h.1 (by omega)) (λx hx=>TF x (h.2 x hx))
theorem DU (a:eQ)(h:bJ 1048576 fc a):tG a=some a:=rfl
theorem Zl (a:Host)(h:bJ 1048576 cv a):px a=some a:=by first|(simp only[px,Je _ h.1,DW _ h.2.1,Hh _ h.2.2.1,DX _ h.2.2.2.1,Ok _ h.2.2.2.2.1,Hi _ h.2.2.2.2.2.1,Og _ h.2.2.2.2.2.2.1,Aj _ h.2.2.2.2.2.2.2.1,DY _ h.2.2.2.2.2.2.2.2.1,Hg _ h.2.2.2.2.2.2.2.2.2.1,mE _ h.2.2.2.2.2.2.2.2.2.2.2.1,lO _ h.2.2.2.2.2.2.2.2.2.2.2.2.1,lO _ h.2.2.2.2.2.2.2.2.2.2.2.2.2.1,DU _ h.2.2.2.2.2.2.2.2.2.2.2.2.2.2,ab];done)|(simp only[px,Je _ h.1,DW _ h.2.1,Hh _ h.2.2.1,DX _ h.2.2.2.1,Ok _ h.2.2.2.2.1,Hi _ h.2.2.2.2.2.1,Og _ h.2.2.2.2.2.2.1,Aj _ h.2.2.2.2.2.2.2.1,DY _ h.2.2.2.2.2.2.2.2.1,Hg _ h.2.2.2.2.2.2.2.2.2.1,mE _ h.2.2.2.2.2.2.2.2.2.2.2.1,lO _ h.2.2.2.2.2.2.2.2.2.2.2.2.1,lO _ h.2.2.2.2.2.2.2.2.2.2.2.2.2.1,DU _ h.2.2.2.2.2.2.2.2.2.2.2.2.2.2,ab];rfl)
theorem Oj (a:List Host)(h:bJ 1048576 (.sl cv) a):xQ a=some a:=gB (f:=px) (z:=(([]:List Bytes),([]:List aN),((0,0,0,0),(0,0,0,([]:List Int)),([]:List fJ),0),([]:List bn),([]:List eC),([]:List Vector),([]:List Bool),(0,false,([]:List Int)),(([]:List dX),([]:List Slot),([]:Bytes),([]:List Int)),([]:List Stream),false,([]:List Bytes),([]:List Int),([]:List Int),0,0,0,0,0)) (a7 h.1 (by omega)) (λx hx=>Zl x (h.2 x hx))
theorem Jd (a:fu)(h:bJ 1048576 eu a):wB a=some a:=rfl
theorem Bt (a:aE)(h:bJ 1048576 aC a):eD a=some a:=by first|(simp only[eD,Jd _ h.2.2.1,ab];done)|(simp only[eD,Jd _ h.2.2.1,ab];rfl)
theorem tQ (a:List aE)(h:bJ 1048576 (.sl aC) a):jN a=some a:=gB (f:=eD) (z:=(0,0,(0,0,0),false,0,0)) (a7 h.1 (by omega)) (λx hx=>Bt x (h.2 x hx))
theorem Qq (a:bl)(h:bJ 1048576 bq a):jK a=some a:=by first|(simp only[jK,Aj _ h.1,ab];done)|(simp only[jK,Aj _ h.1,ab];rfl)
theorem DV (a:List bl)(h:bJ 1048576 (.sl bq) a):tH a=some a:=gB (f:=jK) (z:=((0,false,([]:List Int)),0,0,0)) (a7 h.1 (by omega)) (λx hx=>Qq x (h.2 x hx))
theorem Oi (a:List Bytes)(h:bJ 1048576 (.sl .str) a):qI a=some a:=by first|(simp only[qI,mE _ h,ab];done)|(simp only[qI,mE _ h,ab];rfl)
theorem Oh (a:ji)(h:bJ 1048576 eY a):xP a=some a:=rfl
theorem Zk (a:dj)(h:bJ 1048576 dQ a):kb a=some a:=by first|(simp only[kb,Oj _ h.1,tQ _ h.2.1,DV _ h.2.2.1,Oi _ h.2.2.2.1,Oh _ h.2.2.2.2.1,lO _ h.2.2.2.2.2.1,mE _ h.2.2.2.2.2.2,ab];done)|(simp only[kb,Oj _ h.1,tQ _ h.2.1,DV _ h.2.2.1,Oi _ h.2.2.2.1,Oh _ h.2.2.2.2.1,lO _ h.2.2.2.2.2.1,mE _ h.2.2.2.2.2.2,ab];rfl)
theorem xp (a:List Int)(h:bJ 1000000000000 (.sl (.int .i64)) a):iJ a a=some true:=xo h.1
theorem xq (a:List Bytes)(h:bJ 1000000000000 (.sl .str) a):jD a a=some true:=xo h.1
theorem Sf (a:List Bytes)(h:bJ 1000000000000 (.sl .str) a):sv a a=some true:=by simp[sv,xq _ h]
theorem OY (a:aN)(h:bJ 1000000000000 bg a):l9 a a=some true:=by simp[l9]
theorem Mm (a:List aN)(h:bJ 1000000000000 (.sl bg) a):tB a a=some true:=eS (f:=l9) h.1 (λx hx=>OY x (h.2 x hx))
theorem Q2 (a:ji)(h:bJ 1000000000000 eY a):s8 a a=some true:=by simp[s8]
theorem Q1 (a:eC)(h:bJ 1000000000000 dF a):pt a a=some true:=by simp[pt,xp _ h.2.2.2]
theorem Yh (a:fJ)(h:bJ 1000000000000 dA a):ta a a=some true:=by simp[ta,xp _ h.2.2]
theorem Ug (a:List fJ)(h:bJ 1000000000000 (.sl dA) a):xG a a=some true:=eS (f:=ta) h.1 (λx hx=>Yh x (h.2 x hx))
theorem O2 (a:ew)(h:bJ 1000000000000 fO a):qg a a=some true:=by simp[qg,Q2 _ h.1,Q1 _ h.2.1,Ug _ h.2.2.1]
theorem uP (a:fu)(h:bJ 1000000000000 eu a):fz a a=some true:=by simp[fz]
theorem O0 (a:cI)(h:bJ 1000000000000 gE a):qf a a=some true:=by simp[qf]
theorem Sg (a:aO)(h:bJ 1000000000000 cd a):sy a a=some true:=by simp[sy,O0 _ h.2.2.2.2.2.2.2.2]
theorem Ui (a:gD)(h:bJ 1000000000000 nD a):uf a a=some true:=by simp[uf,Sg _ h.1]
theorem OZ (a:bn)(h:bJ 1000000000000 bt a):ma a a=some true:=by simp[ma,Q2 _ h.1,uP _ h.2.1,uP _ h.2.2.1,Ui _ h.2.2.2.1]
theorem Mn (a:List bn)(h:bJ 1000000000000 (.sl bt) a):tC a a=some true:=eS (f:=ma) h.1 (λx hx=>OZ x (h.2 x hx))
theorem Ue (a:List eC)(h:bJ 1000000000000 (.sl dF) a):xE a a=some true:=eS (f:=pt) h.1 (λx hx=>Q1 x (h.2 x hx))
theorem Sj (a:Vector)(h:bJ 1000000000000 cl a):n0 a a=some true:=by simp[n0]
theorem O3 (a:List Vector)(h:bJ 1000000000000 (.sl cl) a):u6 a a=some true:=eS (f:=n0) h.1 (λx hx=>Sj x (h.2 x hx))
theorem Ua (a:List Bool)(h:bJ 1000000000000 (.sl .bool) a):xC a a=some true:=xo h.1
theorem H8 (a:Filter)(h:bJ 1000000000000 fw a):nY a a=some true:=by simp[nY,xp _ h.2.2]
theorem Yg (a:dX)(h:bJ 1000000000000 dw a):s9 a a=some true:=by simp[s9]
theorem Uf (a:List dX)(h:bJ 1000000000000 (.sl dw) a):xF a a=some true:=eS (f:=s9) h.1 (λx hx=>Yg x (h.2 x hx))
theorem Q0 (a:eQ)(h:bJ 1000000000000 fc a):s6 a a=some true:=by simp[s6]
theorem Yi (a:Slot)(h:bJ 1000000000000 cS a):tc a a=some true:=by simp[tc,Q0 _ h.2.1]
theorem Uh (a:List Slot)(h:bJ 1000000000000 (.sl cS) a):xH a a=some true:=eS (f:=tc) h.1 (λx hx=>Yi x (h.2 x hx))
theorem Kv (a:List Slot)(h:bJ 1000000000000 (.sl cS) a):m7 a a=some true:=by simp[m7,Uh _ h]
theorem Sh (a:fK)(h:bJ 1000000000000 ia a):sA a a=some true:=by simp[sA,xp _ h.2]
theorem Mo (a:dv)(h:bJ 1000000000000 eL a):oH a a=some true:=by simp[oH,Uf _ h.1,Kv _ h.2.1,Sh _ h.2.2]
theorem Si (a:Stream)(h:bJ 1000000000000 cu a):nZ a a=some true:=by simp[nZ,Q0 _ h.1]
theorem O1 (a:List Stream)(h:bJ 1000000000000 (.sl cu) a):u5 a a=some true:=eS (f:=nZ) h.1 (λx hx=>Si x (h.2 x hx))
theorem Mk (a:eQ)(h:bJ 1000000000000 fc a):oG a a=some true:=by simp[oG]
theorem Yf (a:Host)(h:bJ 1000000000000 cv a):s7 a a=some true:=by simp[s7,Sf _ h.1,Mm _ h.2.1,O2 _ h.2.2.1,Mn _ h.2.2.2.1,Ue _ h.2.2.2.2.1,O3 _ h.2.2.2.2.2.1,Ua _ h.2.2.2.2.2.2.1,H8 _ h.2.2.2.2.2.2.2.1,Mo _ h.2.2.2.2.2.2.2.2.1,O1 _ h.2.2.2.2.2.2.2.2.2.1,xq _ h.2.2.2.2.2.2.2.2.2.2.2.1,xp _ h.2.2.2.2.2.2.2.2.2.2.2.2.1,xp _ h.2.2.2.2.2.2.2.2.2.2.2.2.2.1,Mk _ h.2.2.2.2.2.2.2.2.2.2.2.2.2.2]
theorem Ud (a:List Host)(h:bJ 1000000000000 (.sl cv) a):xD a a=some true:=eS (f:=s7) h.1 (λx hx=>Yf x (h.2 x hx))
theorem Se (a:fu)(h:bJ 1000000000000 eu a):su a a=some true:=by simp[su]
theorem AY (a:aE)(h:bJ 1000000000000 aC a):fA a a=some true:=by simp[fA,Se _ h.2.2.1]
theorem Am (a:List aE)(h:bJ 1000000000000 (.sl aC) a):jE a a=some true:=eS (f:=fA) h.1 (λx hx=>AY x (h.2 x hx))
theorem OX (a:bl)(h:bJ 1000000000000 bq a):l8 a a=some true:=by simp[l8,H8 _ h.1]
theorem Ml (a:List bl)(h:bJ 1000000000000 (.sl bq) a):tA a a=some true:=eS (f:=l8) h.1 (λx hx=>OX x (h.2 x hx))
theorem Uc (a:List Bytes)(h:bJ 1000000000000 (.sl .str) a):ue a a=some true:=by simp[ue,xq _ h]
theorem Ub (a:ji)(h:bJ 1000000000000 eY a):ud a a=some true:=by simp[ud]
theorem QZ (a:dj)(h:bJ 1000000000000 dQ a):l7 a a=some true:=by simp[l7,Ud _ h.1,Am _ h.2.1,Ml _ h.2.2.1,Uc _ h.2.2.2.1,Ub _ h.2.2.2.2.1,xp _ h.2.2.2.2.2.1,xq _ h.2.2.2.2.2.2]
def cx (a lo hi:Int):Bool:=decide (lo≤a)&&decide (a≤hi)
theorem bW {a lo hi:Int}:cx a lo hi=true↔lo≤a∧a≤hi:=by simp[cx]
theorem cc (a b c:Int):aB a b c=some (cx a b c):=by simp only[aB,aZ,ab,cx];cases h:decide (a≥b)<;>rfl
theorem cC (a b c:Int):aw a b c=some (cx a b c):=cc a b c
theorem bM {α:Type}{l:List α}{i:Nat}(h:i<l.length)(d:α):l.getD i d=l[i]:=by rw[List.getD_eq_getElem?_getD,List.getElem?_eq_getElem h];rfl
def Hm (l:List Int)(i:Nat):Bool:=cx (l.getD i 0) 0 4095&& !(decide (0<i)&&decide (l.getD i 0≤l.getD (i-1) 0))
def iE (f:Filter):Bool:=(List.range f.2.2.length).all (Hm f.2.2)&&(cx f.1 0 281474976710654&&decide ((f.2.2.length:Int)≤8))
theorem yb (f:Filter)(h:f.2.2.length≤1000000000):jf f=some (iE f):=by
 unfold jf;rw[eM (hit:=some false) (fin:=some (cx f.1 0 281474976710654&&decide ((f.2.2.length:Int)≤8))) (Hm f.2.2) f.2.2.length (by omega) (λi nx hi=>?hs) (λnx=>?hf)]
 case hs=>
  simp only[ni]
  rw[ah (by omega),aX hi,wrap64 (n:=(i:Int)+1) (by omega) (by omega)]
  simp only[ai,ab,cc,Hm,bM hi]
  by_cases h0:0<i
  ·have e:aq ((i:Int)-1)=((i-1:Nat):Int):=by rw[wrap64 (by omega) (by omega)];omega
   have hp:i-1<f.2.2.length:=by omega
   rw[e,aX hp,ah (show(i:Int)>0 by omega),ah h0,bM hp]
   simp only[ai,ab,a9]
   cases cx f.2.2[i] 0 4095<;>cases decide (f.2.2[i]≤f.2.2[i-1])<;>rfl
  ·rw[ae (show¬(i:Int)>0 by omega),ae h0]
   simp only[af,gj]
   cases cx f.2.2[i] 0 4095<;>rfl
 case hf=>
  simp only[ni]
  rw[ae (by omega)]
  simp only[af,cc,ab,yn,aZ]
  cases cx f.1 0 281474976710654<;>rfl
 unfold iE;cases (List.range f.2.2.length).all (Hm f.2.2)<;>rfl
theorem xv (f:Filter)(h:f.2.2.length≤1000000000):iY f=some (iE f):=by
 unfold iY;rw[eM (hit:=some false) (fin:=some (cx f.1 0 281474976710654&&decide ((f.2.2.length:Int)≤8))) (Hm f.2.2) f.2.2.length (by omega) (λi nx hi=>?hs) (λnx=>?hf)]
 case hs=>
  simp only[mI]
  rw[ah (by omega),aX hi,wrap64 (n:=(i:Int)+1) (by omega) (by omega)]
  simp only[ai,ab,cC,Hm,bM hi]
  by_cases h0:0<i
  ·have e:aq ((i:Int)-1)=((i-1:Nat):Int):=by rw[wrap64 (by omega) (by omega)];omega
   have hp:i-1<f.2.2.length:=by omega
   rw[e,aX hp,ah (show(i:Int)>0 by omega),ah h0,bM hp]
   simp only[ai,ab,a9,ge_iff_le]
   cases cx f.2.2[i] 0 4095<;>cases decide (f.2.2[i]≤f.2.2[i-1])<;>rfl
  ·rw[ae (show¬(i:Int)>0 by omega),ae h0]
   simp only[af,gj]
   cases cx f.2.2[i] 0 4095<;>rfl
 case hf=>
  simp only[mI]
  rw[ae (by omega)]
  simp only[af,cC,ab,yn,aZ]
  cases cx f.1 0 281474976710654<;>rfl
 unfold iE;cases (List.range f.2.2.length).all (Hm f.2.2)<;>rfl
def vw (r:dX):Bool:=(gU r).getD false
theorem G1 (r:dX):gU r=some (vw r):=by
 have:∃b,gU r=some b:=by simp only[gU,cc,ab,aZ];exact⟨_,rfl⟩
 obtain⟨b,hb⟩:=this;simp[vw,hb]
theorem UW (r:dX):vO r=some (vw r):=G1 r
theorem NL {r:dX}(h:vw r=true):r.2.2.2.2.2.2.2.1=0∨r.2.2.2.2.2.2.2.2=0:=by
 by_cases h0:r.2.2.2.2.2.2.2.1=0;exact .inl h0;by_cases h1:r.2.2.2.2.2.2.2.2=0;exact .inr h1;exfalso;have e0:(r.2.2.2.2.2.2.2.1==0)=false:=by simp[h0]
 have e1:(r.2.2.2.2.2.2.2.2==0)=false:=by simp[h1]
 revert h;unfold vw;simp only[gU,cc,ab,aZ,e0,e1,af,dq];have z:∀c:Bool,(bif c then false else false)=false:=by intro c;cases c<;>rfl
 simp only[z];intro h;cases h
def tK (l:List dX):Bool:=l.all vw&&decide ((l.length:Int)≤12)
theorem Ac (l:List dX)(h:l.length≤1000000000):ri l=some (tK l):=by
 unfold ri;rw[pk (hit:=some false) (fin:=some (decide ((l.length:Int)≤12))) vw l (by omega) (λi hi nx=>?hs) (λnx=>?hf)]
 case hs=>
  simp only[oQ]
  rw[ah (by omega),aX hi,wrap64 (by omega) (by omega)]
  simp only[ai,ab,G1];rfl
 case hf=>
  simp only[oQ]
  rw[ae (by omega)];rfl
 unfold tK;cases l.all vw<;>rfl
theorem Ir (l:List dX)(h:l.length≤1000000000):tZ l=some (tK l):=by rw[←Ac l h];rfl
theorem amK (x:Int):((BitVec.ofInt 64 x&&&BitVec.ofInt 64 7).toNat:Int)=x%8:=by
 have h7:(BitVec.ofInt 64 7).toNat=2^3-1:=by decide
 rw[BitVec.toNat_and,h7,Nat.and_two_pow_sub_one_eq_mod];simp only[BitVec.toNat_ofInt];omega
theorem agE (x:Int):((BitVec.ofInt (IntKind.bits .i64) x&&&BitVec.ofInt (IntKind.bits .i64) 7).toNat:Int)=x%8:=amK x
theorem YG (x:Int):gQ x 8=some (x%8):=by unfold gQ;rw[ao (by omega),Int.tmod_eq_emod];split;rw[ae (by omega)];simp;rw[ah (by simp;omega),wrap64 (by simp;omega) (by simp;omega)];simp
def Ay (f:eQ):Int:=(f.1%8+f.2.1%8+f.2.2.1%8+f.2.2.2.1%8+f.2.2.2.2%8)%8
theorem ML (f:eQ):0≤Ay f∧Ay f<8:=by unfold Ay;omega
theorem XT {n:Int}(h:0≤n):Int.tmod n 8=n%8:=cU h
theorem VJ (f:eQ):sM f=some (Ay f):=by
 unfold sM;generalize hL:[f.1,f.2.1,f.2.2.1,f.2.2.2.1,f.2.2.2.2]=L;have hlen:L.length=5:=by rw[←hL];rfl
 have hfu:=dI;have key:=rG (R:=Int) (T:=jW (λ(y2:Int) (y3:Int)=>if 8=0 then none else(some (Int.tmod y2 8))) L) L (λ(s:Int) i=>(s,(i:Int))) (λx s k=>k (aq (s+aq (x%8)))) (λs=>some (Int.tmod s 8)) (λi hi s nx=>by simp only[jW];rw[ah (by omega),aX hi,wrap64 (n:=(i:Int)+1) (by omega) (by omega)];simp only[ai,ab];rw[agE L[i]];rfl) (λs nx=>by simp only[jW];rw[ae (by omega)];rfl) fuel 0 0 (by omega) (by omega);refine key.trans ?_;rw[←hL];simp only[cJ,po];rw[wrap64 (n:=f.1%8) (by omega) (by omega),wrap64 (n:=f.2.1%8) (by omega) (by omega),wrap64 (n:=f.2.2.1%8) (by omega) (by omega),wrap64 (n:=f.2.2.2.1%8) (by omega) (by omega),wrap64 (n:=f.2.2.2.2%8) (by omega) (by omega)];rw[wrap64 (n:=0+f.1%8) (by omega) (by omega),wrap64 (n:=0+f.1%8+_) (by omega) (by omega),wrap64 (n:=0+f.1%8+_+_) (by omega) (by omega),wrap64 (n:=0+f.1%8+_+_+_) (by omega) (by omega),wrap64 (n:=0+f.1%8+_+_+_+_) (by omega) (by omega)];rw[XT (by omega),Ay,Int.zero_add]
theorem UK (f:eQ):se f=some (Ay f):=by
 unfold se;generalize hL:[f.1,f.2.1,f.2.2.1,f.2.2.2.1,f.2.2.2.2]=L;have hlen:L.length=5:=by rw[←hL];rfl
 have hfu:=dI;have key:=rG (R:=Int) (T:=jz (λ(y2:Int) (y3:Int)=>if 8=0 then none else(some (Int.tmod y2 8))) L (L.length:Int)) L (λ(s:Int) i=>(s,(i:Int))) (λx s k=>k (aq (s+(x%8)))) (λs=>some (Int.tmod s 8)) (λi hi s nx=>by simp only[jz];rw[ah (by omega),aX hi,wrap64 (n:=(i:Int)+1) (by omega) (by omega)];simp only[ai,ab,YG];rfl) (λs nx=>by simp only[jz];rw[ae (by omega)];rfl) fuel 0 0 (by omega) (by omega);refine key.trans ?_;rw[←hL];simp only[cJ,po];rw[wrap64 (n:=0+f.1%8) (by omega) (by omega),wrap64 (n:=0+f.1%8+_) (by omega) (by omega),wrap64 (n:=0+f.1%8+_+_) (by omega) (by omega),wrap64 (n:=0+f.1%8+_+_+_) (by omega) (by omega),wrap64 (n:=0+f.1%8+_+_+_+_) (by omega) (by omega)];rw[XT (by omega),Ay,Int.zero_add]
def ee (t:List Slot)(i:Nat):Slot:=t.getD i (0,(0,0,0,0,0),0)
theorem rL {t:List Slot}{i:Nat}(h:i<t.length):ee t i=t[i]:=bM h _
def ig (f:eQ)(k:Nat):Nat:=((Ay f).toNat+k)%8
theorem CI (f:eQ)(k:Nat):ig f k<8:=Nat.mod_lt _ (by omega)
theorem Ot (f:eQ)(k:Nat)(h:k<8):Int.tmod (aq (Ay f+(k:Int))) 8=(ig f k:Int):=by have:=ML f;rw[wrap64 (by omega) (by omega),XT (by omega),ig];omega
def kY (s:Slot)(f:eQ):Bool:=(s.1==1)&&decide (s.2.1=f)
theorem KA (p q:eQ):((p.1==q.1)&&((p.2.1==q.2.1)&&((p.2.2.1==q.2.2.1)&&((p.2.2.2.1==q.2.2.2.1)&&((p.2.2.2.2==q.2.2.2.2)&&true)))))=decide (p=q):=by obtain⟨a,b,c,d,e⟩:=p;obtain⟨a',b',c',d',e'⟩:=q;rw[bX];simp
def walk (t:List Slot)(f:eQ):Nat→Nat→Int
 |0,_=> -1
 |n+1,k=>if(ee t (ig f k)).1=0 then-1 else if kY (ee t (ig f k)) f then(ig f k:Int) else walk t f n (k+1)
theorem NU (t:List Slot)(f:eQ)(ht:t.length=8):rm t f=some (walk t f 8 0):=by
 unfold rm;have hfu:=dI
 have key:=zU (R:=Int) (T:=kW (λ(y6:Int)=>some (-1)) (λ(y7:Int) (y8:Int)=>some y7) 0 t f) 8 (λ(_:Unit) i=>(i:Int))
  (λi s k=>if(ee t (ig f i)).1=0 then some (-1) else if kY (ee t (ig f i)) f then some (ig f i:Int) else k s) (λ_=>some (-1))
  (λi s nx hi=>by
   have hw:ig f i<t.length:=by have:=CI f i;omega
   simp only[kW,VJ];rw[ah (by omega),wrap64 (n:=(i:Int)+1) (by omega) (by omega)];simp only[ai,ab,Ot f i hi,aX hw,rL hw,KA,kY,aZ,ab];rw[ao (by omega)];by_cases h0:t[ig f i].1=0;simp[h0];have e0:(t[ig f i].1==0)=false:=by simp[h0]
   rw[e0,ao h0];cases (t[ig f i].1==1)<;>cases decide (t[ig f i].2.1=f)<;>rfl)
  (λs nx=>by simp only[kW];rfl)
  fuel 0 () (by omega) (by omega)
 refine key.trans ?_;have main:∀n i,X0 (R:=Int) (λi (s:Unit) k=>if(ee t (ig f i)).1=0 then some (-1) else if kY (ee t (ig f i)) f then some (ig f i:Int) else k s) (λ_=>some (-1)) 8 n i ()=some (walk t f n i):=by intro n;induction n with|zero=>intro i;rfl|succ n ih=>intro i;rw[X0,walk];split;rfl;split;rfl;exact ih (i+1)
 exact main 8 0
def tw (f:eQ):List Slot→Int→Int
 |[],_=> -1
 |s::r,i=>if kY s f then i else tw f r (i+1)
theorem MW (t:List Slot)(f:eQ)(h:t.length≤1000000000):s5 t f=some (tw f t 0):=by
 unfold s5;have hfu:=dI;have key:∀n i,i≤t.length→t.length-i<n→aH (qd (λ(y3:Int)=>some (-1)) (λ(y4:Int) (y5:Int)=>some y4) 0 t ((List.length t:Int)) f) n (i:Int)=some (tw f (t.drop i) i):=by
  intro n;induction n with
  |zero=>intro i _ h;omega
  |succ n ih=>
   intro i hi hn;rw[aH];simp only[qd];rcases bw i t.length with hlt|hge;rw[ah (by omega),aX hlt,bA hlt,tw,wrap64 (by omega) (by omega)];simp only[ai,ab,KA,aZ];have e:(bif t[i].1==1 then decide (t[i].2.1=f) else false)=kY t[i] f:=by unfold kY;cases (t[i].1==1)<;>rfl
   rw[e];cases kY t[i] f with|true=>rfl|false=>exact ih (i+1) (by omega) (by omega)
   have:i=t.length:=by omega
   subst this;rw[ae (by omega),List.drop_length];rfl
 exact key fuel 0 (by omega) (by omega)
theorem Yx (f:eQ):xA f=some ((List.range 8).map λk=>(ig f k:Int)):=by unfold xA;have hfu:=dI;have key:=zU (R:=List Int) (T:=nX (λ(y2:List Int) (y3:Int)=>some y2) f) 8 (λ(_:Unit) i=>((List.range i).map (λk=>(ig f k:Int)),(i:Int))) (λ_ s k=>k s) (λ_=>some ((List.range 8).map λk=>(ig f k:Int))) (λi s nx hi=>by simp only[nX,UK];rw[ah (by omega),wrap64 (n:=(i:Int)+1) (by omega) (by omega)];simp only[ai,ab,Ot f i hi];rw[ao (by omega),aJ (by simp;omega),List.range_succ,List.map_append];rfl) (λs nx=>by simp only[nX];rfl) fuel 0 () (by omega) (by omega);exact key
def clear (t:List Slot)(f:eQ)(i:Nat):Nat→Nat→Bool
 |0,_=>true
 |n+1,k=>if ig f k=i then true else if(ee t (ig f k)).1=0 then false else clear t f i n (k+1)
theorem Sq {R:Type}(k0:Int→Option R)(k1:Bool→Int→Option R)(hit fin:Option R)(h0:∀x,k0 x=fin)(h1:∀x,k1 false x=hit)(v2:Bool)(i:Nat)(v12:List Slot)(v13 v14:Int)(t:List Slot)(f:eQ)(ht:t.length=8): aH (gY k0 k1 v2 (i:Int) v12 v13 v14 ((List.range 8).map λk=>(ig f k:Int)) (((List.range 8).map λk=>(ig f k:Int)).length:Int) t) fuel 0=cond (clear t f i 8 0) fin hit:=by
 have hfu:=dI;have hl:((List.range 8).map λk=>(ig f k:Int)).length=8:=by simp
 have key:=zU (R:=R) (T:=gY k0 k1 v2 (i:Int) v12 v13 v14 ((List.range 8).map λk=>(ig f k:Int)) (((List.range 8).map λk=>(ig f k:Int)).length:Int) t) 8 (λ(_:Unit) i=>(i:Int))
  (λk s c=>if ig f k=i then fin else if(ee t (ig f k)).1=0 then hit else c s) (λ_=>fin)
  (λk s nx hk=>by
   have hw:ig f k<t.length:=by have:=CI f k;omega
   simp only[gY];rw[ah (by omega),aX (show k<((List.range 8).map λk=>(ig f k:Int)).length by omega),wrap64 (n:=(k:Int)+1) (by omega) (by omega)];simp only[ai,ab,List.getElem_map,List.getElem_range,aX hw,rL hw,h0,h1];by_cases e1:ig f k=i;subst e1;simp;have:((ig f k:Int)==(i:Int))=false:=by simp;omega
   rw[this,ao e1];by_cases e2:t[ig f k].1=0;simp[e2];have:(t[ig f k].1==0)=false:=by simp[e2]
   rw[this,ao e2];rfl)
  (λs nx=>by simp only[gY];rw[ae (by omega)];exact h0 _)
  fuel 0 () (by omega) (by omega)
 refine key.trans ?_;have main:∀n k,X0 (R:=R) (λk (s:Unit) c=>if ig f k=i then fin else if(ee t (ig f k)).1=0 then hit else c s) (λ_=>fin) 8 n k ()=cond (clear t f i n k) fin hit:=by intro n;induction n with|zero=>intro k;rfl|succ n ih=>intro k;rw[X0,clear];split;rfl;split;rfl;exact ih (k+1)
 exact main 8 0
def Mx:eQ:=(0,0,0,0,0)
theorem My (p:eQ):((p.1==0)&&((p.2.1==0)&&((p.2.2.1==0)&&((p.2.2.2.1==0)&&((p.2.2.2.2==0)&&true)))))=decide (p=Mx):=KA p Mx
def IV (s:Slot):Bool:=cx s.1 0 2&&cx s.2.2 0 3&&((s.1==1)||(s.2.2==0)&&decide (s.2.1=Mx))
def jT (t:List Slot)(i:Nat):Bool:=IV (ee t i)&&(!((ee t i).1==1)||(walk t (ee t i).2.1 8 0==(i:Int)))
def pq (t:List Slot)(i:Nat):Bool:=IV (ee t i)&&(!((ee t i).1==1)||(tw (ee t i).2.1 t 0==(i:Int))&&clear t (ee t i).2.1 i 8 0)
def mD (t:List Slot):Bool:=(t.length==8)&&(List.range 8).all (jT t)
theorem I4 (t:List Slot):rj t=some (mD t):=by
 unfold rj mD;by_cases ht:t.length=8
 ·have e:((t.length:Int) !=8)=false:=by rw[ht];rfl
  have e2:(t.length==8)=true:=by rw[ht];rfl
  rw[e,e2];simp only[af,a9];rw[eM (hit:=some false) (fin:=some true) (jT t) 8 (by omega) (λi nx hi=>?hs) (λnx=>?hf)]
  case hs=>
   have hl:i<t.length:=by omega
   simp only[oR]
   rw[ah (by omega),aX hl,wrap64 (by omega) (by omega)]
   simp only[ai,ab,cc,aZ,My,NU t _ ht,jT,rL hl,IV,bne]
   cases cx t[i].1 0 2<;>cases cx t[i].2.2 0 3<;>cases (t[i].1==1)<;>cases (t[i].2.2==0)<;>cases decide (t[i].2.1=Mx)<;>first|rfl|(cases (walk t t[i].2.1 8 0==(i:Int))<;>rfl)
  case hf=>
   simp only[oR]
   rw[ae (by omega)];rfl
  cases (List.range 8).all (jT t)<;>rfl
 have e:((t.length:Int) !=8)=true:=by simp;omega
 have e2:(t.length==8)=false:=by simp[ht]
 rw[e,e2];rfl
theorem Pp (t:List Slot):mT t=some ((t.length==8)&&(List.range 8).all (pq t)):=by
 unfold mT;by_cases ht:t.length=8
 ·have e:((t.length:Int) !=8)=false:=by rw[ht];rfl
  have e2:(t.length==8)=true:=by rw[ht];rfl
  rw[e,e2];simp only[af,a9];rw[eM (hit:=some false) (fin:=some true) (pq t) 8 (by omega) (λi nx hi=>?hs) (λnx=>?hf)]
  case hs=>
   have hl:i<t.length:=by omega
   simp only[oD]
   rw[ah (by omega),aX hl,wrap64 (by omega) (by omega)]
   simp only[ai,ab,cC,aZ,My,MW t _ (show t.length≤1000000000 by omega),Yx,pq,rL hl,IV,bne]
   rw[Sq (λ_=>nx ((i:Int)+1)) (λ(y:Bool) (_:Int)=>some y) (some false) (nx ((i:Int)+1)) (λ_=>rfl) (λ_=>rfl) _ _ _ _ _ _ _ ht]
   cases cx t[i].1 0 2<;>cases cx t[i].2.2 0 3<;>cases (t[i].1==1)<;>cases (t[i].2.2==0)<;>cases decide (t[i].2.1=Mx)<;>first|rfl|(cases (tw t[i].2.1 t 0==(i:Int))<;>first|rfl|(cases clear t t[i].2.1 i 8 0<;>rfl))
  case hf=>
   simp only[oD]
   rw[ae (by omega)];rfl
  cases (List.range 8).all (pq t)<;>rfl
 have e:((t.length:Int) !=8)=true:=by simp;omega
 have e2:(t.length==8)=false:=by simp[ht]
 rw[e,e2];rfl
theorem Ji (t:List Slot)(f:eQ)(i:Nat):∀n k,walk t f n k=(i:Int)→kY (ee t i) f=true∧clear t f i n k=true∧∃j,j<n∧ig f (k+j)=i
 |0,k,h=>by unfold walk at h;omega
 |n+1,k,h=>by
  unfold walk at h;unfold clear;by_cases h0:(ee t (ig f k)).1=0;rw[ay h0]at h;omega;rw[ao h0]at h;by_cases h1:kY (ee t (ig f k)) f=true;rw[ay h1]at h;have:ig f k=i:=by omega
  subst this;exact⟨h1,by simp,0,by omega,rfl⟩;rw[ao h1]at h;obtain⟨a,b,j,hj,e⟩:=Ji t f i n (k+1) h;refine⟨a,?_,j+1,by omega,by rw[←e];congr 1;omega⟩;rw[ao h0,b];split<;>rfl
theorem RX (t:List Slot)(f:eQ)(i:Nat)(hu:kY (ee t i) f=true)(huniq:∀j,j<8→kY (ee t j) f=true→j=i):∀n k,clear t f i n k=true→(∃j,j<n∧ig f (k+j)=i)→walk t f n k=(i:Int)
 |0,k,_,h=>by obtain⟨j,hj,_⟩:=h;omega
 |n+1,k,hc,⟨j,hj,e⟩=>by unfold walk;unfold clear at hc;by_cases h1:ig f k=i;rw[h1,ao,ay hu];intro h0;unfold kY at hu;rw[h0]at hu;simp at hu;rw[ao h1]at hc;by_cases h0:(ee t (ig f k)).1=0;rw[ay h0]at hc;cases hc;rw[ao h0]at hc;rw[ao h0,ao (λhu'=>h1 (huniq _ (CI f k) hu'))];refine RX t f i hu huniq n (k+1) hc ?_;cases j with|zero=>exact absurd e h1|succ j=>exact⟨j,by omega,by rw[←e];congr 1;omega⟩
theorem Zt (f:eQ)(i:Nat)(hi:i<8):∃j,j<8∧ig f (0+j)=i:=by have:=ML f;refine⟨(i+8-(Ay f).toNat)%8,by omega,?_⟩;unfold ig;omega
theorem yT (f:eQ):∀(t:List Slot)(m:Nat),(∃j,j<t.length∧kY (ee t j) f=true)→∃j,j<t.length∧kY (ee t j) f=true∧tw f t m=((m+j:Nat):Int)
 |[],_,h=>by obtain⟨j,hj,_⟩:=h;simp at hj
 |s::r,m,⟨j,hj,e⟩=>by
  unfold tw;by_cases hs:kY s f=true;rw[ay hs];exact⟨0,by simp,by simpa[ee]using hs,by simp⟩;rw[ao hs];cases j with
  |zero=>exact absurd (by simpa[ee]using e) hs
  |succ j=>
   obtain⟨j',h1,h2,h3⟩:=yT f r (m+1) ⟨j,by simpa using hj,by simpa[ee]using e⟩;refine⟨j'+1,by simpa using h1,by simpa[ee]using h2,?_⟩;have:((m:Int)+1)=((m+1:Nat):Int):=by omega
   rw[this,h3];congr 1;omega
theorem P3 (t:List Slot)(ht:t.length=8):(List.range 8).all (pq t)=(List.range 8).all (jT t):=by
 rw[bX,aU,aU];simp only[cw];constructor;intro h i hi;have hI:=h i hi;unfold pq at hI;unfold jT;simp only[aj,cm,aR,aW]at hI⊢;refine⟨hI.1,?_⟩;rcases hI.2 with h1|⟨h1,h2⟩;exact .inl h1;by_cases hu:((ee t i).1==1)=true;right;have hu':kY (ee t i) (ee t i).2.1=true:=by unfold kY;rw[hu];simp
 refine RX t _ i hu' (λj hj huj=>?_) 8 0 h2 (Zt _ i hi);have hJ:=h j hj;unfold pq at hJ;unfold kY at huj;simp only[aj,aK]at huj;simp only[aj,cm,aR,aW]at hJ;rcases hJ.2 with h3|⟨h3,_⟩;rw[huj.1]at h3;cases h3;rw[huj.2]at h3;omega;exact .inl (by simpa using hu);intro h i hi;have hI:=h i hi;unfold jT at hI;unfold pq;simp only[aj,cm,aR,aW]at hI⊢;refine⟨hI.1,?_⟩;rcases hI.2 with h1|h1;exact .inl h1;right;obtain⟨hu,hc,_⟩:=Ji t _ i 8 0 h1;refine⟨?_,hc⟩;obtain⟨j,hj,huj,e⟩:=yT (ee t i).2.1 t 0 ⟨i,by omega,hu⟩;have hJ:=h j (by omega);unfold jT at hJ;unfold kY at huj;simp only[aj,aK]at huj;simp only[aj,cm,aR,aW]at hJ;rcases hJ.2 with h3|h3;rw[huj.1]at h3;cases h3;rw[huj.2,h1]at h3;have e':tw (ee t i).2.1 t 0=((0+j:Nat):Int):=e;rw[e'];omega
theorem It (t:List Slot):mT t=some (mD t):=by
 rw[Pp,mD];by_cases ht:t.length=8;rw[P3 t ht];have e2:(t.length==8)=false:=by simp[ht]
 rw[e2];rfl
def RE (n:Int):Bool:=(n==1)||(n==2)||(n==4)||(n==8)||(n==16)
theorem Pz (n:Int):ux n=some (RE n):=by simp only[ux,aZ,ab,RE];cases (n==1)<;>cases (n==2)<;>cases (n==4)<;>cases (n==8)<;>rfl
def oY (s:fK)(q:Int):Bool:=cx q 1 4&&((s.1.length:Int)==16)&&RE s.2.length&&s.2.all λx=>cx x 0 (q-1)
theorem Bp (s:fK)(q:Int)(h:s.2.length≤1000000000):ou s q=some (oY s q):=by
 unfold ou oY;simp only[cc,Pz,ab,aZ,bne];by_cases hq:cx q 1 4=true
 ·rw[pk (hit:=some false) (fin:=some true) (λx=>cx x 0 (q-1)) s.2 (by omega) (λi hi nx=>?hs) (λnx=>?hf)]
  case hs=>
   rw[bW]at hq
   simp only[ns]
   rw[ah (by omega),aX hi,wrap64 (n:=(i:Int)+1) (by omega) (by omega),wrap64 (n:=q-1) (by omega) (by omega)]
   simp only[ai,ab,cc];rfl
  case hf=>
   simp only[ns]
   rw[ae (by omega)];rfl
  rw[hq];cases ((s.1.length:Int)==16)<;>cases RE s.2.length<;>cases s.2.all (λx=>cx x 0 (q-1))<;>rfl
 have hq':cx q 1 4=false:=by simpa using hq
 rw[hq'];rfl
theorem Gj (s:fK)(q:Int)(h:s.2.length≤1000000000):sk s q=some (oY s q):=by rw[←Bp s q h];rfl
def fF (s:dv)(q:Int):Bool:=tK s.1&&mD s.2.1&&oY s.2.2 q&&s.1.all (λr=> !(decide (r.2.2.2.2.2.2.2.2≥q)))&&s.2.1.all (λx=> !(decide (x.2.2≥q)))
theorem Cx (s:dv)(q:Int)(h1:s.1.length≤1000000000)(h2:s.2.1.length≤1000000000)(h3:s.2.2.2.length≤1000000000):kV s q=some (fF s q):=by
 unfold kV fF;simp only[Ac _ h1,I4,Bp _ _ h3,ab,aZ];rw[pk (hit:=some false) (fin:=cond (s.2.1.all (λx=> !(decide (x.2.2≥q)))) (some true) (some false)) (λr:dX=> !(decide (r.2.2.2.2.2.2.2.2≥q))) s.1 (by omega) (λi hi nx=>?hs) (λnx=>?hf)]
 case hs=>
  simp only[kC]
  rw[ah (by omega),aX hi,wrap64 (by omega) (by omega)]
  simp only[ai,ab,c8];rfl
 case hf=>
  simp only[kC]
  rw[ae (by omega)]
  simp only[af]
  rw[pk (hit:=some false) (fin:=some true) (λx:Slot=> !(decide (x.2.2≥q))) s.2.1 (by omega) (λi hi nx=>?hs) (λnx=>?hf)]
  case hs=>
   simp only[kD]
   rw[ah (by omega),aX hi,wrap64 (by omega) (by omega)]
   simp only[ai,ab,c8];rfl
  case hf=>
   simp only[kD]
   rw[ae (by omega)];rfl
 cases tK s.1<;>cases mD s.2.1<;>cases oY s.2.2 q<;>cases s.1.all (λr=> !(decide (r.2.2.2.2.2.2.2.2≥q)))<;>cases s.2.1.all (λx=> !(decide (x.2.2≥q)))<;>rfl
theorem B3 (s:dv)(q:Int)(h1:s.1.length≤1000000000)(h2:s.2.1.length≤1000000000)(h3:s.2.2.2.length≤1000000000):kM s q=some (fF s q):=by
 unfold kM fF;simp only[Ir _ h1,It,Gj _ _ h3,ab,aZ];rw[pk (hit:=some false) (fin:=cond (s.2.1.all (λx=> !((x.1==1)&&decide (x.2.2≥q)))) (some true) (some false)) (λr:dX=> !((r.2.2.2.2.2.2.2.1==0)&&decide (r.2.2.2.2.2.2.2.2≥q))) s.1 (by omega) (λi hi nx=>?hs) (λnx=>?hf)]
 case hs=>
  simp only[kq]
  rw[ah (by omega),aX hi,wrap64 (by omega) (by omega)]
  simp only[ai,ab,c8,aZ]
  cases (s.1[i].2.2.2.2.2.2.2.1==0)<;>rfl
 case hf=>
  simp only[kq]
  rw[ae (by omega)]
  simp only[af]
  rw[pk (hit:=some false) (fin:=some true) (λx:Slot=> !((x.1==1)&&decide (x.2.2≥q))) s.2.1 (by omega) (λi hi nx=>?hs) (λnx=>?hf)]
  case hs=>
   simp only[jo]
   rw[ah (by omega),aX hi,wrap64 (by omega) (by omega)]
   simp only[ai,ab,c8,aZ]
   cases (s.2.1[i].1==1)<;>rfl
  case hf=>
   simp only[jo]
   rw[ae (by omega)];rfl
 cases hr:tK s.1 with
 |false=>rfl
 |true=>
  cases ht:mD s.2.1 with
  |false=>rfl
  |true=>
   cases hs:oY s.2.2 q with
   |false=>rfl
   |true=>
    have hq:1≤q:=by unfold oY at hs;simp only[aj,bW]at hs;exact hs.1.1.1.1
    have e1:s.1.all (λr=> !((r.2.2.2.2.2.2.2.1==0)&&decide (r.2.2.2.2.2.2.2.2≥q)))=s.1.all (λr=> !(decide (r.2.2.2.2.2.2.2.2≥q))):=by unfold tK at hr;simp only[aj,aU]at hr;rw[bX,aU,aU];refine forall_congr' λr=>forall_congr' λhm=>?_;rcases NL (hr.1 r hm)with h0|h0;rw[h0];simp;rw[h0];simp only[ae (show¬(0:Int)≥q by omega),gi]
    have e2:s.2.1.all (λx=> !((x.1==1)&&decide (x.2.2≥q)))=s.2.1.all (λx=> !(decide (x.2.2≥q))):=by unfold mD at ht;simp only[aj,aU,cw,aW]at ht;rw[bX,aU,aU];refine forall_congr' λx=>forall_congr' λhm=>?_;obtain⟨i,hi,rfl⟩:=List.mem_iff_getElem.1 hm;have hsl:=ht.2 i (by omega);unfold jT IV at hsl;rw[rL hi]at hsl;simp only[aj,cm,aW]at hsl;rcases hsl.1.2 with h0|⟨h0,_⟩;rw[h0];simp;rw[h0];simp only[ae (show¬(0:Int)≥q by omega),gi]
    rw[e1,e2];cases s.1.all (λr=> !(decide (r.2.2.2.2.2.2.2.2≥q)))<;>cases s.2.1.all (λx=> !(decide (x.2.2≥q)))<;>rfl
def eU (m:List Bytes):Bool:=m.all (λx=>(x.length:Int)==128)&&decide ((m.length:Int)≤64)
theorem yd (m:List Bytes)(h:m.length≤1000000000):lg m=some (eU m):=by
 unfold lg eU;rw[pk (hit:=some false) (fin:=some (decide ((m.length:Int)≤64))) (λx:Bytes=>(x.length:Int)==128) m (by omega) (λi hi nx=>?hs) (λnx=>?hf)]
 case hs=>
  simp only[nn]
  rw[ah (by omega),aX hi,wrap64 (by omega) (by omega)];rfl
 case hf=>
  simp only[nn]
  rw[ae (by omega)];rfl
 cases m.all (λx=>(x.length:Int)==128)<;>rfl
theorem Be (m:List Bytes)(h:m.length≤1000000000):nR m=some (eU m):=yd m h
def HB:aN:=(0,0,0,false)
def C5 (m:aN):Bool:=cx m.1 0 7&&(cx m.2.1 0 1023&&cx m.2.2.1 0 63)
def nB (d p:Int)(m:aN):Bool:=(m.1==d)&&(m.2.1==p)
def Na (l:List aN)(i:Nat):Bool:=C5 (l.getD i HB)&&(List.range i).all (λj=> !(nB (l.getD i HB).1 (l.getD i HB).2.1 (l.getD j HB)))
def eE (l:List aN):Bool:=decide ((l.length:Int)≤96)&&(List.range l.length).all (Na l)
theorem Ct (l:List aN)(h:l.length≤1000000000):kS l=some (eE l):=by
 unfold kS eE;rw[eM (hit:=some false) (fin:=some true) (Na l) l.length (by omega) (λi nx hi=>?hs) (λnx=>?hf)]
 case hs=>
  simp only[kz]
  rw[ah (by omega),aX hi,wrap64 (by omega) (by omega)]
  simp only[ai,ab,cc,aZ]
  rw[eM (hit:=some false) (fin:=nx ((i:Int)+1)) (λj=> !(nB l[i].1 l[i].2.1 (l.getD j HB))) i (by omega) (λj nx hj=>?hs2) (λnx=>?hf2)]
  case hs2=>
   have hjl:j<l.length:=by omega
   simp only[jv]
   rw[ah (by omega),aX hjl,wrap64 (by omega) (by omega)]
   simp only[ai,ab,aZ,bM hjl,nB,cF,c8];rfl
  case hf2=>
   simp only[jv]
   rw[ae (by omega)];rfl
  simp only[Na,C5,bM hi,cT]
  cases cx l[i].1 0 7<;>cases cx l[i].2.1 0 1023<;>cases cx l[i].2.2.1 0 63<;>cases (List.range i).all (λj=> !(nB l[i].1 l[i].2.1 (l.getD j HB)))<;>rfl
 case hf=>
  simp only[kz]
  rw[ae (by omega)];rfl
 have e:decide ((l.length:Int)>96)= !decide ((l.length:Int)≤96):=by rw[bX];simp
 rw[e];cases decide ((l.length:Int)≤96)<;>cases (List.range l.length).all (Na l)<;>rfl
def Nw (l:List aN)(d p:Int):Int:=match l.findIdx? (nB d p)with|some i=>(i:Int)|none=> -1
theorem MT (l:List aN)(d p:Int)(h:l.length≤1000000000):jB l d p=some (Nw l d p):=by
 unfold jB Nw;rw[CV (hit:=λi=>some i) (fin:=some (-1)) (nB d p) l (by omega) (λi hi nx=>?hs) (λnx=>?hf)]
 case hs=>
  simp only[jr]
  rw[ah (by omega),aX hi,wrap64 (by omega) (by omega)]
  simp only[ai,ab,aZ,cF,nB];rfl
 case hf=>
  simp only[jr]
  rw[ae (by omega)];rfl
 cases l.findIdx? (nB d p)<;>rfl
theorem PW (l:List aN)(i:Nat)(hi:i<l.length):(Nw l l[i].1 l[i].2.1==(i:Int))=(List.range i).all (λj=> !(nB l[i].1 l[i].2.1 (l.getD j HB))):=by
 have hself:nB l[i].1 l[i].2.1 l[i]=true:=by simp[nB]
 unfold Nw;cases hq:l.findIdx? (nB l[i].1 l[i].2.1)with
 |none=>rw[List.findIdx?_eq_none_iff]at hq;rw[hq l[i] (aL hi)]at hself;cases hself
 |some k=>
  rw[List.findIdx?_eq_some_iff_getElem]at hq;obtain⟨hk,hpk,hlt⟩:=hq;rw[bX,aU];simp only[cw,aW,aR];constructor;intro e j hj;have hjl:j<l.length:=by omega
  rw[bM hjl];have:=hlt j (by omega);simpa using this;intro hall;rcases Nat.lt_trichotomy k i with hki|hki|hki;have:=hall k hki;rw[bM hk,hpk]at this;cases this;omega;have:=hlt i hki;rw[hself]at this;simp at this
theorem BX (l:List aN)(h:l.length≤1000000000):kJ l=some (eE l):=by
 unfold kJ eE;rw[eM (hit:=some false) (fin:=some (decide ((l.length:Int)≤96))) (Na l) l.length (by omega) (λi nx hi=>?hs) (λnx=>?hf)]
 case hs=>
  simp only[km]
  rw[ah (by omega),aX hi,wrap64 (by omega) (by omega)]
  simp only[ai,ab,cC,aZ,MT _ _ _ h,bne,PW l i hi,Na,C5,bM hi]
  cases cx l[i].1 0 7<;>cases cx l[i].2.1 0 1023<;>cases cx l[i].2.2.1 0 63<;>cases (List.range i).all (λj=> !(nB l[i].1 l[i].2.1 (l.getD j HB)))<;>rfl
 case hf=>
  simp only[km]
  rw[ae (by omega)];rfl
 cases decide ((l.length:Int)≤96)<;>cases (List.range l.length).all (Na l)<;>rfl
def MB (n:Int)(l:List Int)(i:Nat):Bool:=cx (l.getD i 0) 0 (n-1)&& !((l.take i).contains (l.getD i 0))
def od (p:eC):Bool:=cx p.1 0 130944&&(cx p.2.1 1 512&&(cx p.2.2.1 0 16&&(List.range p.2.2.2.length).all (MB p.2.2.1 p.2.2.2)))
def yJ (n:Int)(l:List Int):List Bool:=(List.range n.toNat).map λk:Nat=>l.contains (k:Int)
theorem IS (n:Int)(l:List Int):(yJ n l).length=n.toNat:=by simp[yJ]
theorem z0 (n:Int)(l:List Int)(k:Nat)(h:k<(yJ n l).length):(yJ n l)[k]=l.contains (k:Int):=by simp[yJ]
theorem Tj (n:Int)(l:List Int)(k:Nat)(h:k<n.toNat):(yJ n l).set k true=yJ n (l++[(k:Int)]):=by
 apply List.ext_getElem;simp[yJ];intro j h1 h2;rw[List.getElem_set];split;rename_i e;subst e;rw[z0];simp;rename_i e;rw[z0,z0];simp only[List.contains_append];have:([(k:Int)].contains (j:Int))=false:=by simp;omega
 rw[this];simp
theorem Ny {T:(List Bool×Int→Option Bool)→List Bool×Int→Option Bool}(n:Int)(l:List Int)(hl:l.length≤1000000000)
 (hs:∀i (hi:i<l.length)(s:List Bool) nx,T nx (s,(i:Int))=aa (cond (!(cx l[i] 0 (n-1))) (some true) (aa (idx s l[i]) λx=>some x)) λq=>
  cond q (some false) (aa (idx s l[i]) λ_=>aa (idx s l[i]) λ_=>nx (s.set l[i].toNat true,((i+1:Nat):Int)))) (hf:∀s nx,T nx (s,(l.length:Int))=some true):
 aH T fuel (List.replicate n.toNat false,0)=some ((List.range l.length).all (MB n l)):=by
 have e0:(List.replicate n.toNat false,(0:Int))=(yJ n (l.take 0),((0:Nat):Int)):=by congr 1;simp only[yJ,List.take_zero,List.contains_nil,List.map_const',List.length_range]
 rw[e0,CN (hit:=some false) (fin:=some true) (λi=>(yJ n (l.take i),(i:Int))) (MB n l) l.length (by omega) (λi nx hi hp=>?hs) (λ_ nx=>hf _ nx)]
 case hs=>
  rw[hs i hi]
  unfold MB
  rw[bM hi]
  by_cases hin:cx l[i] 0 (n-1)=true
  ·have hb:=hin
   rw[bW]at hb
   obtain⟨k,hk⟩:∃k:Nat,l[i]=(k:Int):=⟨l[i].toNat,by omega⟩
   have hkn:k<(yJ n (l.take i)).length:=by rw[IS];omega
   rw[hin,hk,aX hkn,z0]
   simp only[al,af,ab,a9,c8,ax]
   rw[Tj _ _ _ (by rw[IS]at hkn;exact hkn),←hk,←bh hi]
  ·have hin':cx l[i] 0 (n-1)=false:=by simpa using hin
   rw[hin'];rfl
 cases (List.range l.length).all (MB n l)<;>rfl
theorem Cu (p:eC)(h:p.2.2.2.length≤1000000000):mA p=some (od p):=by
 unfold mA od;simp only[cc,ab,aZ];by_cases hn:cx p.2.2.1 0 16=true
 ·have hb:=hn;rw[bW]at hb;rw[ay (by omega),aJ (by omega),Ny p.2.2.1 p.2.2.2 h (λi hi s nx=>?hs) (λs nx=>?hf)]
  case hs=>
   simp only[rb]
   rw[ah (by omega),aX hi,wrap64 (n:=(i:Int)+1) (by omega) (by omega),wrap64 (n:=p.2.2.1-1) (by omega) (by omega)]
   simp only[ai,ab,cc];rfl
  case hf=>
   simp only[rb]
   rw[ae (by omega)];rfl
  rw[hn];cases cx p.1 0 130944<;>cases cx p.2.1 1 512<;>rfl
 have hn':cx p.2.2.1 0 16=false:=by simpa using hn
 rw[hn'];cases cx p.1 0 130944<;>cases cx p.2.1 1 512<;>rfl
theorem BZ (p:eC)(h:p.2.2.2.length≤1000000000):lY p=some (od p):=by
 unfold lY od;simp only[cC,ab,aZ];by_cases hn:cx p.2.2.1 0 16=true
 ·have hb:=hn;rw[bW]at hb;rw[ay (by omega),aJ (by omega),Ny p.2.2.1 p.2.2.2 h (λi hi s nx=>?hs) (λs nx=>?hf)]
  case hs=>
   simp only[pX]
   rw[ah (by omega),aX hi,wrap64 (n:=(i:Int)+1) (by omega) (by omega),wrap64 (n:=p.2.2.1-1) (by omega) (by omega)]
   simp only[ai,ab,cC];rfl
  case hf=>
   simp only[pX]
   rw[ae (by omega)];rfl
  rw[hn];cases cx p.1 0 130944<;>cases cx p.2.1 1 512<;>rfl
 have hn':cx p.2.2.1 0 16=false:=by simpa using hn
 rw[hn'];cases cx p.1 0 130944<;>cases cx p.2.1 1 512<;>rfl
def gZ (n:Int):Bool:=(n==2)||((n==4)||((n==8)||(n==16)))
theorem xB (n:Int):ny n=some (gZ n):=by simp only[ny,aZ,ab,gZ,cT]
theorem zr (n:Int):nV n=some (gZ n):=xB n
theorem jb {n:Int}:gZ n=true↔n=2∨n=4∨n=8∨n=16:=by simp[gZ]
theorem Ak (x:Int)(k:Nat)(hk:k≤64):aq x%(2^k:Int)=x%(2^k:Int):=by
 obtain⟨c,hc⟩:∃c:Int,(18446744073709551616:Int)=2^k*c:=⟨2^(64-k),by rw[←Int.pow_add,show k+(64-k)=64 by omega];rfl⟩
 have:aq x=x∨∃q:Int,aq x=x+18446744073709551616*q:=by
  right;simp only[aq,eo,IntKind.wrap,IntKind.bits,IntKind.signed];simp;have h1:x=x%18446744073709551616+18446744073709551616*(x/18446744073709551616):=by omega
  split;exact⟨-(x/18446744073709551616)-1,by omega⟩;exact⟨-(x/18446744073709551616),by omega⟩
 rcases this with h|⟨q,h⟩;rw[h];rw[h,hc,Int.mul_assoc,Int.add_mul_emod_self_left]
theorem yM (x:Int)(k:Nat)(hk:k<63):((BitVec.ofInt (IntKind.bits .i64) x&&&BitVec.ofInt (IntKind.bits .i64) (2^k-1)).toNat:Int)=x%2^k:=by
 have h2:(2:Int)^k≤2^62:=by have:(2:Nat)^k≤2^62:=Nat.pow_le_pow_right (by omega) (by omega);exact_mod_cast this
 have h0:(1:Int)≤2^k:=by have:1≤(2:Nat)^k:=Nat.one_le_two_pow;exact_mod_cast this
 have hm:(BitVec.ofInt (IntKind.bits .i64) (2^k-1)).toNat=2^k-1:=by
  show(BitVec.ofInt 64 (2^k-1)).toNat=2^k-1;rw[BitVec.toNat_ofInt,Int.emod_eq_of_lt (by omega) (by omega)];have:((2:Int)^k-1)=((2^k-1:Nat):Int):=by have:1≤(2:Nat)^k:=Nat.one_le_two_pow;push_cast [this];rfl
  rw[this];rfl
 rw[BitVec.toNat_and,hm,Nat.and_two_pow_sub_one_eq_mod];show(((BitVec.ofInt 64 x).toNat%2^k:Nat):Int)=x%2^k;rw[BitVec.toNat_ofInt];have hx:0≤x%18446744073709551616:=by omega
 have e:(((x%18446744073709551616).toNat%2^k:Nat):Int)=(x%18446744073709551616)%2^k:=by push_cast;rw[Int.toNat_of_nonneg hx]
 refine e.trans ?_;exact Int.emod_emod_of_dvd x ⟨2^(64-k),by rw[←Int.pow_add,show k+(64-k)=64 by omega];rfl⟩
theorem IB (x n:Int)(h0:0<n)(h1:n≤4611686018427387904):gQ x n=some (x%n):=by
 unfold gQ;have:=dB x (show n≠0 by omega);have:=cG x h0;have hn:(n.natAbs:Int)=n:=by omega
 rw[ao (by omega),Int.tmod_eq_emod];split;rw[ae (by omega)];simp;rw[ah (by omega),wrap64 (by omega) (by omega)];simp only[ai,hn];congr 1;omega
def qR (r:(Int×Int×Int×Int)):Int:=if gZ r.2.1 then(r.2.2.2-r.2.2.1)%(2*r.2.1) else 0
theorem G2 (r:(Int×Int×Int×Int)):oq r=some (qR r):=by
 unfold oq qR;rw[xB,ab];cases hs:gZ r.2.1 with
 |false=>rfl
 |true=>
  simp only[al,af,bk];congr 1;rcases jb.1 hs with h|h|h|h<;>rw[h];have e:aq (aq (2*2)-1)=2^2-1:=by decide
  rw[e,yM _ 2 (by omega),Ak _ 2 (by omega),wrap64 (by omega) (by omega)];rfl;have e:aq (aq (2*4)-1)=2^3-1:=by decide
  rw[e,yM _ 3 (by omega),Ak _ 3 (by omega),wrap64 (by omega) (by omega)];rfl;have e:aq (aq (2*8)-1)=2^4-1:=by decide
  rw[e,yM _ 4 (by omega),Ak _ 4 (by omega),wrap64 (by omega) (by omega)];rfl;have e:aq (aq (2*16)-1)=2^5-1:=by decide
  rw[e,yM _ 5 (by omega),Ak _ 5 (by omega),wrap64 (by omega) (by omega)];rfl
theorem MZ (r:(Int×Int×Int×Int)):nS r=some (qR r):=by unfold nS qR;rw[zr,ab];cases hs:gZ r.2.1 with|false=>rfl|true=>simp only[al,af,bk];have hb:=jb.1 hs;rw[wrap64 (n:=2*r.2.1) (by omega) (by omega)];have a1:=dB r.2.2.2 (show 2*r.2.1≠0 by omega);have a2:=cG r.2.2.2 (show 0<2*r.2.1 by omega);have a3:=dB r.2.2.1 (show 2*r.2.1≠0 by omega);have a4:=cG r.2.2.1 (show 0<2*r.2.1 by omega);simp only[IB _ (2*r.2.1) (show 0<2*r.2.1 by omega) (by omega),ab];rw[wrap64 (by omega) (by omega),←Int.sub_emod]
def pE (r:(Int×Int×Int×Int)):Bool:=cx r.1 0 130944&&(gZ r.2.1&&(cx r.2.2.1 0 (2*r.2.1-1)&&(cx r.2.2.2 0 (2*r.2.1-1)&&decide (qR r≤r.2.1))))
theorem Aa {n:Int}(h:gZ n=true):aq (aq (2*n)-1)=2*n-1:=by have:=jb.1 h;rw[wrap64 (n:=2*n) (by omega) (by omega),wrap64 (by omega) (by omega)]
theorem zv (r:(Int×Int×Int×Int)):mB r=some (pE r):=by unfold mB pE;simp only[cc,xB,G2,ab,aZ,cF];cases hs:gZ r.2.1 with|false=>rfl|true=>rw[Aa hs]
theorem B1 (r:(Int×Int×Int×Int)):lZ r=some (pE r):=by unfold lZ pE;simp only[cC,zr,MZ,ab,aZ,cF];cases hs:gZ r.2.1 with|false=>rfl|true=>rw[Aa hs]
theorem Bh (p:eC)(h:p.2.2.2.length≤1000000000):kE p=some p:=by unfold kE;rw[aJ (by simp;omega)];rfl
theorem lS (l:List Int)(h:l.length≤1000000000):ft l=some l:=by unfold ft;rw[aJ (by simp;omega)];rfl
theorem yO (p:eC)(h:p.2.2.2.length≤1000000000):iZ p=some p:=by unfold iZ;rw[lS _ h];rfl
def Ru (p:eC)(l:List Int):eC:=(p.1,p.2.1,p.2.2.1,p.2.2.2++l)
def Aw (p:eC)(l:List Int):Bool:=od p&&od (Ru p l)
def Sm (p:eC)(l:List Int):eC×Bool:=bif Aw p l then(Ru p l,true) else(p,false)
theorem VH (p:eC)(l:List Int)(h:p.2.2.2.length+l.length≤1000000000):g4 p l=some (Sm p l):=by unfold g4;rw[Bh p (by omega),ab,aJ (by omega),Cu p (by omega)];rw[Cu (p.1,p.2.1,p.2.2.1,p.2.2.2++l) (by simp;omega)];simp only[ab,aZ,Sm,Aw];show _=some (bif od p&&od (p.1,p.2.1,p.2.2.1,p.2.2.2++l) then _ else _);cases od p<;>cases od (p.1,p.2.1,p.2.2.1,p.2.2.2++l)<;>rfl
theorem UI (p:eC)(l:List Int)(h:p.2.2.2.length+l.length≤1000000000):gW p l=some (Sm p l):=by unfold gW;rw[yO p (by omega),ab,aJ (by omega),BZ p (by omega)];rw[BZ (p.1,p.2.1,p.2.2.1,p.2.2.2++l) (by simp;omega)];simp only[ab,aZ,Sm,Aw];show _=some (bif od p&&od (p.1,p.2.1,p.2.2.1,p.2.2.2++l) then _ else _);cases od p<;>cases od (p.1,p.2.1,p.2.2.1,p.2.2.2++l)<;>rfl
theorem Ut (p:eC)(l:List Int):(Sm p l).2=Aw p l:=by unfold Sm;cases Aw p l<;>rfl
def kx (n:Int)(s:fJ):Bool:=cx s.2.1 1 n&&cx s.1 0 65535
def dS (l:List fJ):List Int:=l.flatMap (·.2.2)
def iC (l:List fJ):Int:=(l.map (·.2.1)).sum
def txB (t:ew):Bool:=pE t.1&&(od t.2.1&&(cx t.2.2.2 0 65535&&(t.2.2.1.all (kx t.1.2.1)&&(Aw t.2.1 (dS t.2.2.1)&&decide (iC t.2.2.1≤t.1.2.1)))))
theorem BD (n:Int):∀l:List fJ,l.all (kx n)=true→0≤iC l
 |[],_=>by simp[iC]
 |x::l,h=>by simp only[bD,aj]at h;have:=BD n l h.2;have hx:=h.1;unfold kx at hx;simp only[aj,bW]at hx;simp only[iC,cq,List.sum_cons]at this⊢;omega
theorem I2 (p:eC)(n:Int)(hn:0≤n∧n≤16)(fin:Int×List Int→Option Bool)(hfin:∀s:Int×List Int,p.2.2.2.length+s.2.length≤1000000000→fin s=some (Aw p s.2&&decide (s.1≤n))):
 ∀(l:List fJ)(sum:Int)(acc:List Int),0≤sum→sum+16*l.length≤100000000000→p.2.2.2.length+(acc.length+(dS l).length)≤1000000000→
 po (λx (s:Int×List Int) k=>cond (!(kx n x)) (some false) (room (s.2.length+x.2.2.length) (k (aq (s.1+x.2.1),s.2++x.2.2)))) fin l (sum,acc)
  =some (l.all (kx n)&&(Aw p (acc++dS l)&&decide (sum+iC l≤n)))
 |[],sum,acc,h0,h1,h2=>by rw[po,hfin _ (by simp[dS]at h2;exact h2)];simp[dS,iC]
 |x::l,sum,acc,h0,h1,h2=>by
  have hb:dS (x::l)=x.2.2++dS l:=by simp[dS]
  rw[hb,ak]at h2;rw[po,bD];cases hx:kx n x with
  |false=>rfl
  |true=>
   have hx':=hx;unfold kx at hx';simp only[aj,bW]at hx';simp only[bj,bP,bQ]at h1;simp only[al,af,a9];rw[aJ (by omega),wrap64 (by omega) (by omega),I2 p n hn fin hfin l _ _ (by omega) (by omega) (by rw[ak];omega)];rw[hb,aG];have e:sum+x.2.1+iC l=sum+iC (x::l):=by simp only[iC,cq,List.sum_cons];omega
   rw[e]
theorem Is (p:eC)(n:Int)(hn:n≤16)(fin:Int×List Int→Option Bool)(hfin:∀s:Int×List Int,p.2.2.2.length+s.2.length≤1000000000→fin s=some (Aw p s.2)):
 ∀(l:List fJ)(left:Int)(acc:List Int),0≤left→left≤n→p.2.2.2.length+(acc.length+(dS l).length)≤1000000000→
 po (λx (s:Int×List Int) k=>cond (decide (x.2.1<1)||(decide (x.2.1>s.1)|| !(cx x.1 0 65535))) (some false) (room (s.2.length+x.2.2.length) (k (aq (s.1-x.2.1),s.2++x.2.2)))) fin l (left,acc)
  =some (l.all (kx n)&&(Aw p (acc++dS l)&&decide (iC l≤left)))
 |[],left,acc,h0,h1,h2=>by rw[po,hfin _ (by simp[dS]at h2;exact h2)];simp[dS,iC,h0]
 |x::l,left,acc,h0,h1,h2=>by
  have hb:dS (x::l)=x.2.2++dS l:=by simp[dS]
  have hc:iC (x::l)=x.2.1+iC l:=by simp only[iC,cq,List.sum_cons]
  rw[hb,ak]at h2;rw[po,bD,hb,hc];by_cases c1:x.2.1<1;have e:kx n x=false:=by unfold kx cx;rw[ae (show¬1≤x.2.1 by omega)];rfl
  rw[e,ah c1];rfl;rw[ae c1];by_cases c2:x.2.1>left;rw[ah c2];simp only[Bool.or_true,cY,Bool.true_or,ai];cases ha:l.all (kx n)with|false=>simp|true=>have:=BD n l ha;rw[ae (show¬x.2.1+iC l≤left by omega)];simp
  rw[ae c2];have e:kx n x=cx x.1 0 65535:=by have:cx x.2.1 1 n=true:=bW.2 ⟨by omega,by omega⟩;unfold kx;rw[this];rfl
  rw[e];cases cx x.1 0 65535 with
  |false=>rfl
  |true=>
   simp only[cY,al,af,a9];rw[aJ (by omega),wrap64 (by omega) (by omega),Is p n hn fin hfin l _ _ (by omega) (by omega) (by rw[ak];omega),aG];have e:decide (iC l≤left-x.2.1)=decide (x.2.1+iC l≤left):=by rw[bX];simp;omega
   rw[e]
theorem ae4 (t:ew)(h1:t.2.2.1.length≤1000000000)(h2:t.2.1.2.2.2.length+(dS t.2.2.1).length≤1000000000):Ae t=some (txB t):=by
 unfold Ae txB;simp only[zv,Cu _ (show t.2.1.2.2.2.length≤1000000000 by omega),cc,ab,aZ];cases hr:pE t.1 with
 |false=>rfl
 |true=>
  have hn:0≤t.1.2.1∧t.1.2.1≤16:=by unfold pE at hr;simp only[aj]at hr;have:=jb.1 hr.2.1;omega
  have hfu:=dI;have key:=rG (R:=Bool) (T:=rk (λ(y9:Int) (y10:List Int) (_:Int)=>aa (g4 t.2.1 y10) λr12=>some (bif r12.2 then decide (y9≤t.1.2.1) else false)) (λ(y14:Bool) (_:Int) (_:List Int) (_:Int)=>some y14) false t) t.2.2.1 (λ(s:Int×List Int) i=>(s.1,s.2,(i:Int))) (λx (s:Int×List Int) k=>cond (!(kx t.1.2.1 x)) (some false) (room (s.2.length+x.2.2.length) (k (aq (s.1+x.2.1),s.2++x.2.2)))) (λs=>aa (g4 t.2.1 s.2) λr12=>some (r12.2&&decide (s.1≤t.1.2.1))) (λi hi s nx=>by simp only[rk];rw[ah (by omega),aX hi,wrap64 (n:=(i:Int)+1) (by omega) (by omega)];simp only[ai,ab,cc,aZ,kx];cases cx t.2.2.1[i].2.1 1 t.1.2.1<;>cases cx t.2.2.1[i].1 0 65535<;>rfl) (λs nx=>by simp only[rk];rw[ae (by omega)];simp only[af,aZ,ab,cF]) fuel 0 (0,([]:List Int)) (by omega) (by omega);rw[cJ,I2 t.2.1 t.1.2.1 hn _ (λs hs=>by rw[VH _ _ hs,ab,Ut]) _ _ _ (by omega) (by omega) (by simpa using h2)]at key;cases od t.2.1 with|false=>rfl|true=>cases cx t.2.2.2 0 65535 with|false=>rfl|true=>refine key.trans ?_;simp
theorem aaY (t:ew)(h1:t.2.2.1.length≤1000000000)(h2:t.2.1.2.2.2.length+(dS t.2.2.1).length≤1000000000):zT t=some (txB t):=by
 unfold zT txB;simp only[B1,BZ _ (show t.2.1.2.2.2.length≤1000000000 by omega),cC,ab,aZ];cases hr:pE t.1 with
 |false=>rfl
 |true=>
  have hn:0≤t.1.2.1∧t.1.2.1≤16:=by unfold pE at hr;simp only[aj]at hr;have:=jb.1 hr.2.1;omega
  have hfu:=dI;have key:=rG (R:=Bool) (T:=p6 (λ(_:Int) (y9:List Int) (_:Int)=>aa (gW t.2.1 y9) λr11=>some r11.2) (λ(y12:Bool) (_:Int) (_:List Int) (_:Int)=>some y12) false t.2.2.1 ((List.length t.2.2.1:Int)) t) t.2.2.1 (λ(s:Int×List Int) i=>(s.1,s.2,(i:Int))) (λx (s:Int×List Int) k=>cond (decide (x.2.1<1)||(decide (x.2.1>s.1)|| !(cx x.1 0 65535))) (some false) (room (s.2.length+x.2.2.length) (k (aq (s.1-x.2.1),s.2++x.2.2)))) (λs=>aa (gW t.2.1 s.2) λr12=>some r12.2) (λi hi s nx=>by simp only[p6];rw[ah (by omega),aX hi,wrap64 (n:=(i:Int)+1) (by omega) (by omega)];simp only[ai,ab,cC,aZ,cT];rfl) (λs nx=>by simp only[p6];rw[ae (by omega)];rfl) fuel 0 (t.1.2.1,([]:List Int)) (by omega) (by omega);rw[cJ,Is t.2.1 t.1.2.1 (by omega) _ (λs hs=>by rw[UI _ _ hs,ab,Ut]) _ _ _ (by omega) (by omega) (by simpa using h2)]at key;cases od t.2.1 with|false=>rfl|true=>cases cx t.2.2.2 0 65535 with|false=>rfl|true=>refine key.trans ?_;simp
def Bn (s:cI):Bool:=cx s.2.1 0 65535&&(cx s.2.2.1 0 65535&&(!decide ((List.length s.2.2.2.2.2.2.2:Int)>320)&&
 (bif s.1==17 then(s.2.2.2.1==0)&&((s.2.2.2.2.1==0)&&((s.2.2.2.2.2.1==0)&&(s.2.2.2.2.2.2.1==0)))
  else(s.1==6)&&(cx s.2.2.2.1 0 4294967295&&(cx s.2.2.2.2.1 0 4294967295&&(cx s.2.2.2.2.2.1 0 31&&cx s.2.2.2.2.2.2.1 0 65535))))))
theorem RJ (s:cI):mC s=some (Bn s):=by simp only[mC,cc,ab,aZ,cF,cT,cN,Bool.not_or,c8,Bool.and_assoc,Bn]
theorem Rf (s:cI):l4 s=some (Bn s):=by simp only[l4,cC,ab,aZ,cF,cT,cN,Bool.not_or,c8,Bool.and_assoc,Bn];by_cases h:s.1=17;rw[h];rfl;rw[show(s.1==17)=false from by simpa using h];cases s.1==6<;>rfl
def yU (f:Int):Bool:=(f==16)||(f==17)||(f==24)||(f==25)
theorem F3 (f:Int)(h:cx f 0 31=true):(aq (BitVec.toNat (BitVec.ofInt (IntKind.bits .i64) f&&&~~~ BitVec.ofInt (IntKind.bits .i64) 9))==16)=yU f:=by
 have key:∀k:Fin 32,(aq (BitVec.toNat (BitVec.ofInt (IntKind.bits .i64) (k.val:Int)&&&~~~ BitVec.ofInt (IntKind.bits .i64) 9))==16)=yU (k.val:Int):=by decide
 rw[bW]at h;have:=key ⟨f.toNat,by omega⟩;rwa[show((f.toNat:Nat):Int)=f by omega]at this
theorem F2 (f:Int)(h:cx f 0 31=true):l6 f=some (yU f):=by
 have key:∀k:Fin 32,((aq (BitVec.toNat (BitVec.ofInt (IntKind.bits .i64) (k.val:Int)&&&BitVec.ofInt (IntKind.bits .i64) 16)) !=0)&&(aq (BitVec.toNat (BitVec.ofInt (IntKind.bits .i64) (k.val:Int)&&&~~~ BitVec.ofInt (IntKind.bits .i64) 25))==0))=yU (k.val:Int):=by decide
 rw[bW]at h;have:=key ⟨f.toNat,by omega⟩;rw[show((f.toNat:Nat):Int)=f by omega]at this;simp only[l6,aZ,ab,cF];rw[this]
theorem Dl {s:cI}(h:Bn s=true)(h6:(s.1==6)=true):cx s.2.2.2.2.2.1 0 31=true:=by
 have:s.1=6:=by simpa using h6
 unfold Bn at h;rw[this]at h;simp only[aj]at h;have h:=h.2.2.2;simp at h;exact h.2.2.1
def yp (p:aO):Bool:=cx p.1 0 281474976710655&&(cx p.2.1 0 281474976710655&&(cx p.2.2.1 (-1) 4095&&(cx p.2.2.2.1 0 255&&(cx p.2.2.2.2.2.1 0 255&&(cx p.2.2.2.2.1 0 65535&&(cx p.2.2.2.2.2.2.1 0 4294967295&&(cx p.2.2.2.2.2.2.2.1 0 4294967295&&Bn p.2.2.2.2.2.2.2.2)))))))
def dW (p:aO):Bool:=yp p&&(decide ((List.length p.2.2.2.2.2.2.2.2.2.2.2.2.2.2.2:Int)≤128)||(p.2.2.2.2.2.2.2.2.1==6)&&yU p.2.2.2.2.2.2.2.2.2.2.2.2.2.1)
theorem BR {p:aO}(h:yp p=true):Bn p.2.2.2.2.2.2.2.2=true:=by unfold yp at h;simp only[aj]at h;exact h.2.2.2.2.2.2.2.2
theorem nh (p:aO):eX p=some (dW p):=by unfold eX dW;simp only[cc,RJ,ab,aZ,cF,cT,cN,Bool.not_or,c8];rw[show(cx p.1 0 281474976710655&&(cx p.2.1 0 281474976710655&&(cx p.2.2.1 (-1) 4095&&(cx p.2.2.2.1 0 255&&(cx p.2.2.2.2.2.1 0 255&&(cx p.2.2.2.2.1 0 65535&&(cx p.2.2.2.2.2.2.1 0 4294967295&&(cx p.2.2.2.2.2.2.2.1 0 4294967295&&Bn p.2.2.2.2.2.2.2.2))))))))=yp p from rfl];cases hh:yp p with|false=>rfl|true=>cases h6:p.2.2.2.2.2.2.2.2.1==6 with|false=>simp|true=>rw[F3 _ (Dl (BR hh) h6)];simp[Bool.or_comm]
theorem mH (p:aO):eT p=some (dW p):=by
 unfold eT dW;simp only[cC,Rf,ab];have e:∀X:Option Bool,(cond (cx p.1 0 281474976710655) (cond (cx p.2.1 0 281474976710655) (cond (cx p.2.2.1 (-1) 4095) (cond (cx p.2.2.2.1 0 255) (cond (cx p.2.2.2.2.2.1 0 255) (cond (cx p.2.2.2.2.1 0 65535) (cond (cx p.2.2.2.2.2.2.1 0 4294967295) (cond (cx p.2.2.2.2.2.2.2.1 0 4294967295) (cond (Bn p.2.2.2.2.2.2.2.2) X (some false)) (some false)) (some false)) (some false)) (some false)) (some false)) (some false)) (some false)) (some false))=cond (yp p) X (some false):=by
  intro X;unfold yp;cases cx p.1 0 281474976710655 with|false=>rfl|true=>?_
  cases cx p.2.1 0 281474976710655 with|false=>rfl|true=>?_
  cases cx p.2.2.1 (-1) 4095 with|false=>rfl|true=>?_
  cases cx p.2.2.2.1 0 255 with|false=>rfl|true=>?_
  cases cx p.2.2.2.2.2.1 0 255 with|false=>rfl|true=>?_
  cases cx p.2.2.2.2.1 0 65535 with|false=>rfl|true=>?_
  cases cx p.2.2.2.2.2.2.1 0 4294967295 with|false=>rfl|true=>?_
  cases cx p.2.2.2.2.2.2.2.1 0 4294967295<;>rfl
 rw[e];cases hh:yp p with|false=>rfl|true=>cases h6:p.2.2.2.2.2.2.2.2.1==6 with|false=>simp[aZ]|true=>rw[F2 _ (Dl (BR hh) h6)];simp only[ai,ab,aZ,cT,a9]
def eP (q:(Int×Int×Int)):Bool:=cx q.1 0 130944&&(gZ q.2.1&&cx q.2.2 0 (aq ((aq (2*q.2.1))-1)))
theorem I1 (q:(Int×Int×Int)):np q=some (eP q):=by simp only[np,cc,xB,ab,aZ,cF,eP]
theorem Iq (q:(Int×Int×Int)):mN q=some (eP q):=by simp only[mN,cC,zr,ab,aZ,cF,eP]
def ae5:gD:=((0,0,0,0,0,0,0,0,0,0,0,0,0,0,0,([]:Bytes)),0,0)
def VV (p:gD):Bool:=(p.1.1==0)&&((p.1.2.1==0)&&((p.1.2.2.1==0)&&((p.1.2.2.2.1==0)&&((p.1.2.2.2.2.1==0)&&((p.1.2.2.2.2.2.1==0)&&((p.1.2.2.2.2.2.2.1==0)&&((p.1.2.2.2.2.2.2.2.1==0)&&((p.1.2.2.2.2.2.2.2.2.1==0)&&((p.1.2.2.2.2.2.2.2.2.2.1==0)&&((p.1.2.2.2.2.2.2.2.2.2.2.1==0)&&((p.1.2.2.2.2.2.2.2.2.2.2.2.1==0)&&((p.1.2.2.2.2.2.2.2.2.2.2.2.2.1==0)&&((p.1.2.2.2.2.2.2.2.2.2.2.2.2.2.1==0)&&((p.1.2.2.2.2.2.2.2.2.2.2.2.2.2.2.1==0)&&((p.1.2.2.2.2.2.2.2.2.2.2.2.2.2.2.2==([]:Bytes))&&((p.2.1==0)&&((p.2.2==0)&&true)))))))))))))))))
def HJ (r:bn):Bool:=(pE r.1&&(eP r.2.1&&(eP r.2.2.1&&((r.2.1.1==r.2.2.1.1)&&((r.2.1.2.1==r.2.2.1.2.1)&&cx r.2.2.2.2.2 0 1000000000000)))))&&
 (bif r.2.2.2.2.1 then dW r.2.2.2.1.1&&(cx r.2.2.2.1.2.1 0 320&&cx r.2.2.2.1.2.2 1 320) else VV r.2.2.2.1)
theorem Qa (r:bn):uL r=some (HJ r):=by unfold uL HJ VV;simp only[zv,I1,cc,nh,ab,aZ,cF,cT,cN,Bool.not_or,c8,bne];cases r.2.2.2.2.1<;>rfl
theorem Pn (r:bn):uI r=some (HJ r):=by unfold uI HJ VV;simp only[B1,Iq,cC,mH,ab,aZ,cF,cT,cN,Bool.not_or,c8,bne];cases r.2.2.2.2.1<;>rfl
def sU (v:Vector):Bool:=(jg v).getD false
theorem Bq (v:Vector):jg v=some (sU v):=by
 have:∃b,jg v=some b:=by simp only[jg,pF,cc,ab,aZ];exact⟨_,rfl⟩
 obtain⟨b,hb⟩:=this;rw[sU,hb];rfl
theorem Gk (v:Vector):sn v=some (sU v):=Bq v
theorem Dh {α:Type}(l:List α)(p:α→Bool):(List.range l.length).all (λi=>l[i]?.all p)=l.all p:=by rw[bX,aU,aU];constructor;intro h x hx;obtain⟨i,hi,rfl⟩:=List.getElem_of_mem hx;have:=h i (cw.2 hi);rwa[List.getElem?_eq_getElem hi]at this;intro h i hi;rw[List.getElem?_eq_getElem (cw.1 hi)];exact h _ (aL _)
theorem Qy {α:Type}(l:List α)(p q:α→Bool):l.all (λx=>p x&&q x)=(l.all p&&l.all q):=by induction l with|nil=>rfl|cons x l ih=>simp only[bD,ih];cases p x<;>cases q x<;>cases l.all p<;>rfl
def gF (h:Host):List Int:=[h.2.2.2.2.2.2.2.2.2.2.2.2.2.2.1,h.2.2.2.2.2.2.2.2.2.2.2.2.2.2.2.1,h.2.2.2.2.2.2.2.2.2.2.2.2.2.2.2.2.1,h.2.2.2.2.2.2.2.2.2.2.2.2.2.2.2.2.2.1,h.2.2.2.2.2.2.2.2.2.2.2.2.2.2.2.2.2.2]
def yH (h:Host):Bool:=cx (h.2.2.2.1.length:Int) 1 2&&(((h.2.2.2.2.1.length:Int)==(h.2.2.2.1.length:Int))&&(((h.2.2.2.2.2.1.length:Int)==(h.2.2.2.1.length:Int))&&((h.2.2.2.2.2.2.1.length:Int)==(h.2.2.2.1.length:Int))))
def NK (h:Host):Bool:=h.2.2.2.1.all HJ&&(h.2.2.2.2.1.all od&&h.2.2.2.2.2.1.all sU)
def tO (h:Host):Bool:=eU h.1&&(eE h.2.1&&(txB h.2.2.1&&(iE h.2.2.2.2.2.2.2.1&&(yH h&&(fF h.2.2.2.2.2.2.2.2.1 (h.2.2.2.1.length:Int)&&(NK h&&(gF h).all (λx=>cx x 0 1000000000000)))))))
structure Jl (h:Host):Prop where
 a1:h.1.length≤1000000000
 a2:h.2.1.length≤1000000000
 t1:h.2.2.1.2.2.1.length≤1000000000
 t2:h.2.2.1.2.1.2.2.2.length+(dS h.2.2.1.2.2.1).length≤1000000000
 f1:h.2.2.2.2.2.2.2.1.2.2.length≤1000000000
 s1:h.2.2.2.2.2.2.2.2.1.1.length≤1000000000
 s2:h.2.2.2.2.2.2.2.2.1.2.1.length≤1000000000
 s3:h.2.2.2.2.2.2.2.2.1.2.2.2.length≤1000000000
 p1:∀p∈h.2.2.2.2.1,p.2.2.2.length≤1000000000
theorem xV {h:Host}(l:yH h=true):h.2.2.2.1.length≤2∧h.2.2.2.2.1.length=h.2.2.2.1.length∧h.2.2.2.2.2.1.length=h.2.2.2.1.length∧h.2.2.2.2.2.2.1.length=h.2.2.2.1.length:=by unfold yH at l;simp only[aj,bW,aW]at l;omega
theorem IL {R:Type}{T:(Int→Option R)→Int→Option R}{fin hit:Option R}{h:Host}(l:yH h=true)(hs:∀i (hi:i<h.2.2.2.1.length) nx,T nx (i:Int)=cond (!(HJ h.2.2.2.1[i]&&(od (h.2.2.2.2.1[i]'((xV l).2.1▸hi))&&sU (h.2.2.2.2.2.1[i]'((xV l).2.2.1▸hi))))) hit (nx ((i+1:Nat):Int)))(hf:∀nx,T nx (h.2.2.2.1.length:Int)=fin):aH T fuel 0=cond (NK h) fin hit:=by
 have hl:=xV l;rw[eM (fin:=fin) (hit:=hit) (λi=>h.2.2.2.1[i]?.all HJ&&(h.2.2.2.2.1[i]?.all od&&h.2.2.2.2.2.1[i]?.all sU)) h.2.2.2.1.length (by omega) ?hs hf]
 case hs=>
  intro i nx hi
  rw[hs i hi,List.getElem?_eq_getElem hi,List.getElem?_eq_getElem (hl.2.1▸hi),List.getElem?_eq_getElem (hl.2.2.1▸hi)]
  rfl
 rw[Qy,Qy,Dh];have e1:=Dh h.2.2.2.2.1 od;have e2:=Dh h.2.2.2.2.2.1 sU;rw[hl.2.1]at e1;rw[hl.2.2.1]at e2;rw[e1,e2];rfl
theorem Dw {R:Type}{T:(Int→Option R)→Int→Option R}{fin hit:Option R}(h:Host)(hs:∀i (hi:i<(gF h).length) nx,T nx (i:Int)=cond (!(cx (gF h)[i] 0 1000000000000)) hit (nx ((i+1:Nat):Int)))(hf:∀nx,T nx ((gF h).length:Int)=fin):aH T fuel 0=cond ((gF h).all (λx=>cx x 0 1000000000000)) fin hit:=pk (λx=>cx x 0 1000000000000) (gF h) (by simp[gF]) hs hf
theorem NW (h:Host)(z:Jl h):tn h=some (tO h):=by
 unfold tn tO;simp only[yd _ z.a1,Ct _ z.a2,ae4 _ z.t1 z.t2,yb _ z.f1,Cx _ _ z.s1 z.s2 z.s3,cc,ab,aZ];cases eU h.1 with|false=>rfl|true=>?_
 cases eE h.2.1 with|false=>rfl|true=>?_
 cases txB h.2.2.1 with|false=>rfl|true=>?_
 cases iE h.2.2.2.2.2.2.2.1 with|false=>rfl|true=>?_
 simp only[al,af,cT,bne];rw[show(!cx (h.2.2.2.1.length:Int) 1 2||(!((h.2.2.2.2.1.length:Int)==(h.2.2.2.1.length:Int))||(!((h.2.2.2.2.2.1.length:Int)==(h.2.2.2.1.length:Int))||(!((h.2.2.2.2.2.2.1.length:Int)==(h.2.2.2.1.length:Int))|| !fF h.2.2.2.2.2.2.2.2.1 (h.2.2.2.1.length:Int)))))= !(yH h&&fF h.2.2.2.2.2.2.2.2.1 (h.2.2.2.1.length:Int)) by unfold yH;simp only[fG,Bool.or_assoc]];cases hl:yH h with|false=>rfl|true=>?_
 cases fF h.2.2.2.2.2.2.2.2.1 (h.2.2.2.1.length:Int)with|false=>rfl|true=>?_
 have hL:=xV hl;simp only[Bool.and_true,al,af,a9];rw[IL (h:=h) (hit:=some false) (fin:=some ((gF h).all (λx=>cx x 0 1000000000000))) hl ?hs ?hf]
 case hs=>
  intro i hi nx
  simp only[qX]
  rw[ah (by omega),aX hi,aX (hL.2.1▸hi),aX (hL.2.2.1▸hi),wrap64 (n:=(i:Int)+1) (by omega) (by omega)]
  simp only[ai,ab,Qa,Bq,Cu _ (z.p1 _ (aL _)),aZ,cT,fG]
  rfl
 case hf=>
  intro nx
  simp only[qX]
  rw[ae (by omega)]
  simp only[af]
  refine(Dw (fin:=some true) (hit:=some false) h ?_ ?_).trans ?_
  ·intro i hi nx
   simp only[oN]
   have hi':i<5:=hi
   change (bif decide ((i:Int)<5) then aa (idx (gF h) (i:Int)) _ else _)=_
   rw[ah (by omega),aX hi,wrap64 (n:=(i:Int)+1) (by omega) (by omega),ab,cc]
   rfl
  ·intro nx
   simp only[oN]
   rw[ae (by simp[gF])];rfl
  ·cases (gF h).all (λx=>cx x 0 1000000000000)<;>rfl
 cases NK h<;>rfl
theorem MS (h:Host)(z:Jl h):sX h=some (tO h):=by
 unfold sX tO;simp only[Be _ z.a1,BX _ z.a2,aaY _ z.t1 z.t2,xv _ z.f1,B3 _ _ z.s1 z.s2 z.s3,cC,ab,aZ];cases eU h.1 with|false=>rfl|true=>?_
 cases eE h.2.1 with|false=>rfl|true=>?_
 cases txB h.2.2.1 with|false=>rfl|true=>?_
 cases iE h.2.2.2.2.2.2.2.1 with|false=>rfl|true=>?_
 simp only[al,af,cT,bne];rw[show(!cx (h.2.2.2.1.length:Int) 1 2||(!((h.2.2.2.2.1.length:Int)==(h.2.2.2.1.length:Int))||(!((h.2.2.2.2.2.1.length:Int)==(h.2.2.2.1.length:Int))|| !((h.2.2.2.2.2.2.1.length:Int)==(h.2.2.2.1.length:Int)))))= !(yH h) by unfold yH;simp only[fG]];cases hl:yH h with|false=>rfl|true=>?_
 have hL:=xV hl;simp only[al,af,a9];rw[IL (h:=h) (hit:=some false) (fin:=some ((gF h).all (λx=>cx x 0 1000000000000)&&fF h.2.2.2.2.2.2.2.2.1 (h.2.2.2.1.length:Int))) hl ?hs ?hf]
 case hs=>
  intro i hi nx
  simp only[pT]
  rw[ah (by omega),aX hi,aX (hL.2.1▸hi),aX (hL.2.2.1▸hi),wrap64 (n:=(i:Int)+1) (by omega) (by omega)]
  simp only[ai,ab,Pn,Gk,BZ _ (z.p1 _ (aL _)),aZ,cT,fG]
  rfl
 case hf=>
  intro nx
  simp only[pT]
  rw[ae (by omega)]
  simp only[af]
  refine(Dw (fin:=some (fF h.2.2.2.2.2.2.2.2.1 (h.2.2.2.1.length:Int))) (hit:=some false) h ?_ ?_).trans ?_
  ·intro i hi nx
   simp only[oB]
   have hi':i<5:=hi
   change (bif decide ((i:Int)<5) then aa (idx (gF h) (i:Int)) _ else _)=_
   rw[ah (by omega),aX hi,wrap64 (n:=(i:Int)+1) (by omega) (by omega),ab,cC]
   rfl
  ·intro nx
   simp only[oB]
   rw[ae (by simp[gF])];rfl
  ·cases (gF h).all (λx=>cx x 0 1000000000000)<;>rfl
 cases NK h<;>cases fF h.2.2.2.2.2.2.2.2.1 (h.2.2.2.1.length:Int)<;>cases (gF h).all (λx=>cx x 0 1000000000000)<;>rfl
theorem fE {n:Nat}(h:n<9223372036854775808):aq (n:Int)=(n:Int):=wrap64 (by omega) (by omega)
theorem CJ {n:Nat}(h:n<4294967296):IntKind.wrap .u32 (n:Int)=(n:Int):=by simp only[aq,eo,IntKind.wrap,IntKind.bits,IntKind.signed];simp;omega
theorem iy (b:UInt8):b.toNat<256:=b.toNat_lt
def db (v:Int):Bytes:=(bL v).getD []
theorem ky (v:Int):bL v=some (db v):=by
 unfold db;have:∃x,bL v=some x:=by simp only[bL,cc,ab];cases cx v 0 65535<;>exact⟨_,rfl⟩
 obtain⟨x,hx⟩:=this;rw[hx];rfl
theorem pa (v:Int):bZ v=some (db v):=ky v
theorem Qv (v:Int):(db v).length=bif cx v 0 65535 then 2 else 0:=by have h:=ky v;simp only[bL,cc,ab]at h;cases hb:cx v 0 65535<;>rw[hb]at h<;>(rw[←cL h];rfl)
theorem br (v:Int):(db v).length≤2:=by rw[Qv];cases cx v 0 65535<;>simp
def eB (v:Int):Bytes:=(cX v).getD []
theorem je (v:Int):cX v=some (eB v):=by
 unfold eB;have:∃x,cX v=some x:=by simp only[cX,cc,ab];cases cx v 0 4294967295<;>exact⟨_,rfl⟩
 obtain⟨x,hx⟩:=this;rw[hx];rfl
theorem pb (v:Int):dH v=some (eB v):=je v
theorem Qw (v:Int):(eB v).length=bif cx v 0 4294967295 then 4 else 0:=by have h:=je v;simp only[cX,cc,ab]at h;cases hb:cx v 0 4294967295<;>rw[hb]at h<;>(rw[←cL h];rfl)
theorem cA (v:Int):(eB v).length≤4:=by rw[Qw];cases cx v 0 4294967295<;>simp
def bV (s:Bytes)(i:Nat):Nat:=(s.getD i 0).toNat
theorem dc (s:Bytes)(i:Nat):bV s i<256:=iy _
theorem kG {s:Bytes}{i:Nat}(h:i<s.length):∃x,idx s (i:Int)=some x∧x.toNat=bV s i:=⟨s[i],aX h,by rw[bV,bM h]⟩
def dE (s:Bytes)(a n:Int):Bool:=decide (0≤a∧a+n≤(s.length:Int))
theorem zx (s:Bytes)(a n:Int)(h:s.length≤1000000000)(hn:0≤n):jX s a n=some (dE s a n):=by unfold jX dE;by_cases h0:0≤a;by_cases h1:a≤(s.length:Int);rw[ah (show a≥0 from h0),ah h1,wrap64 (by omega) (by omega)];simp only[ai,ab];congr 1;rw[decide_eq_decide];omega;rw[ah (show a≥0 from h0),ae h1,ae (show¬(0≤a∧a+n≤(s.length:Int)) by omega)];rfl;rw[ae (show¬a≥0 from h0),ae (show¬(0≤a∧a+n≤(s.length:Int)) by omega)];rfl
def cB (s:Bytes)(a:Int):Int:=bif dE s a 2 then((bV s a.toNat*256+bV s (a.toNat+1):Nat):Int) else-1
def dZ (s:Bytes)(a:Int):Int:=bif dE s a 4 then(((bV s a.toNat*256+bV s (a.toNat+1))*65536+(bV s (a.toNat+2)*256+bV s (a.toNat+3)):Nat):Int) else-1
theorem rM (s:Bytes)(a:Int)(h:s.length≤1000000000):ef s a=some (cB s a):=by unfold ef cB;rw[zx s a 2 h (by omega),ab];cases hw:dE s a 2 with|false=>rfl|true=>simp only[dE,aK]at hw;obtain⟨n,rfl⟩:=aM hw.1;obtain⟨x,hx,ex⟩:=kG (s:=s) (i:=n) (by omega);obtain⟨y,hy,ey⟩:=kG (s:=s) (i:=n+1) (by omega);have hxl:=dc s n;have hyl:=dc s (n+1);rw[wrap64 (n:=(n:Int)+1) (by omega) (by omega),hx,show(n:Int)+1=((n+1:Nat):Int) by omega,hy];simp only[al,af,ab,ax,ai];rw[ao (by omega),ex,ey,fE (by omega),fE (by omega)];have e8:min (Int.toNat 8) (IntKind.bits .i64)=8:=rfl;rw[e8,wrap64 (n:=((bV s n:Nat):Int)*2^8) (by omega) (by omega),wrap64 (by omega) (by omega)];congr 1;all_goals omega
theorem uK (s:Bytes)(a:Int)(h:s.length≤1000000000):fR s a=some (dZ s a):=by
 unfold fR dZ;rw[zx s a 4 h (by omega),ab];cases hw:dE s a 4 with
 |false=>rfl
 |true=>
  simp only[dE,aK]at hw;obtain⟨n,rfl⟩:=aM hw.1;have w1:dE s (n:Int) 2=true:=by simp only[dE,aK];omega
  have w2:dE s ((n:Int)+2) 2=true:=by simp only[dE,aK];omega
  have b0:=dc s n;have b1:=dc s (n+1);have b2:=dc s (n+2);have b3:=dc s (n+3);rw[wrap64 (n:=(n:Int)+2) (by omega) (by omega),rM s _ h,rM s _ h];simp only[al,af,ab,ai,cB,w1,w2,ax];rw[ao (by omega),show((n:Int)+2).toNat=n+2 by omega,show n+2+1=n+3 by omega];have e8:min (Int.toNat 16) (IntKind.bits .i64)=16:=rfl;rw[e8,wrap64 (n:=((bV s n*256+bV s (n+1):Nat):Int)*2^16) (by omega) (by omega),wrap64 (by omega) (by omega)];congr 1;all_goals omega
theorem au0 (a b:Nat)(ha:a<9223372036854775808)(hb:b<9223372036854775808):BitVec.toNat (BitVec.ofInt (IntKind.bits .i64) (a:Int)|||BitVec.ofInt (IntKind.bits .i64) (b:Int))=a|||b:=by show(BitVec.ofInt 64 (a:Int)|||BitVec.ofInt 64 (b:Int)).toNat=_;rw[cy,cy,BitVec.toNat_or,cE,cE,cM (by omega),cM (by omega)]
theorem Zy (a b:Nat)(ha:a<9223372036854775808)(hb:b<9223372036854775808):BitVec.toNat (BitVec.ofInt (IntKind.bits .i64) (a:Int)&&&BitVec.ofInt (IntKind.bits .i64) (b:Int))=a&&&b:=by show(BitVec.ofInt 64 (a:Int)&&&BitVec.ofInt 64 (b:Int)).toNat=_;rw[cy,cy,BitVec.toNat_and,cE,cE,cM (by omega),cM (by omega)]
theorem RY (a b:Nat)(ha:a<9223372036854775808)(hb:b<9223372036854775808):BitVec.toNat (BitVec.ofInt (IntKind.bits .i64) (a:Int)^^^BitVec.ofInt (IntKind.bits .i64) (b:Int))=a^^^b:=by show(BitVec.ofInt 64 (a:Int)^^^BitVec.ofInt 64 (b:Int)).toNat=_;rw[cy,cy,BitVec.toNat_xor,cE,cE,cM (by omega),cM (by omega)]
theorem agD (a b:Nat)(ha:a<4294967296)(hb:b<4294967296):BitVec.toNat (BitVec.ofInt (IntKind.bits .u32) (a:Int)&&&BitVec.ofInt (IntKind.bits .u32) (b:Int))=a&&&b:=by show(BitVec.ofInt 32 (a:Int)&&&BitVec.ofInt 32 (b:Int)).toNat=_;rw[cy,cy,BitVec.toNat_and,cE,cE,cM (by omega),cM (by omega)]
theorem aaq (a b:Nat)(ha:a<4294967296)(hb:b<4294967296):BitVec.toNat (BitVec.ofInt (IntKind.bits .u32) (a:Int)^^^BitVec.ofInt (IntKind.bits .u32) (b:Int))=a^^^b:=by show(BitVec.ofInt 32 (a:Int)^^^BitVec.ofInt 32 (b:Int)).toNat=_;rw[cy,cy,BitVec.toNat_xor,cE,cE,cM (by omega),cM (by omega)]
theorem Bk (x k y:Nat)(hy:y<2^k)(h:2^k*x+y<9223372036854775808):aq (BitVec.toNat (BitVec.ofInt (IntKind.bits .i64) ((2^k*x:Nat):Int)|||BitVec.ofInt (IntKind.bits .i64) (y:Int)):Int)=((2^k*x+y:Nat):Int):=by rw[au0 _ _ (by omega) (by omega),←Nat.two_pow_add_eq_or_of_lt hy];exact fE h
theorem DT (s:Bytes)(a n:Int):(cond (decide (a<0)) (some true) (some (decide (a>(s.length:Int)-n))))=some (!dE s a n):=by cases hw:dE s a n with|true=>simp only[dE,aK]at hw;rw[ae (show¬a<0 by omega),ae (show¬a>(s.length:Int)-n by omega)];rfl|false=>simp only[dE,cV]at hw;by_cases h0:a<0;rw[ah h0];rfl;rw[ae h0,ah (show a>(s.length:Int)-n by omega)];rfl
theorem zQ (s:Bytes)(a:Int)(h:s.length≤1000000000):eJ s a=some (cB s a):=by unfold eJ cB;rw[wrap64 (n:=(s.length:Int)-2) (by omega) (by omega)];rw[DT,ab];cases hw:dE s a 2 with|false=>rfl|true=>simp only[dE,aK]at hw;obtain⟨n,rfl⟩:=aM hw.1;obtain⟨x,hx,ex⟩:=kG (s:=s) (i:=n) (by omega);obtain⟨y,hy,ey⟩:=kG (s:=s) (i:=n+1) (by omega);have hxl:=dc s n;have hyl:=dc s (n+1);rw[wrap64 (n:=(n:Int)+1) (by omega) (by omega),hx,show(n:Int)+1=((n+1:Nat):Int) by omega,hy];simp only[al,af,ai,ab,ax];rw[ao (by omega),ex,ey,fE (n:=bV s n) (by omega),fE (n:=bV s (n+1)) (by omega)];have e8:min (Int.toNat 8) (IntKind.bits .i64)=8:=rfl;rw[e8,show((bV s n:Nat):Int)*2^8=((2^8*bV s n:Nat):Int) by omega,fE (n:=2^8*bV s n) (by omega),Bk (bV s n) 8 (bV s (n+1)) (by omega) (by omega)];congr 1;all_goals omega
theorem wS (s:Bytes)(a:Int)(h:s.length≤1000000000):gv s a=some (dZ s a):=by
 unfold gv dZ;rw[wrap64 (n:=(s.length:Int)-4) (by omega) (by omega)];rw[DT,ab];cases hw:dE s a 4 with
 |false=>rfl
 |true=>
  simp only[dE,aK]at hw;obtain⟨n,rfl⟩:=aM hw.1;obtain⟨x0,h0,e0⟩:=kG (s:=s) (i:=n) (by omega);obtain⟨x1,h1,e1⟩:=kG (s:=s) (i:=n+1) (by omega);obtain⟨x2,h2,e2⟩:=kG (s:=s) (i:=n+2) (by omega);obtain⟨x3,h3,e3⟩:=kG (s:=s) (i:=n+3) (by omega);have b0:=dc s n;have b1:=dc s (n+1);have b2:=dc s (n+2);have b3:=dc s (n+3)
  rw[wrap64 (n:=(n:Int)+1) (by omega) (by omega),wrap64 (n:=(n:Int)+2) (by omega) (by omega),wrap64 (n:=(n:Int)+3) (by omega) (by omega),h0,show(n:Int)+1=((n+1:Nat):Int) by omega,h1,
   show(n:Int)+2=((n+2:Nat):Int) by omega,h2,show(n:Int)+3=((n+3:Nat):Int) by omega,h3]
  simp only[al,af,ai,ab,ax];rw[ao (by omega),ao (by omega),ao (by omega),e0,e1,e2,e3];generalize bV s n=p0 at*;generalize bV s (n+1)=p1 at*;generalize bV s (n+2)=p2 at*;generalize bV s (n+3)=p3 at*;have f24:min (Int.toNat 24) (IntKind.bits .i64)=24:=rfl;have f16:min (Int.toNat 16) (IntKind.bits .i64)=16:=rfl;have f8:min (Int.toNat 8) (IntKind.bits .i64)=8:=rfl
  rw[fE (n:=p0) (by omega),fE (n:=p1) (by omega),fE (n:=p2) (by omega),fE (n:=p3) (by omega),f24,f16,f8,
   show((p0:Nat):Int)*2^24=((2^24*p0:Nat):Int) by omega,show((p1:Nat):Int)*2^16=((2^16*p1:Nat):Int) by omega,show((p2:Nat):Int)*2^8=((2^8*p2:Nat):Int) by omega,
   fE (n:=2^24*p0) (by omega),fE (n:=2^16*p1) (by omega),fE (n:=2^8*p2) (by omega),Bk p0 24 (2^16*p1) (by omega) (by omega),
   show 2^24*p0+2^16*p1=2^16*(2^8*p0+p1) by omega,Bk _ 16 (2^8*p2) (by omega) (by omega),
   show 2^16*(2^8*p0+p1)+2^8*p2=2^8*(2^8*(2^8*p0+p1)+p2) by omega,Bk _ 8 p3 (by omega) (by omega)]
  congr 1;all_goals omega
def AU (c:Nat):Nat:=if c%2=1 then(c/2)^^^3988292384 else c/2
def pG:Nat→Nat→Nat
 |0,c=>c
 |n+1,c=>AU (pG n c)
def amM (c:Nat)(s:Bytes):Nat:=s.foldl (λc b=>pG 8 (c^^^b.toNat)) c
def H4 (s:Bytes):Int:=4294967295-(amM 4294967295 s:Int)
theorem wL {a b:Nat}(ha:a<4294967296)(hb:b<4294967296):a^^^b<4294967296:=Nat.xor_lt_two_pow (n:=32) ha hb
theorem Sa {c:Nat}(h:c<4294967296):AU c<4294967296:=by unfold AU;split;exact wL (by omega) (by omega);omega
theorem BE {c:Nat}(h:c<4294967296):∀n,pG n c<4294967296
 |0=>h
 |n+1=>Sa (BE h n)
theorem VC {R:Type}(k0:Int→Int→Option R)(k:Int→Option R)(hk:∀x y,k0 x y=k x)(v0:Bytes)(v4:Int)(c:Nat)(h:c<4294967296):aH (lf k0 v0 v4) fuel ((c:Int),0)=k (pG 8 c:Int):=by
 have hfu:=dI
 have key:=zU (T:=lf k0 v0 v4) 8 (λ(_:Unit) i=>((pG i c:Int),(i:Int))) (λ_ s nx=>nx s) (λ_=>k (pG 8 c:Int))
  (λi s nx hi=>by
   have hc:=BE h i;simp only[lf];have a1:=Zy (pG i c) 1 (by omega) (by omega);have x1:=RY (pG i c/2) 3988292384 (by omega) (by omega);simp only[bQ]at a1
   rw[ah (by omega),ai,a1,Nat.and_one_is_mod,
    show min (Int.toNat 1) (IntKind.bits .i64)=1 from rfl,show Int.fdiv ((pG i c:Nat):Int) (2^1)=((pG i c/2:Nat):Int) from by rw[Int.fdiv_eq_ediv_of_nonneg _ (by omega)];rfl,
    show(3988292384:Int)=((3988292384:Nat):Int) from rfl,x1,
    fE (n:=pG i c%2) (by omega),fE (n:=(pG i c/2)^^^3988292384) (by have:=wL (a:=pG i c/2) (b:=3988292384) (by omega) (by omega);omega),ao (by omega),ao (by omega),wrap64 (n:=(i:Int)+1) (by omega) (by omega)]
   show _=nx ((AU (pG i c):Int),((i+1:Nat):Int));unfold AU;by_cases hp:pG i c%2=1;rw[hp,ay rfl];rfl;have h0:pG i c%2=0:=by omega
   rw[h0,ao (by omega)];rfl)
  (λs nx=>by simp only[lf];rw[ae (by omega),af,hk])
  fuel 0 () (by omega) (by omega)
 refine key.trans ?_;rfl
theorem UD {R:Type}(k0:Int→Int→Option R)(k:Int→Option R)(hk:∀x y,k0 x y=k x)(v0:Bytes)(v4:Int)(c:Nat)(h:c<4294967296):aH (k6 k0 v0 v4) fuel ((c:Int),0)=k (pG 8 c:Int):=by
 have hfu:=dI
 have key:=zU (T:=k6 k0 v0 v4) 8 (λ(_:Unit) i=>((pG i c:Int),(i:Int))) (λ_ s nx=>nx s) (λ_=>k (pG 8 c:Int))
  (λi s nx hi=>by
   have hc:=BE h i;simp only[k6];have a1:=agD (pG i c) 1 (by omega) (by omega);have x1:=aaq (pG i c/2) 3988292384 (by omega) (by omega);simp only[bQ]at a1
   rw[ah (by omega),ai,a1,Nat.and_one_is_mod,
    show min (Int.toNat 1) (IntKind.bits .u32)=1 from rfl,show Int.fdiv ((pG i c:Nat):Int) (2^1)=((pG i c/2:Nat):Int) from by rw[Int.fdiv_eq_ediv_of_nonneg _ (by omega)];rfl,
    show(3988292384:Int)=((3988292384:Nat):Int) from rfl,x1,
    CJ (n:=pG i c%2) (by omega),CJ (n:=(pG i c/2)^^^3988292384) (wL (by omega) (by omega)),ao (by omega),wrap64 (n:=(i:Int)+1) (by omega) (by omega)]
   show _=nx ((AU (pG i c):Int),((i+1:Nat):Int));unfold AU;by_cases hp:pG i c%2=1;rw[hp,ay rfl];rfl;have h0:pG i c%2=0:=by omega
   rw[h0,ao (by omega)];rfl)
  (λs nx=>by simp only[k6];rw[ae (by omega),af,hk])
  fuel 0 () (by omega) (by omega)
 refine key.trans ?_;rfl
theorem RG (s:Bytes)(h:s.length≤1000000000):vC s=some (H4 s):=by
 unfold vC;have:=vx (T:=og (λ(y4:Int) (_:Int)=>some (aq (4294967295-y4))) s) s (λ(c:Nat) i=>((c:Int),(i:Int))) (λ_ c=>c<4294967296) (λb c=> .ok (pG 8 (c^^^b.toNat))) (λc=>some (4294967295-(c:Int))) (by omega) (λi hi c nx hI=>?hs) (λi hi c c' hI hg=>?hn) (λc nx hI=>?hf) 4294967295 (by omega)
 case hs=>
  have hb:=iy s[i]
  simp only[og]
  rw[ah (by omega),aX hi,ai,ab,fE (n:=s[i].toNat) (by omega),RY c s[i].toNat (by omega) (by omega)]
  have hx:=wL hI (show s[i].toNat<4294967296 by omega)
  rw[fE (by omega),VC _ (λy=>nx (y,(i:Int)+1)) (λx y=>by rw[wrap64 (by omega) (by omega)]) _ _ _ hx];rfl
 case hn=>
  cases hg
  exact BE (wL hI (by have:=iy s[i];omega)) 8
 case hf=>
  simp only[og]
  rw[ae (by omega),af,wrap64 (by omega) (by omega)]
 rw[Cl]at this;exact this
theorem not_xor (c:Nat)(h:c<4294967296):BitVec.toNat (BitVec.ofInt (IntKind.bits .u32) (IntKind.max .u32)^^^BitVec.ofInt (IntKind.bits .u32) (c:Int))=4294967295-c:=by show(BitVec.ofInt 32 4294967295^^^BitVec.ofInt 32 (c:Int)).toNat=_;rw[show BitVec.ofInt 32 4294967295=BitVec.allOnes 32 by decide,cy,BitVec.allOnes_xor,BitVec.toNat_not,cE,cM (show c<2^32 by omega)]
theorem Rc (s:Bytes)(h:s.length≤1000000000):uW s=some (H4 s):=by
 unfold uW;have:=vx (T:=nO (λ(y4:Int) (_:Int)=>some (aq (IntKind.wrap .u32 (BitVec.toNat (BitVec.ofInt (IntKind.bits .u32) (IntKind.max .u32)^^^BitVec.ofInt (IntKind.bits .u32) y4))))) s) s (λ(c:Nat) i=>((c:Int),(i:Int))) (λ_ c=>c<4294967296) (λb c=> .ok (pG 8 (c^^^b.toNat))) (λc=>some (4294967295-(c:Int))) (by omega) (λi hi c nx hI=>?hs) (λi hi c c' hI hg=>?hn) (λc nx hI=>?hf) 4294967295 (by omega)
 case hs=>
  have hb:=iy s[i]
  simp only[nO]
  rw[ah (by omega),aX hi,ai,ab,CJ (n:=s[i].toNat) (by omega),aaq c s[i].toNat (by omega) (by omega)]
  have hx:=wL hI (show s[i].toNat<4294967296 by omega)
  rw[CJ hx,UD _ (λy=>nx (y,(i:Int)+1)) (λx y=>by rw[wrap64 (by omega) (by omega)]) _ _ _ hx];rfl
 case hn=>
  cases hg
  exact BE (wL hI (by have:=iy s[i];omega)) 8
 case hf=>
  simp only[nO]
  rw[ae (by omega),af,not_xor c hI,CJ (by omega),fE (by omega)]
  congr 1
  all_goals omega
 rw[Cl]at this;exact this
theorem EJ (s:Bytes):bytesOf (cr s)=s:=by
 unfold bytesOf cr;rw[List.map_map];conv=>rhs;rw[←List.map_id s]
 refine List.map_congr_left λb _=>?_;simp
theorem UY (s t:Bytes):cr (s++t)=cr s++cr t:=List.map_append
theorem B8 (s:Bytes):(cr s).length=s.length:=cK ..
theorem Lk {α:Type}(l:List α)(i j:Nat)(h:i≤j)(h2:j≤l.length):sub l (i:Int) (j:Int)=some ((l.drop i).take (j-i)):=by unfold sub;rw[ay (by omega)];simp[List.take_drop,Nat.add_sub_cancel' h]
theorem Jc (a k:Nat):Int.tdiv (a:Int) (k:Int)=((a/k:Nat):Int):=(Int.ofNat_tdiv a k).symm
theorem He (a k:Nat):Int.tmod (a:Int) (k:Int)=((a%k:Nat):Int):=(Int.ofNat_tmod a k).symm
theorem mem_iff {m:List Bytes}:eU m=true↔(∀x∈m,x.length=128)∧m.length≤64:=by simp only[eU,aj,aU,aW,aK];constructor;rintro⟨h1,h2⟩;exact⟨λx hx=>by have:=h1 x hx;omega,by omega⟩;rintro⟨h1,h2⟩;exact⟨λx hx=>by have:=h1 x hx;omega,by omega⟩
theorem Mv:∀{m:List Bytes},(∀x∈m,x.length=128)→m.flatten.length=128*m.length
 |[],_=>rfl
 |x::m,h=>by have:=Mv (m:=m) (λy hy=>h y (by simp[hy]));have:=h x (by simp);simp only[List.flatten_cons,ak,bj];omega
theorem Ic:∀{m:List Bytes}(_:∀x∈m,x.length=128)(p:Nat)(hp:p<m.length)(o c:Nat),o+c≤128→(m.flatten.drop (128*p+o)).take c=(m[p].drop o).take c
 |x::m,h,0,hp,o,c,ho=>by have:=h x (by simp);simp only[List.flatten_cons,List.getElem_cons_zero];rw[List.drop_append_of_le_length (by omega),List.take_append_of_le_length (by simp;omega)];simp
 |x::m,h,p+1,hp,o,c,ho=>by have hx:=h x (by simp);simp only[List.flatten_cons,List.getElem_cons_succ];rw[show 128*(p+1)+o=x.length+(128*p+o) by omega,List.drop_length_add_append];exact Ic (m:=m) (λy hy=>h y (by simp[hy])) p (by simpa using hp) o c ho
def tP (m:List Bytes)(a n:Nat):Bytes:=(m.flatten.drop a).take n
theorem w7 {m:List Bytes}{a n:Nat}(h:eU m=true)(hn:a+n≤128*m.length):(tP m a n).length=n:=by have:=Mv (mem_iff.1 h).1;simp only[tP,bf,bd];omega
theorem Vy (m:List Bytes)(a n:Nat):(tP m a n).length≤n:=by simp[tP];omega
theorem IK (m:List Bytes)(a k c:Nat):tP m a (k+c)=tP m a k++tP m (a+k) c:=by unfold tP;rw[List.take_add,dx]
theorem GN {m:List Bytes}(h:eU m=true){p:Nat}(hp:p<m.length){o c:Nat}(ho:o+c≤128){a:Nat}(ha:a=128*p+o):(m[p].drop o).take c=tP m a c:=by subst ha;exact(Ic (mem_iff.1 h).1 p hp o c ho).symm
def dY (m:List Bytes)(a n:Int):Bool:=eU m&&decide (0≤n∧0≤a∧a+n≤128*(m.length:Int))
theorem za (m:List Bytes)(a n:Int)(h:m.length≤1000000000):pr m a n=some (dY m a n):=by unfold pr dY;rw[Be m h,ab,wrap64 (n:=(m.length:Int)*128) (by omega) (by omega)];cases hm:eU m with|false=>rfl|true=>simp only[ai,a9];by_cases h1:n≥0;by_cases h2:n≤(m.length:Int)*128;rw[wrap64 (n:=(m.length:Int)*128-n) (by omega) (by omega)];by_cases h3:a≥0;simp only[ah h1,ah h2,ah h3,ai,ab];exact congrArg some (decide_eq_decide.2 (by omega));simp only[ah h1,ah h2,ae h3,ai,af,ab];exact congrArg some (ae (by omega)).symm;simp only[ah h1,ae h2,ai,af,ab];exact congrArg some (ae (by omega)).symm;simp only[ae h1,af,ab];exact congrArg some (ae (by omega)).symm
theorem zy (m:List Bytes)(a n:Int)(h:m.length≤1000000000):hZ m a n=some (dY m a n):=by unfold hZ dY;rw[yd m h,ab,wrap64 (n:=128*(m.length:Int)) (by omega) (by omega)];cases hm:eU m with|false=>rfl|true=>simp only[ai,a9];by_cases h1:n≥0;by_cases h3:a≥0;by_cases h2:a≤128*(m.length:Int);rw[wrap64 (n:=128*(m.length:Int)-a) (by omega) (by omega)];simp only[ah h1,ah h2,ah h3,ai,ab];exact congrArg some (decide_eq_decide.2 (by omega));simp only[ah h1,ae h2,ah h3,ai,af,ab];exact congrArg some (ae (by omega)).symm;simp only[ah h1,ae h3,ai,af,ab];exact congrArg some (ae (by omega)).symm;simp only[ae h1,af,ab];exact congrArg some (ae (by omega)).symm
theorem B0 {R:Type}{m:List Bytes}(hm:eU m=true)(K:Int→List Int→Option R):∀(n r k a f:Nat),r≤n→n<f→a+k+r≤128*m.length→
 aH (g8 K ((k+r:Nat):Int) m) f (((a+k:Nat):Int),cr (tP m a k))=K ((a+k+r:Nat):Int) (cr (tP m a (k+r)))
 |n,r,k,a,0,_,hf,_=>by omega
 |n,0,k,a,f+1,hr,hf,hb=>by rw[aH];simp only[g8,B8,w7 hm (show a+k≤128*m.length by omega),cD];rw[ae (by omega),af]
 |0,r+1,k,a,f+1,hr,hf,hb=>by omega
 |n+1,r+1,k,a,f+1,hr,hf,hb=>by
  have h64:=(mem_iff.1 hm).2;have hl:=w7 hm (show a+k≤128*m.length by omega);obtain⟨p,hp⟩:∃p,(a+k)/128=p:=⟨_,rfl⟩
  obtain⟨o,ho⟩:∃o,(a+k)%128=o:=⟨_,rfl⟩
  have hpo:a+k=128*p+o:=by omega
  have ho2:o<128:=by omega
  have hpl:p<m.length:=by omega
  obtain⟨c,hc⟩:∃c,min (r+1) (128-o)=c:=⟨_,rfl⟩
  have hpg:=(mem_iff.1 hm).1 _ (aL hpl);have e1:Int.tdiv ((a+k:Nat):Int) 128=(p:Int):=by rw[←hp];exact Jc (a+k) 128
  have e2:Int.tmod ((a+k:Nat):Int) 128=(o:Int):=by rw[←ho];exact He (a+k) 128
  have key:=B0 hm K n (r+1-c) (k+c) a f (by omega) (by omega) (by omega);rw[aH];simp only[g8,B8,hl,e1,e2];rw[ah (by omega),ai,ao (by omega),wrap64 (n:=(p:Int)) (by omega) (by omega),aX hpl,ab,ao (by omega)];rw[wrap64 (n:=(o:Int)+((k+(r+1):Nat):Int)) (by omega) (by omega),wrap64 (n:=(o:Int)+((k+(r+1):Nat):Int)-(k:Int)) (by omega) (by omega)];rw[show(if(o:Int)+((k+(r+1):Nat):Int)-(k:Int)<128 then(o:Int)+((k+(r+1):Nat):Int)-(k:Int) else 128)=((o+c:Nat):Int) by split<;>omega];rw[Lk _ _ _ (by omega) (by omega),ab,show o+c-o=c by omega,GN hm hpl (show o+c≤128 by omega) hpo];have hl2:=w7 hm (show a+k+c≤128*m.length by omega);rw[hl2,aJ (by omega),wrap64 (by omega) (by omega),←UY,←IK];rw[show((a+k:Nat):Int)+(c:Int)=((a+(k+c):Nat):Int) by omega];rw[show k+c+(r+1-c)=k+(r+1) by omega,show a+(k+c)+(r+1-c)=a+k+(r+1) by omega]at key;exact key
theorem UU (m:List Bytes)(a n:Int)(h:m.length≤1000000000):kL m a n=some (bif dY m a n then(tP m a.toNat n.toNat,true) else([],false)):=by have hfu:=dI;unfold kL;rw[za m a n h,ab];cases hw:dY m a n with|false=>rfl|true=>simp only[dY,aj,aK]at hw;obtain⟨hm,h1,h2,h3⟩:=hw;have h64:=(mem_iff.1 hm).2;simp only[al,af,ai];rw[ay (by omega),aJ (by omega)];obtain⟨a,rfl⟩:=aM h2;obtain⟨n,rfl⟩:=aM h1;have:=B0 hm (λ(y4:Int) (y5:List Int)=>some (bytesOf y5,true)) n n 0 a fuel (by omega) (by omega) (by omega);rw[bU,cD]at this;refine Eq.trans this ?_;simp only[EJ,ax]
theorem Cv {R:Type}{m:List Bytes}(hm:eU m=true)(K:Int→Int→Bytes→Option R):∀(n r k a f:Nat),r≤n→n<f→a+k+r≤128*m.length→
 aH (hY K m) f (((a+k:Nat):Int),(r:Int),tP m a k)=K ((a+k+r:Nat):Int) 0 (tP m a (k+r))
 |n,r,k,a,0,_,hf,_=>by omega
 |n,0,k,a,f+1,hr,hf,hb=>by rw[aH];simp only[hY];rw[ae (by omega),af];rfl
 |0,r+1,k,a,f+1,hr,hf,hb=>by omega
 |n+1,r+1,k,a,f+1,hr,hf,hb=>by
  have h64:=(mem_iff.1 hm).2;have hl:=w7 hm (show a+k≤128*m.length by omega);obtain⟨p,hp⟩:∃p,(a+k)/128=p:=⟨_,rfl⟩
  obtain⟨o,ho⟩:∃o,(a+k)%128=o:=⟨_,rfl⟩
  have hpo:a+k=128*p+o:=by omega
  have ho2:o<128:=by omega
  have hpl:p<m.length:=by omega
  obtain⟨c,hc⟩:∃c,min (r+1) (128-o)=c:=⟨_,rfl⟩
  have hpg:=(mem_iff.1 hm).1 _ (aL hpl);have e1:Int.tdiv ((a+k:Nat):Int) 128=(p:Int):=by rw[←hp];exact Jc (a+k) 128
  have e2:Int.tmod ((a+k:Nat):Int) 128=(o:Int):=by rw[←ho];exact He (a+k) 128
  have key:=Cv hm K n (r+1-c) (k+c) a f (by omega) (by omega) (by omega);rw[aH];simp only[hY,e1,e2];rw[ah (by omega),ai,ao (by omega),ao (by omega),wrap64 (n:=(p:Int)) (by omega) (by omega),aX hpl,ab];rw[wrap64 (n:=128-(o:Int)) (by omega) (by omega)];rw[show(if 128-(o:Int)<((r+1:Nat):Int) then 128-(o:Int) else((r+1:Nat):Int))=(c:Int) by split<;>omega];rw[wrap64 (n:=(o:Int)+(c:Int)) (by omega) (by omega),show(o:Int)+(c:Int)=((o+c:Nat):Int) by omega];rw[Lk _ _ _ (by omega) (by omega),ab,show o+c-o=c by omega,GN hm hpl (show o+c≤128 by omega) hpo];have hl2:=w7 hm (show a+k+c≤128*m.length by omega);rw[hl2,hl,aJ (by omega),wrap64 (n:=((a+k:Nat):Int)+(c:Int)) (by omega) (by omega),wrap64 (n:=((r+1:Nat):Int)-(c:Int)) (by omega) (by omega),←IK];rw[show((a+k:Nat):Int)+(c:Int)=((a+(k+c):Nat):Int) by omega,show((r+1:Nat):Int)-(c:Int)=((r+1-c:Nat):Int) by omega];rw[show k+c+(r+1-c)=k+(r+1) by omega,show a+(k+c)+(r+1-c)=a+k+(r+1) by omega]at key;exact key
theorem VR (m:List Bytes)(a n:Int)(h:m.length≤1000000000):kU m a n=some (bif dY m a n then(tP m a.toNat n.toNat,true) else([],false)):=by have hfu:=dI;unfold kU;rw[zy m a n h,ab];cases hw:dY m a n with|false=>rfl|true=>simp only[dY,aj,aK]at hw;obtain⟨hm,h1,h2,h3⟩:=hw;have h64:=(mem_iff.1 hm).2;simp only[al,af,ai];obtain⟨a,rfl⟩:=aM h2;obtain⟨n,rfl⟩:=aM h1;have:=Cv hm (λ(y4:Int) (y5:Int) (y6:Bytes)=>some (y6,true)) n n 0 a fuel (by omega) (by omega) (by omega);rw[bU,cD]at this;exact this
def Gx (d p:Int)(w:Bool)(x:aN):Bool:=nB d p x&&(x.2.2.2|| !w)
def rD (l:List aN)(d p:Int)(w:Bool):Int:=match l.findIdx? (Gx d p w)with|some i=>(l.getD i HB).2.2.1|none=> -1
theorem VO (l:List aN)(d p:Int)(w:Bool)(h:l.length≤1000000000):uA l d p w=some (rD l d p w):=by unfold uA rD;refine Eq.trans (CV (p:=Gx d p w) (hit:=λi=>aa (idx l i) λx=>some x.2.2.1) (fin:=some (-1)) l (by omega) (λi hi nx=>?_) (λnx=>?_)) ?_;simp only[oT];rw[ah (by omega),aX hi,wrap64 (by omega) (by omega)];simp only[ai,ab,Gx,nB];cases l[i].1==d<;>cases l[i].2.1==p<;>cases l[i].2.2.2<;>cases w<;>rfl;simp only[oT];rw[ae (by omega)];rfl;cases hf:l.findIdx? (Gx d p w)with|none=>rfl|some i=>obtain⟨hi,_⟩:=List.findIdx?_eq_some_iff_getElem.1 hf;simp only[aX hi,ab,bM hi]
theorem Cc {l:List aN}(h:eE l=true){i:Nat}(hi:i<l.length):C5 l[i]=true∧∀j (hj:j<i),nB l[i].1 l[i].2.1 (l[j]'(by omega))=false:=by simp only[eE,aj,aU,cw]at h;have:=h.2 i hi;simp only[Na,aj,aU,cw,bM hi,aR]at this;exact⟨this.1,λj hj=>by have:=this.2 j hj;rwa[bM (by omega)]at this⟩
theorem C4 {d p:Int}{m:aN}:nB d p m=true↔m.1=d∧m.2.1=p:=by simp[nB]
theorem U7 {l:List aN}(h:eE l=true){d p:Int}{i j:Nat}(hi:i<l.length)(hj:j<l.length)(h1:nB d p l[i]=true)(h2:nB d p l[j]=true):i=j:=by have a:=C4.1 h1;have b:=C4.1 h2;rcases Nat.lt_trichotomy i j with h3|h3|h3;have:=(Cc h hj).2 i h3;rw[b.1,b.2,h1]at this;cases this;exact h3;have:=(Cc h hi).2 j h3;rw[a.1,a.2,h2]at this;cases this
theorem GF {l:List aN}(h:eE l=true)(d p:Int)(w:Bool)(h1:0≤rD l d p w):rD l d p w≤63∧0≤p∧p≤1023:=by unfold rD at h1⊢;cases hf:l.findIdx? (Gx d p w)with|none=>rw[hf]at h1;simp at h1|some i=>obtain⟨hi,h2,_⟩:=List.findIdx?_eq_some_iff_getElem.1 hf;have h3:=(Cc h hi).1;simp only[Gx,aj,C4]at h2;simp only[C5,aj,bW]at h3;simp only[bM hi];omega
theorem SA (l:List aN)(d:Int)(a:Nat)(w:Bool)(h:l.length≤1000000000)(hm:eE l=true)(ha:a≤9223372036854775807): xz l d (a:Int) w=some (if 0≤rD l d ((a/128:Nat):Int) w then rD l d ((a/128:Nat):Int) w*128+((a%128:Nat):Int) else-1):=by
 have e1:Int.tdiv (a:Int) 128=((a/128:Nat):Int):=Jc a 128;have e2:Int.tmod (a:Int) 128=((a%128:Nat):Int):=He a 128;unfold xz;rw[ae (by omega),af,ao (by omega),e1,e2,wrap64 (by omega) (by omega),MT l _ _ h,ab];generalize ((a/128:Nat):Int)=p;have hin:=GF hm d p w;unfold Nw;cases hf:l.findIdx? (nB d p)with
 |none=>
  have hn:rD l d p w= -1:=by unfold rD;rw[List.findIdx?_eq_none_iff]at hf;rw[List.findIdx?_eq_none_iff.2 (λx hx=>by rw[Gx,hf x hx];rfl)]
  rw[hn];rfl
 |some i=>
  obtain⟨hi,h2,h3⟩:=List.findIdx?_eq_some_iff_getElem.1 hf;simp only;rw[ae (by omega),aX hi];simp only[af,ab];cases hq:l[i].2.2.2|| !w with
  |true=>
   have hF:rD l d p w=l[i].2.2.1:=by unfold rD;rw[List.findIdx?_eq_some_iff_getElem.2 ⟨hi,by rw[Gx,h2,hq];rfl,λj hj=>by have:=h3 j hj;rw[Gx,Bool.eq_false_iff.2 this];simp⟩];exact congrArg (λx:aN=>x.2.2.1) (bM hi HB)
   have h4:=(Cc hm hi).1;simp only[C5,aj,bW]at h4
   rw[hF,ay (show 0≤l[i].2.2.1 by omega),show(aa (cond w (some (!l[i].2.2.2)) (some false)) λq3=>cond q3 (some (-1:Int)) _)=_ from by
    have:(cond w (some (!l[i].2.2.2)) (some false))=some false:=by cases w<;>cases hz:l[i].2.2.2<;>rw[hz]at hq<;>first|rfl|cases hq
    rw[this,ab,af]]
   rw[ao (show¬(128:Nat)=0 by omega),wrap64 (n:=l[i].2.2.1*128) (by omega) (by omega),wrap64 (by omega) (by omega)]
  |false=>
   have hF:rD l d p w= -1:=by unfold rD;rw[List.findIdx?_eq_none_iff.2 (λx hx=>by obtain⟨j,hj,rfl⟩:=List.getElem_of_mem hx;cases hx2:nB d p l[j]with|false=>rw[Gx,hx2];rfl|true=>have:=U7 hm hi hj h2 hx2;subst this;rw[Gx,hq];simp)]
   rw[hF,ao (show¬(0:Int)≤ -1 by omega)];cases w with|false=>simp at hq|true=>simp only[al,Bool.or_false]at hq;simp only[ai,hq,ab,di]
def kv (l:List aN)(m:List Bytes)(d:Int)(w:Bool):Nat→Nat→Nat→Option (List (Int×Int))
 |0,_,_=>some []
 |n+1,a,r=>if r=0 then some [] else
  if 0≤rD l d ((a/128:Nat):Int) w∧rD l d ((a/128:Nat):Int) w<(m.length:Int) then
   (kv l m d w n (a+min (128-a%128) r) (r-min (128-a%128) r)).map (λq=>(rD l d ((a/128:Nat):Int) w*128+((a%128:Nat):Int),((min (128-a%128) r:Nat):Int))::q)
  else none
theorem Lt {m:List Bytes}(hm:eU m=true){f:Int}(h0:0≤f){o c:Nat}(hc:0<c)(ho:o+c≤128):dY m (f*128+(o:Int)) (c:Int)=decide (f<(m.length:Int)):=by rw[dY,hm,a9];exact decide_eq_decide.2 (by omega)
theorem Ow {m:List Bytes}(hm:eU m=true){f:Int}(h0:0≤f):dY m (f*128) 128=decide (f<(m.length:Int)):=by rw[dY,hm,a9];exact decide_eq_decide.2 (by omega)
theorem B2 {l:List aN}{m:List Bytes}(hl:eE l=true)(hL:l.length≤1000000000)(hm:eU m=true)(d:Int)(w:Bool):∀(n a r f:Nat)(acc:List (Int×Int)),r≤n→n<f→acc.length+n≤1000000→a≤9223372036854775807→
 aH (l5 (λ(y9:Int) (y10:Int) (y11:List (Int×Int))=>some (y11,true)) (λ(y12:Int) (y13:Int) (y14:List (Int×Int)) (y15:Bool) (y16:List (Int×Int))=>some (y14,y15)) l d w ([]:List (Int×Int)) false m) f ((a:Int),(r:Int),acc)
  =match kv l m d w n a r with|some q=>some (acc++q,true)|none=>some ([],false)
 |n,a,r,0,acc,_,hf,_,_=>by omega
 |0,a,r,f+1,acc,hr,hf,hA,ha=>by rw[aH];simp only[l5];rw[ae (by omega)];simp[kv]
 |n+1,a,r,f+1,acc,hr,hf,hA,ha=>by
  have h64:=(mem_iff.1 hm).2;rw[aH];simp only[l5,kv];by_cases h0:r=0;rw[ae (by omega),ay h0];simp;have e2:Int.tmod (a:Int) 128=((a%128:Nat):Int):=He a 128;have hin:=GF hl d ((a/128:Nat):Int) w;rw[ah (by omega),ao h0,SA l d a w hL hl ha,ab,ao (by omega),e2,wrap64 (n:=128-((a%128:Nat):Int)) (by omega) (by omega)];obtain⟨c,hc⟩:∃c,min (128-a%128) r=c:=⟨_,rfl⟩
  rw[hc,show(if 128-((a%128:Nat):Int)<(r:Int) then 128-((a%128:Nat):Int) else(r:Int))=(c:Int) by split<;>omega];generalize hP:rD l d ((a/128:Nat):Int) w=P at hin⊢;by_cases hP0:0≤P;have hin:=hin hP0;simp only[ay hP0,ai];rw[ae (show¬P*128+((a%128:Nat):Int)<0 by omega),za m _ _ (by omega),Lt hm hP0 (by omega) (by omega)];simp only[af,ab];by_cases hP1:P<(m.length:Int);rw[ah hP1,ay ⟨hP0,hP1⟩];simp only[al,af];rw[aJ (by simp;omega),wrap64 (n:=(a:Int)+(c:Int)) (by omega) (by omega),wrap64 (n:=(r:Int)-(c:Int)) (by omega) (by omega),ae (show¬(a:Int)+(c:Int)<0 by omega)];simp only[af,ab];have key:=B2 hl hL hm d w n (a+c) (r-c) f (acc++[(P*128+((a%128:Nat):Int),(c:Int))]) (by omega) (by omega) (by simp;omega) (by omega);rw[show((a+c:Nat):Int)=(a:Int)+(c:Int) by omega,show((r-c:Nat):Int)=(r:Int)-(c:Int) by omega]at key;rw[key];cases kv l m d w n (a+c) (r-c)with|none=>rfl|some q=>simp
  rw[ae hP1,ao (by omega)];rfl;simp only[ao hP0,ai];rw[ao (by omega),ah (by omega)];rfl
theorem Cw {l:List aN}{m:List Bytes}(hl:eE l=true)(hL:l.length≤1000000000)(hm:eU m=true)(d:Int)(w:Bool):∀(n a r f:Nat)(acc:List (Int×Int)),r≤n→n<f→acc.length+n≤1000000→a≤9223372036854775807→
 aH (g5 (λ(y10:Int) (y11:Int) (y12:List Int) (y13:List Int)=>some (y12,y13,true)) (λ(y14:Int) (y15:Int) (y16:List Int) (y17:List Int) (y18:Bool) (y19:List Int) (y20:List Int)=>some (y16,y17,y18)) l d w ([]:List Int) ([]:List Int) false m) f ((a:Int),(r:Int),acc.map (·.1),acc.map (·.2))
  =match kv l m d w n a r with|some q=>some ((acc++q).map (·.1),(acc++q).map (·.2),true)|none=>some ([],[],false)
 |n,a,r,0,acc,_,hf,_,_=>by omega
 |0,a,r,f+1,acc,hr,hf,hA,ha=>by rw[aH];simp only[g5];rw[ae (by omega)];simp[kv]
 |n+1,a,r,f+1,acc,hr,hf,hA,ha=>by
  have h64:=(mem_iff.1 hm).2;rw[aH];simp only[g5,kv];by_cases h0:r=0;rw[ae (by omega),ay h0];simp;have e1:Int.tdiv (a:Int) 128=((a/128:Nat):Int):=Jc a 128;have e2:Int.tmod (a:Int) 128=((a%128:Nat):Int):=He a 128;have hin:=GF hl d ((a/128:Nat):Int) w;rw[ah (show(r:Int)>0 by omega),ah (show(a:Int)≥0 by omega),ao h0];simp only[ai];rw[ao (by omega),e1,e2,wrap64 (n:=((a/128:Nat):Int)) (by omega) (by omega),VO l _ _ w hL,ab,ao (by omega),wrap64 (n:=128-((a%128:Nat):Int)) (by omega) (by omega)];obtain⟨c,hc⟩:∃c,min (128-a%128) r=c:=⟨_,rfl⟩
  rw[hc,show(if 128-((a%128:Nat):Int)<(r:Int) then 128-((a%128:Nat):Int) else(r:Int))=(c:Int) by split<;>omega];generalize hP:rD l d ((a/128:Nat):Int) w=P at hin⊢;by_cases hP0:0≤P;have hin:=hin hP0;rw[ae (show¬P<0 by omega),wrap64 (n:=P*128) (by omega) (by omega),zy m _ _ (by omega),Ow hm hP0];simp only[af,ab];by_cases hP1:P<(m.length:Int);rw[ah hP1,ay ⟨hP0,hP1⟩];simp only[al,af];rw[aJ (by simp;omega),aJ (by simp;omega),wrap64 (n:=P*128+((a%128:Nat):Int)) (by omega) (by omega),wrap64 (n:=(a:Int)+(c:Int)) (by omega) (by omega),wrap64 (n:=(r:Int)-(c:Int)) (by omega) (by omega)];have key:=Cw hl hL hm d w n (a+c) (r-c) f (acc++[(P*128+((a%128:Nat):Int),(c:Int))]) (by omega) (by omega) (by simp;omega) (by omega);rw[show((a+c:Nat):Int)=(a:Int)+(c:Int) by omega,show((r-c:Nat):Int)=(r:Int)-(c:Int) by omega,List.map_append,List.map_append]at key;refine Eq.trans key ?_;cases kv l m d w n (a+c) (r-c)with|none=>rfl|some q=>simp
  rw[ae hP1,ao (by omega)];rfl;rw[ao (by omega),ah (by omega)];rfl
def kf (l:List aN)(m:List Bytes)(d a n:Int)(w:Bool):List (Int×Int)×Bool:=
 bif eE l&&(eU m&&cx n 0 4096) then
  (bif n==0 then([],true) else bif decide (a<0) then([],false) else match kv l m d w n.toNat a.toNat n.toNat with|some q=>(q,true)|none=>([],false))
 else([],false)
theorem MV (l:List aN)(m:List Bytes)(d a n:Int)(w:Bool)(hl:l.length≤1000000000)(hm:m.length≤1000000000)(ha:a≤9223372036854775807):s4 l m d a n w=some (kf l m d a n w):=by
 have hfu:=dI;unfold s4 kf;simp only[BX l hl,Be m hm,cC,ab];cases hB:eE l with|false=>rfl|true=>?_
 cases hM:eU m with|false=>rfl|true=>?_
 cases hN:cx n 0 4096 with|false=>rfl|true=>?_
 have hn:=bW.1 hN;simp only[al,af,ab,dK,ai];cases h0:n==0 with|true=>rfl|false=>?_
 by_cases hA:a<0;rw[ah hA];rfl;rw[ae hA];simp only[af];obtain⟨a,rfl⟩:=aM (show 0≤a by omega);obtain⟨n,rfl⟩:=aM hn.1;rw[B2 hB hl hM d w n a n fuel [] (by omega) (by omega) (by simp;omega) (by omega)];simp only[ax];cases kv l m d w n a n<;>rfl
theorem I0 (l:List aN)(m:List Bytes)(d a n:Int)(w:Bool)(hl:l.length≤1000000000)(hm:m.length≤1000000000)(ha:a≤9223372036854775807):ov l m d a n w=some ((kf l m d a n w).1.map (·.1),(kf l m d a n w).1.map (·.2),(kf l m d a n w).2):=by
 have hfu:=dI;unfold ov kf;simp only[Ct l hl,yd m hm,cc,ab];cases hB:eE l with|false=>rfl|true=>?_
 cases hM:eU m with|false=>rfl|true=>?_
 cases hN:cx n 0 4096 with|false=>rfl|true=>?_
 have hn:=bW.1 hN;simp only[al,af,ab,dK,ai];obtain⟨n,rfl⟩:=aM hn.1;cases h0:((n:Int)==0)with
 |true=>
  have:n=0:=by simpa using h0
  subst this;obtain⟨f,hf⟩:∃f,fuel=f+1:=⟨fuel-1,by omega⟩
  rw[hf,aH];rfl
 |false=>
  have hn0:n≠0:=by simpa using h0
  by_cases hA:a<0;obtain⟨f,hf⟩:∃f,fuel=f+1:=⟨fuel-1,by omega⟩
  rw[ah hA,hf,aH];simp only[g5];rw[ah (by omega),ae (by omega)];rfl;rw[ae hA];simp only[af];obtain⟨a,rfl⟩:=aM (show 0≤a by omega);refine Eq.trans (Cw hB hl hM d w n a n fuel [] (by omega) (by omega) (by simp;omega) (by omega)) ?_;simp only[ax];cases kv l m d w n a n<;>rfl
def R2 (a b:Int):Int:=(iP a b).getD 0
theorem Ep (a b:Int):iP a b=some (R2 a b):=by
 unfold R2;have:∃x,iP a b=some x:=by simp only[iP,cc,ab];cases cx a 0 65535<;>cases cx b 0 65535<;>cases decide (aq (a+b)>65535)<;>exact⟨_,rfl⟩
 obtain⟨x,hx⟩:=this;rw[hx];rfl
theorem MO (a b:Int):tU a b=some (R2 a b):=Ep a b
theorem X1 {a b:Int}(h:0≤a∧a≤65535)(k:0≤b∧b≤65535):0≤R2 a b∧R2 a b≤65535:=by have e:=Ep a b;simp only[iP,cc,ab,bW.2 h,bW.2 k,al,af]at e;rw[wrap64 (n:=a+b) (by omega) (by omega)]at e;by_cases hc:a+b>65535;rw[ah hc,ai,wrap64 (by omega) (by omega)]at e;rw[←cL e];omega;rw[ae hc,af]at e;rw[←cL e];omega
def sw (s:Bytes):Nat→Int
 |0=>0
 |j+1=>R2 (sw s j) ((bV s (2*j)*256+bV s (2*j+1):Nat):Int)
theorem VW (s:Bytes):∀j,0≤sw s j∧sw s j≤65535
 |0=>by simp[sw]
 |j+1=>by have b0:=dc s (2*j);have b1:=dc s (2*j+1);exact X1 (VW s j) (by omega)
theorem EI {s:Bytes}{i:Nat}(h:s.length≤i):bV s i=0:=by unfold bV;rw[List.getD_eq_getElem?_getD,List.getElem?_eq_none h];rfl
theorem Za (s:Bytes)(h:s.length≤1000000000):sP s=some (sw s ((s.length+1)/2)):=by
 unfold sP;refine de (λj=>(sw s j,((2*j:Nat):Int))) ((s.length+1)/2) (by omega) (λj nx hj=>?_) (λnx=>?_);have b0:=dc s (2*j);have b1:=dc s (2*j+1);obtain⟨x,hx,ex⟩:=kG (s:=s) (i:=2*j) (by omega);simp only[nv];rw[ah (by omega),ai,hx,ab,ao (by omega),wrap64 (n:=((2*j:Nat):Int)+1) (by omega) (by omega),wrap64 (n:=((2*j:Nat):Int)+2) (by omega) (by omega),ex,fE (by omega)];have e8:min (Int.toNat 8) (IntKind.bits .i64)=8:=rfl;have en:((2*j:Nat):Int)+2=((2*(j+1):Nat):Int):=by omega
 rw[e8,wrap64 (n:=((bV s (2*j):Nat):Int)*2^8) (by omega) (by omega)];by_cases hc:2*j+1<s.length;obtain⟨y,hy,ey⟩:=kG (s:=s) (i:=2*j+1) hc;rw[ah (by omega),ai,show((2*j:Nat):Int)+1=((2*j+1:Nat):Int) by omega,hy,ab,ey,fE (n:=bV s (2*j+1)) (by omega),wrap64 (by omega) (by omega),Ep,ab,en,show((bV s (2*j):Nat):Int)*2^8+((bV s (2*j+1):Nat):Int)=((bV s (2*j)*256+bV s (2*j+1):Nat):Int) by omega];rfl;have hz:=EI (s:=s) (i:=2*j+1) (by omega);rw[ae (by omega),af,Ep,ab,en,show((bV s (2*j):Nat):Int)*2^8=((bV s (2*j)*256+bV s (2*j+1):Nat):Int) by rw[hz];omega];rfl;simp only[nv];rw[ae (by omega)];rfl
theorem Yw (s:Bytes)(h:s.length≤1000000000):sm s=some (sw s ((s.length+1)/2)):=by
 unfold sm;refine de (λj=>(sw s j,((2*j:Nat):Int))) ((s.length+1)/2) (by omega) (λj nx hj=>?_) (λnx=>?_);have b0:=dc s (2*j);have b1:=dc s (2*j+1);obtain⟨x,hx,ex⟩:=kG (s:=s) (i:=2*j) (by omega);simp only[mS];rw[ah (by omega),ai,hx,ab,ao (by omega),wrap64 (n:=((2*j:Nat):Int)+1) (by omega) (by omega),wrap64 (n:=((2*j:Nat):Int)+2) (by omega) (by omega),ex,fE (by omega)];have e8:min (Int.toNat 8) (IntKind.bits .i64)=8:=rfl;have en:((2*j:Nat):Int)+2=((2*(j+1):Nat):Int):=by omega
 rw[e8,show((bV s (2*j):Nat):Int)*2^8=((2^8*bV s (2*j):Nat):Int) by omega,fE (n:=2^8*bV s (2*j)) (by omega)];by_cases hc:2*j+1<s.length;obtain⟨y,hy,ey⟩:=kG (s:=s) (i:=2*j+1) hc;rw[ah (by omega),ai,show((2*j:Nat):Int)+1=((2*j+1:Nat):Int) by omega,hy,ab,ey,fE (n:=bV s (2*j+1)) (by omega),Bk (bV s (2*j)) 8 (bV s (2*j+1)) (by omega) (by omega),MO,ab,en,show 2^8*bV s (2*j)+bV s (2*j+1)=bV s (2*j)*256+bV s (2*j+1) by omega];rfl;have hz:=EI (s:=s) (i:=2*j+1) (by omega);rw[ae (by omega),af,MO,ab,en,show((2^8*bV s (2*j):Nat):Int)=((bV s (2*j)*256+bV s (2*j+1):Nat):Int) by rw[hz];omega];rfl;simp only[mS];rw[ae (by omega)];rfl
def OR (s:Bytes):Int:=65535-sw s ((s.length+1)/2)
theorem K9 (s:Bytes)(h:s.length≤1000000000):ld s=some (OR s):=by have:=VW s ((s.length+1)/2);simp only[ld,Za s h,ab];rw[wrap64 (by omega) (by omega)];rfl
theorem Rb (s:Bytes)(h:s.length≤1000000000):nN s=some (OR s):=by have:=VW s ((s.length+1)/2);simp only[nN,Yw s h,ab];rw[wrap64 (by omega) (by omega)];rfl
def Ck (s:Bytes)(a:Int)(p:Bytes):Bytes:=bif dE s a (p.length:Int) then(s.take a.toNat++p)++s.drop (a.toNat+p.length) else s
theorem NB (s:Bytes)(a:Int)(p:Bytes):(Ck s a p).length=s.length:=by unfold Ck;cases hw:dE s a (p.length:Int)with|false=>rfl|true=>simp only[dE,aK]at hw;simp only[ai,ak,bf,bd];omega
theorem NH (s:Bytes)(a:Int)(p:Bytes)(h:s.length≤1000000000)(hw:dE s a (p.length:Int)=true): (aa (sub s 0 a) λx2=>room (List.length x2+List.length p) (aa (sub s (aq (a+((List.length p:Int)))) ((List.length s:Int))) λx3=>room (List.length (x2++p)+List.length x3) (some ((x2++p)++x3))))=some (Ck s a p):=by
 have hw':=hw;simp only[dE,aK]at hw';obtain⟨n,rfl⟩:=aM hw'.1;have e1:sub s 0 (n:Int)=some (s.take n):=by unfold sub;rw[ay (by omega)];rfl
 have e2:sub s (((n+p.length:Nat):Int)) (s.length:Int)=some (s.drop (n+p.length)):=by unfold sub;rw[ay (by omega),ax,ax,cn]
 rw[e1,wrap64 (by omega) (by omega),show(n:Int)+(p.length:Int)=((n+p.length:Nat):Int) by omega,e2,ab,aJ (by simp only[bf];omega),ab,aJ (by simp only[ak,bf,bd];omega)];unfold Ck;rw[hw];rfl
theorem Er (s:Bytes)(a:Int)(p:Bytes)(h:s.length≤1000000000):fV s a p=some (Ck s a p):=by unfold fV;rw[zx s a _ h (by omega),ab];cases hw:dE s a (p.length:Int)with|false=>simp only[di,ai,Ck,hw,af]|true=>exact NH s a p h hw
theorem KG (s:Bytes)(a:Int)(p:Bytes)(h:s.length≤1000000000)(hp:p.length≤1000000000):k7 s a p=some (Ck s a p):=by
 unfold k7;rw[wrap64 (n:=(s.length:Int)-(p.length:Int)) (by omega) (by omega)];cases hw:dE s a (p.length:Int)with
 |true=>have hw':=hw;simp only[dE,aK]at hw';rw[ae (show¬a<0 by omega),ae (show¬a>(s.length:Int)-(p.length:Int) by omega)];exact NH s a p h hw
 |false=>
  have hp:Ck s a p=s:=by unfold Ck;rw[hw];rfl
  rw[hp];simp only[dE,cV]at hw;by_cases h0:a<0;rw[ah h0];rfl;rw[ae h0,ah (show a>(s.length:Int)-(p.length:Int) by omega)];rfl
def bs2 (x y:Int):Bytes:=bytesOf [x,y]
theorem Js (x y:Int):(bs2 x y).length=2:=rfl
def xX (a b k n:Int):Bool:=cx a 0 4294967295&&(cx b 0 4294967295&&(cx k 0 255&&cx n 0 65535))
def vq (a b k n:Int):Bytes:=((eB a++eB b)++bs2 0 (eo k))++db n
theorem IJ (a b k n:Int):(vq a b k n).length≤12:=by have:=cA a;have:=cA b;have:=br n;simp only[vq,ak,Js];omega
theorem Bo (a b k n:Int):iT a b k n=some (bif xX a b k n then(vq a b k n,true) else([],false)):=by
 have:=cA a;have:=cA b;have:=br n;unfold iT xX;simp only[cc,ab,je,ky];cases cx a 0 4294967295 with|false=>rfl|true=>?_
 cases cx b 0 4294967295 with|false=>rfl|true=>?_
 cases cx k 0 255 with|false=>rfl|true=>?_
 cases cx n 0 65535 with|false=>rfl|true=>?_
 simp only[al,af,dK,ai,ab];have e:(bytesOf [0,eo k]).length=2:=rfl;rw[aJ (by omega),aJ (by simp only[ak,e];omega),aJ (by simp only[ak,e];omega)];rfl
theorem Pm (a b k n:Int):pZ a b k n=some (bif xX a b k n then(vq a b k n,true) else([],false)):=Bo a b k n
def bare (g:cI):Bytes:=bif g.1==6 then
    (((((db g.2.1++db g.2.2.1)++eB g.2.2.2.1)++eB g.2.2.2.2.1)++bs2 80 (eo g.2.2.2.2.2.1))++db g.2.2.2.2.2.2.1)++eB 0++g.2.2.2.2.2.2.2
 else(((db g.2.1++db g.2.2.1)++db (8+(g.2.2.2.2.2.2.2.length:Int)))++db 0)++g.2.2.2.2.2.2.2
theorem Jq (g:cI):(bare g).length≤20+g.2.2.2.2.2.2.2.length:=by have:=br g.2.1;have:=br g.2.2.1;have:=cA g.2.2.2.1;have:=cA g.2.2.2.2.1;have:=br g.2.2.2.2.2.2.1;have:=cA 0;have:=br 0;have:=br (8+(g.2.2.2.2.2.2.2.length:Int));unfold bare;cases g.1==6<;>simp only[ai,af,ak,Js]<;>omega
theorem TI:db 0++db 0=eB 0:=by rfl
theorem UC (g:cI)(h:g.2.2.2.2.2.2.2.length≤1000000):mV g=some (bare g):=by have:=br g.2.1;have:=br g.2.2.1;have:=cA g.2.2.2.1;have:=cA g.2.2.2.2.1;have:=br g.2.2.2.2.2.2.1;have:=br 0;have:=br (8+(g.2.2.2.2.2.2.2.length:Int));have e:∀x,(bytesOf [80,eo x]).length=2:=λ_=>rfl;unfold mV bare;rw[wrap64 (n:=8+(g.2.2.2.2.2.2.2.length:Int)) (by omega) (by omega)];simp only[pa,pb,ab];rw[aJ (by omega)];cases g.1==6 with|true=>simp only[ai];rw[aJ (by simp only[ak,e];omega),aJ (by simp only[ak,e];omega),aJ (by simp only[ak,e];omega),aJ (by simp only[ak,e];omega),aJ (by simp only[ak,e];omega),aJ (by simp only[ak,e];omega),aJ (by simp only[ak,e];omega)];rw[←TI];simp only[bs2,aG]|false=>simp only[af];rw[aJ (by simp only[ak];omega),aJ (by simp only[ak];omega),aJ (by simp only[ak];omega)]
def RO (a b:Int)(g:cI):Int:=bif (OR (vq a b g.1 ((bare g).length:Int)++bare g)==0)&&(g.1==17) then 65535 else OR (vq a b g.1 ((bare g).length:Int)++bare g)
def RD (a b:Int)(g:cI):Bytes:=Ck (bare g) (bif g.1==6 then 16 else 6) (db (RO a b g))
def GU (a b:Int)(g:cI):Bool:=Bn g&&xX a b g.1 ((bare g).length:Int)
def wI (a b:Int)(g:cI):Bytes×Bool:=bif GU a b g then(RD a b g,true) else([],false)
theorem Cn {g:cI}(h:Bn g=true):g.2.2.2.2.2.2.2.length≤320:=by simp only[Bn,aj,aR,cV]at h;omega
theorem zw (a b:Int)(g:cI):gp a b g=some (wI a b g):=by
 unfold gp wI GU;rw[RJ,ab];cases hg:Bn g with|false=>rfl|true=>?_
 have hb:=Cn hg;have hl:=Jq g;have hp:=IJ a b g.1 ((bare g).length:Int);have:=br g.2.1;have:=br g.2.2.1;have:=cA g.2.2.2.1;have:=cA g.2.2.2.2.1;have:=br g.2.2.2.2.2.2.1;have:=cA 0;have:=br 0;have:=br (8+(g.2.2.2.2.2.2.2.length:Int));have e:∀x,(bytesOf [80,eo x]).length=2:=λ_=>rfl;rw[wrap64 (n:=8+(g.2.2.2.2.2.2.2.length:Int)) (by omega) (by omega)];simp only[ky,je,ab,al,af,a9];rw[aJ (by omega)];cases h6:g.1==6 with
 |true=>
  have hbare:bare g=(((((db g.2.1++db g.2.2.1)++eB g.2.2.2.1)++eB g.2.2.2.2.1)++bytesOf [80,eo g.2.2.2.2.2.1])++db g.2.2.2.2.2.2.1)++eB 0++g.2.2.2.2.2.2.2:=by unfold bare;rw[h6];rfl
  simp only[ai];rw[aJ (by simp only[ak,e];omega),aJ (by simp only[ak,e];omega),aJ (by simp only[ak,e];omega),aJ (by simp only[ak,e];omega),aJ (by simp only[ak,e];omega),aJ (by simp only[ak,e];omega),←hbare,Bo,ab];cases xX a b g.1 ((bare g).length:Int)with|false=>rfl|true=>?_
  simp only[ai,al,af];rw[aJ (by omega),K9 _ (by simp only[ak];omega)];simp only[ab,aZ,Er _ _ _ (show(bare g).length≤1000000000 by omega),RD,RO,h6,ai,cF];cases (OR (vq a b g.1 ((bare g).length:Int)++bare g)==0)&&(g.1==17)<;>rfl
 |false=>
  have hbare:bare g=(((db g.2.1++db g.2.2.1)++db (8+(g.2.2.2.2.2.2.2.length:Int)))++db 0)++g.2.2.2.2.2.2.2:=by unfold bare;rw[h6];rfl
  simp only[af];rw[aJ (by simp only[ak];omega),aJ (by simp only[ak];omega),aJ (by simp only[ak];omega),←hbare,Bo,ab];cases xX a b g.1 ((bare g).length:Int)with|false=>rfl|true=>?_
  simp only[ai,al,af];rw[aJ (by omega),K9 _ (by simp only[ak];omega)];simp only[ab,aZ,Er _ _ _ (show(bare g).length≤1000000000 by omega),RD,RO,h6,af,cF];cases (OR (vq a b g.1 ((bare g).length:Int)++bare g)==0)&&(g.1==17)<;>rfl
theorem yZ (a b:Int)(g:cI):gm a b g=some (wI a b g):=by
 unfold gm wI GU;rw[Rf,ab];cases hg:Bn g with|false=>rfl|true=>?_
 have hb:=Cn hg;have hl:=Jq g;have hp:=IJ a b g.1 ((bare g).length:Int);have hsp:nW g.1=some (bif g.1==6 then 16 else 6):=by unfold nW;rw[aZ]
 have w1:=br 65535;have w2:=br (OR (vq a b g.1 ((bare g).length:Int)++bare g));simp only[UC g (by omega),Pm,ab,al,af,a9];cases xX a b g.1 ((bare g).length:Int)with|false=>rfl|true=>?_
 simp only[ai,al,af];rw[aJ (by omega),Rb _ (by simp only[ak];omega)];simp only[ab,aZ,hsp,pa,KG _ _ _ (show(bare g).length≤1000000000 by omega) (show(db 65535).length≤1000000000 by omega),KG _ _ _ (show(bare g).length≤1000000000 by omega) (show(db (OR (vq a b g.1 ((bare g).length:Int)++bare g))).length≤1000000000 by omega),RD,RO,cF];rw[Bool.and_comm];cases (OR (vq a b g.1 ((bare g).length:Int)++bare g)==0)&&(g.1==17)<;>rfl
theorem YV (a b:Int)(g:cI):(wI a b g).1.length≤340:=by unfold wI;cases h:GU a b g with|false=>exact dM _|true=>simp only[GU,aj]at h;have:=Cn h.1;have:=Jq g;show(Ck _ _ _).length≤340;rw[NB];omega
theorem k5 (a:List Bytes)(h:a.length≤1073741824):du a=some a:=by simp only[du,ff];rw[aJ (by simpa using h)];rfl
theorem pc (a:List Bytes)(h:a.length≤1073741824):eg a=some a:=by simp only[eg];rw[aJ (by simpa using h)];rfl
def AE (x:Bytes)(o:Nat)(t:Bytes):Bytes:=x.take o++(t++x.drop (o+t.length))
theorem S7 {x:Bytes}{o:Nat}{t:Bytes}(h:o+t.length≤x.length):(AE x o t).length=x.length:=by simp only[AE,ak,bf,bd];omega
theorem Ta (x:Bytes)(o:Nat)(t:Bytes):bytesOf (w3 (cr x) o (cr t))=AE x o t:=by
 have e:w3 (cr x) o (cr t)=cr (AE x o t):=by simp only[w3,AE,cr,List.map_append,List.map_take,List.map_drop,cK]
 rw[e,EJ]
theorem Vv {x:Bytes}{o:Nat}{t:Bytes}(h:o+t.length≤x.length):Ck x (o:Int) t=AE x o t:=by unfold Ck dE;rw[ah ⟨by omega,by omega⟩];simp only[ai,ax,AE,aG]
def vG:Nat→List Bytes→Nat→Bytes→List Bytes
 |0,m,_,_=>m
 |n+1,m,a,s=>if s.length=0 then m else
  vG n (m.set (a/128) (AE (m.getD (a/128) []) (a%128) (s.take (128-a%128)))) (a+min (128-a%128) s.length) (s.drop (128-a%128))
def xW (m:List Bytes):Prop:=(∀x∈m,x.length=128)∧m.length≤64
theorem zY {m:List Bytes}:eU m=true↔xW m:=mem_iff
theorem Df {m:List Bytes}{p:Nat}{x:Bytes}(h:xW m)(hx:x.length=128):xW (m.set p x):=by refine⟨λy hy=>?_,by rw[aY];exact h.2⟩;rcases List.mem_or_eq_of_mem_set hy with g|g;exact h.1 y g;rw[g];exact hx
theorem Bw {m:List Bytes}(h:xW m){a:Nat}{s:Bytes}(hs:s.length≠0)(ha:a+s.length≤128*m.length): ∃(hp:a/128<m.length),(m[a/128]'hp).length=128∧(AE (m[a/128]'hp) (a%128) (s.take (128-a%128))).length=128:=by
 have hp:a/128<m.length:=by omega
 have hl:=h.1 _ (aL hp);refine⟨hp,hl,?_⟩;rw[S7 (by rw[bf,hl];omega),hl]
theorem ym:∀(n:Nat){m:List Bytes}{a:Nat}{s:Bytes},xW m→a+s.length≤128*m.length→xW (vG n m a s)∧(vG n m a s).length=m.length
 |0,m,a,s,h,_=>⟨h,rfl⟩
 |n+1,m,a,s,h,ha=>by rw[vG];split;exact⟨h,rfl⟩;rename_i hs;obtain⟨hp,hl,ho⟩:=Bw h hs ha;rw[bM hp];have:=ym n (m:=m.set (a/128) (AE m[a/128] (a%128) (s.take (128-a%128)))) (a:=a+min (128-a%128) s.length) (s:=s.drop (128-a%128)) (Df h ho) (by rw[aY,bd];omega);rw[aY]at this;exact this
theorem Az {R:Type}(K:Int→Bytes→List Bytes→Option R)(K':List Bytes→Option R)(hK:∀a m,K a [] m=K' m):∀(n:Nat)(m:List Bytes)(a:Nat)(s:Bytes)(f:Nat),s.length≤n→n<f→xW m→a+s.length≤128*m.length→
 aH (jq K ([]:List Bytes)) f ((a:Int),s,m)=K' (vG n m a s)
 |n,m,a,s,0,_,hf,_,_=>by omega
 |n,m,a,s,f+1,hs,hf,hm,ha=>by
  rw[aH];simp only[jq];by_cases h0:s.length=0;have:s=[]:=bI h0;subst this;rw[ae (by simp),af,hK];cases n<;>simp[vG];cases n with
  |zero=>omega
  |succ n=>
   obtain⟨hp,hl,ho⟩:=Bw hm h0 ha;have h64:=hm.2;have e1:Int.tdiv (a:Int) 128=((a/128:Nat):Int):=Jc a 128;have e2:Int.tmod (a:Int) 128=((a%128:Nat):Int):=He a 128;rw[ah (by omega),ai,ao (by omega),e1,e2,wrap64 (n:=((a/128:Nat):Int)) (by omega) (by omega),aX hp,ab,aJ (by omega),ao (by omega)];have hsub:sub (cr m[a/128]) ((a%128:Nat):Int) ((cr m[a/128]).length:Int)=some ((cr m[a/128]).drop (a%128)):=by rw[Lk _ _ _ (by rw[B8];omega) (aV _),bp (by rw[bd];exact aV _)]
   rw[hsub,ab,ao (by omega),ab,ab];have hd:((cr m[a/128]).drop (a%128)).length=128-a%128:=by rw[bd,B8,hl]
   rw[hd];have hdr:s.drop (min (128-a%128) s.length)=s.drop (128-a%128):=by by_cases h3:128-a%128≤s.length;rw[fQ h3];rw[Nat.min_eq_right (by omega),bT (aV _),bT (by omega)]
   have hsub2:sub s (((min (128-a%128) s.length:Nat)):Int) ((s.length:Int))=some (s.drop (128-a%128)):=by rw[←hdr];unfold sub;rw[ay (by omega)];simp
   rw[hsub2,ab,wrap64 (n:=(a:Int)+((min (128-a%128) s.length:Nat):Int)) (by omega) (by omega),ax,ax,Ta];rw[vG,ao h0,bM hp,show(a:Int)+((min (128-a%128) s.length:Nat):Int)=((a+min (128-a%128) s.length:Nat):Int) by omega];exact Az K K' hK n _ _ _ f (by rw[bd];omega) (by omega) (Df hm ho) (by rw[aY,bd];omega)
theorem AH {R:Type}(K:Int→Bytes→List Bytes→Option R)(K':List Bytes→Option R)(hK:∀a m,K a [] m=K' m):∀(n:Nat)(m:List Bytes)(a:Nat)(s:Bytes)(f:Nat),s.length≤n→n<f→xW m→a+s.length≤128*m.length→
 aH (jw K ([]:List Bytes)) f ((a:Int),s,m)=K' (vG n m a s)
 |n,m,a,s,0,_,hf,_,_=>by omega
 |n,m,a,s,f+1,hs,hf,hm,ha=>by
  rw[aH];simp only[jw];by_cases h0:s.length=0;have:s=[]:=bI h0;subst this;rw[ae (by simp),af,hK];cases n<;>simp[vG];cases n with
  |zero=>omega
  |succ n=>
   obtain⟨hp,hl,ho⟩:=Bw hm h0 ha;have h64:=hm.2;have e1:Int.tdiv (a:Int) 128=((a/128:Nat):Int):=Jc a 128;have e2:Int.tmod (a:Int) 128=((a%128:Nat):Int):=He a 128;rw[ah (by omega),ai,ao (by omega),ao (by omega),ao (by omega),e1,e2,wrap64 (n:=((a/128:Nat):Int)) (by omega) (by omega),wrap64 (n:=128-((a%128:Nat):Int)) (by omega) (by omega),aX hp,ab];obtain⟨c,hc⟩:∃c,min (128-a%128) s.length=c:=⟨_,rfl⟩
   rw[show(if 128-((a%128:Nat):Int)<(s.length:Int) then 128-((a%128:Nat):Int) else(s.length:Int))=(c:Int) by split<;>omega];have ht:s.take c=s.take (128-a%128):=by by_cases h3:128-a%128≤s.length;rw[←hc,fQ h3];rw[←hc,Nat.min_eq_right (by omega),bp (aV _),bp (by omega)]
   have hdr:s.drop c=s.drop (128-a%128):=by by_cases h3:128-a%128≤s.length;rw[←hc,fQ h3];rw[←hc,Nat.min_eq_right (by omega),bT (aV _),bT (by omega)]
   have hs1:sub s 0 (c:Int)=some (s.take (128-a%128)):=by rw[←ht];unfold sub;rw[ay (by omega)];simp
   have hs2:sub s (c:Int) (s.length:Int)=some (s.drop (128-a%128)):=by rw[←hdr];unfold sub;rw[ay (by omega)];simp
   rw[hs1,ab,Er _ _ _ (by omega),ab,ab,ab,hs2,ab,Vv (by rw[bf,hl];omega),wrap64 (n:=(a:Int)+(c:Int)) (by omega) (by omega),ax];rw[vG,ao h0,bM hp,hc,show(a:Int)+(c:Int)=((a+c:Nat):Int) by omega];exact AH K K' hK n _ _ _ f (by rw[bd];omega) (by omega) (Df hm ho) (by rw[aY,bd];omega)
def rA (m:List Bytes)(a:Int)(s:Bytes):List Bytes×Bool:=bif dY m a (s.length:Int) then(vG s.length m a.toNat s,true) else(m,false)
theorem Pq (m:List Bytes)(a:Int)(s:Bytes)(h:m.length≤1000000000)(hs:s.length≤1000000000):mU m a s=some (rA m a s):=by
 have hfu:=dI;unfold mU rA;rw[k5 m (by omega),ab,za m _ _ h,ab];cases hw:dY m a (s.length:Int)with|false=>rfl|true=>?_
 simp only[dY,aj,aK]at hw;obtain⟨a,rfl⟩:=aM hw.2.2.1;simp only[al,af,ai,ax];exact Az _ (λm=>some (m,true)) (λ_ _=>rfl) s.length m a s fuel (aV _) (by omega) (zY.1 hw.1) (by omega)
theorem Qc (m:List Bytes)(a:Int)(s:Bytes)(h:m.length≤1000000000)(hs:s.length≤1000000000):nw m a s=some (rA m a s):=by
 have hfu:=dI;unfold nw rA;rw[pc m (by omega),ab,zy m _ _ h,ab];cases hw:dY m a (s.length:Int)with|false=>rfl|true=>?_
 simp only[dY,aj,aK]at hw;obtain⟨a,rfl⟩:=aM hw.2.2.1;simp only[al,af,ai,ax];exact AH _ (λm=>some (m,true)) (λ_ _=>rfl) s.length m a s fuel (aV _) (by omega) (zY.1 hw.1) (by omega)
theorem zF (m:List Bytes)(a:Int)(s:Bytes):(rA m a s).1.length=m.length:=by
 unfold rA;cases hw:dY m a (s.length:Int)with|false=>rfl|true=>?_
 simp only[dY,aj,aK]at hw;exact(ym s.length (zY.1 hw.1) (by omega)).2
def KY:List (Int×Int)→List Bytes→Bytes→List Bytes
 |[],m,_=>m
 |p::q,m,s=>KY q (rA m p.1 (s.take p.2.toNat)).1 (s.drop p.2.toNat)
theorem NC:∀(q:List (Int×Int))(m:List Bytes)(s:Bytes),(KY q m s).length=m.length
 |[],m,s=>rfl
 |p::q,m,s=>by rw[KY,NC q,zF]
def Ef (q:List (Int×Int)):Int:=(q.map (·.2)).sum
theorem RP:∀(q:List (Int×Int)),(∀p∈q,0≤p.2)→0≤Ef q
 |[],_=>Int.le_refl _
 |p::q,h=>by have:=RP q (λx hx=>h x (by simp[hx]));have:=h p (by simp);simp only[Ef,cq,List.sum_cons]at*;omega
theorem NI {p:Int×Int}{q:List (Int×Int)}(hc:∀x∈p::q,0≤x.2){s:Bytes}(hs:(s.length:Int)=Ef (p::q)):0≤p.2∧p.2≤(s.length:Int)∧((s.drop p.2.toNat).length:Int)=Ef q:=by
 have h1:=hc p (by simp);have h2:=RP q (λx hx=>hc x (by simp[hx]));have h3:Ef (p::q)=p.2+Ef q:=by simp[Ef]
 rw[h3]at hs;refine⟨h1,by omega,?_⟩;rw[bd];omega
theorem I9 {s:Bytes}{c:Int}(h0:0≤c)(h1:c≤(s.length:Int)):sub s 0 c=some (s.take c.toNat):=by unfold sub;rw[ay (by omega)];simp
theorem N7 {s:Bytes}{c:Int}(h0:0≤c)(h1:c≤(s.length:Int)):sub s c (s.length:Int)=some (s.drop c.toNat):=by unfold sub;rw[ay (by omega)];simp
theorem DD (K:Bytes→Int→List Bytes→Option (List Bytes×Bool))(hK:∀s i m,K s i m=some (m,true)):∀(rest pre:List (Int×Int))(m:List Bytes)(s:Bytes)(f:Nat),rest.length<f→pre.length+rest.length≤1000000→(∀x∈rest,0≤x.2)→(s.length:Int)=Ef rest→m.length≤1000000000→s.length≤1000000→
 aH (sZ K (pre++rest) ((pre++rest).length:Int) ([]:List Bytes)) f (s,(pre.length:Int),m)=some (KY rest m s,true)
 |rest,pre,m,s,0,hf,_,_,_,_,_=>by omega
 |[],pre,m,s,f+1,_,_,_,_,_,_=>by rw[aH];simp only[sZ];rw[ae (by simp),af,hK];rfl
 |p::q,pre,m,s,f+1,hf,hn,hc,hs,hm,hl=>by
  obtain⟨h1,h2,h3⟩:=NI hc hs;simp only[bj]at hf hn;have hi:pre.length<(pre++p::q).length:=by simp
  have hp:(pre++p::q)[pre.length]=p:=by simp
  rw[aH];simp only[sZ];rw[ah (by simp;omega),aX hi,hp,wrap64 (by omega) (by omega)];simp only[ai,ab,I9 h1 h2,N7 h1 h2,Pq m _ _ hm (show(s.take p.2.toNat).length≤1000000000 by rw[bf];omega)];have key:=DD K hK q (pre++[p]) (rA m p.1 (s.take p.2.toNat)).1 (s.drop p.2.toNat) f (by omega) (by simp;omega) (λx hx=>hc x (by simp[hx])) h3 (by rw[zF];exact hm) (by rw[bd];omega);have el:((pre++[p]).length:Int)=(pre.length:Int)+1:=by simp
  rw[aG,List.singleton_append,el]at key;rw[KY];exact key
theorem DP (K:Bytes→Int→List Bytes→Option (List Bytes×Bool))(hK:∀s i m,K s i m=some (m,true)):∀(rest pre:List (Int×Int))(m:List Bytes)(s:Bytes)(f:Nat),rest.length<f→pre.length+rest.length≤1000000→(∀x∈rest,0≤x.2)→(s.length:Int)=Ef rest→m.length≤1000000000→s.length≤1000000→
 aH (jU K ((pre++rest).map (·.1)) ((pre++rest).map (·.2)) ([]:List Bytes)) f (s,(pre.length:Int),m)=some (KY rest m s,true)
 |rest,pre,m,s,0,hf,_,_,_,_,_=>by omega
 |[],pre,m,s,f+1,_,_,_,_,_,_=>by rw[aH];simp only[jU];rw[ae (by simp),af,hK];rfl
 |p::q,pre,m,s,f+1,hf,hn,hc,hs,hm,hl=>by
  obtain⟨h1,h2,h3⟩:=NI hc hs;simp only[bj]at hf hn;have hi:pre.length<(pre++p::q).length:=by simp
  have hp:(pre++p::q)[pre.length]=p:=by simp
  have i1:idx ((pre++p::q).map (·.1)) (pre.length:Int)=some p.1:=by rw[aX (by simp),List.getElem_map,hp]
  have i2:idx ((pre++p::q).map (·.2)) (pre.length:Int)=some p.2:=by rw[aX (by simp),List.getElem_map,hp]
  rw[aH];simp only[jU];rw[ah (by simp;omega),i1,i2,wrap64 (by omega) (by omega)];simp only[ai,ab,I9 h1 h2,N7 h1 h2,Qc m _ _ hm (show(s.take p.2.toNat).length≤1000000000 by rw[bf];omega)];have key:=DP K hK q (pre++[p]) (rA m p.1 (s.take p.2.toNat)).1 (s.drop p.2.toNat) f (by omega) (by simp;omega) (λx hx=>hc x (by simp[hx])) h3 (by rw[zF];exact hm) (by rw[bd];omega);have el:((pre++[p]).length:Int)=(pre.length:Int)+1:=by simp
  rw[aG,List.singleton_append,el]at key;rw[KY];exact key
theorem GJ (l:List aN)(m:List Bytes)(d:Int)(w:Bool):∀(n a r:Nat)(q:List (Int×Int)),r≤n→kv l m d w n a r=some q→Ef q=(r:Int)∧(∀p∈q,0≤p.2)∧q.length≤n
 |0,a,r,q,hr,h=>by simp only[kv,aS]at h;subst h;exact⟨by show(0:Int)=_;omega,by simp,by simp⟩
 |n+1,a,r,q,hr,h=>by simp only[kv]at h;split at h;simp only[aS]at h;subst h;exact⟨by show(0:Int)=_;omega,by simp,by simp⟩;split at h;simp only[Option.map_eq_some_iff]at h;obtain⟨q',h1,rfl⟩:=h;obtain⟨i1,i2,i3⟩:=GJ l m d w n _ _ q' (by omega) h1;refine⟨?_,?_,by simp only[bj];omega⟩;simp only[Ef,cq,List.sum_cons]at i1⊢;rw[i1];omega;intro p hp;rcases bE.1 hp with rfl|hp;show(0:Int)≤((min (128-a%128) r:Nat):Int);omega;exact i2 p hp;cases h
theorem IQ (l:List aN)(m:List Bytes)(d a n:Int)(w:Bool)(h:(kf l m d a n w).2=true):Ef (kf l m d a n w).1=n∧(∀p∈(kf l m d a n w).1,0≤p.2)∧(kf l m d a n w).1.length≤4096∧n≤4096:=by
 unfold kf at h⊢;cases hB:eE l&&(eU m&&cx n 0 4096)with|false=>rw[hB]at h;simp at h|true=>?_
 rw[hB]at h;simp only[aj,bW]at hB;simp only[ai]at h⊢;cases h0:n==0 with
 |true=>
  have:n=0:=by simpa using h0
  subst this;exact⟨rfl,by simp,by simp,by omega⟩
 |false=>rw[h0]at h;simp only[af]at h⊢;cases ha:decide (a<0)with|true=>rw[ha]at h;simp at h|false=>rw[ha]at h;simp only[af]at h⊢;cases hq:kv l m d w n.toNat a.toNat n.toNat with|none=>rw[hq]at h;cases h|some q=>obtain⟨i1,i2,i3⟩:=GJ l m d w _ _ _ q (aV _) hq;exact⟨by simp only;rw[i1];omega,i2,by simp only;omega,by omega⟩
def pH (l:List aN)(m:List Bytes)(d a:Int)(s:Bytes)(w:Bool):List Bytes×Bool:=
 bif (kf l m d a (s.length:Int) w).2 then(KY (kf l m d a (s.length:Int) w).1 m s,true) else(m,false)
theorem w5 (l:List aN)(m:List Bytes)(d a:Int)(s:Bytes)(w:Bool):(pH l m d a s w).1.length=m.length:=by unfold pH;cases (kf l m d a (s.length:Int) w).2 with|false=>rfl|true=>exact NC _ _ _
theorem UT (l:List aN)(m:List Bytes)(d a:Int)(s:Bytes)(w:Bool)(hl:l.length≤1000000000)(hm:m.length≤1000000000)(ha:a≤9223372036854775807):B4 l m d a s w=some (pH l m d a s w):=by
 have hfu:=dI;unfold B4 pH;rw[k5 m (by omega),ab,MV l m d a _ w hl hm ha,ab];have hS:=IQ l m d a (s.length:Int) w;generalize kf l m d a (s.length:Int) w=r at hS⊢;cases hr:r.2 with|false=>rfl|true=>?_
 obtain⟨h1,h2,h3,h4⟩:=hS hr;simp only[al,af,ai];exact DD _ (λ_ _ _=>rfl) r.1 [] m s fuel (by omega) (by simp;omega) h2 h1.symm hm (by omega)
theorem Cr (l:List aN)(m:List Bytes)(d a:Int)(s:Bytes)(hl:l.length≤1000000000)(hm:m.length≤1000000000)(ha:a≤9223372036854775807):oh l m d a s=some (pH l m d a s true):=by
 have hfu:=dI;unfold oh pH;rw[I0 l m d a _ true hl hm ha,ab,pc m (by omega),ab];have hS:=IQ l m d a (s.length:Int) true;generalize kf l m d a (s.length:Int) true=r at hS⊢;cases hr:r.2 with|false=>rfl|true=>?_
 obtain⟨h1,h2,h3,h4⟩:=hS hr;simp only[al,af,ai];exact DP _ (λ_ _ _=>rfl) r.1 [] m s fuel (by omega) (by simp;omega) h2 h1.symm hm (by omega)
theorem BU (l:List aN)(m:List Bytes)(d a:Int)(s:Bytes)(hl:l.length≤1000000000)(hm:m.length≤1000000000)(ha:a≤9223372036854775807):nP l m d a s=some (pH l m d a s true):=by rw[nP,UT l m d a s true hl hm ha];rfl
def yR (d:Int×Int×Int×Int×Int×Int):Bool:=cx d.1 0 3&&(cx d.2.1 0 3&&(cx d.2.2.1 0 65535&&(cx d.2.2.2.2.1 0 65535&&(cx d.2.2.2.2.2 0 65535&&cx d.2.2.2.1 0 4294967295))))
theorem UH (d:Int×Int×Int×Int×Int×Int):vN d=some (yR d):=by simp only[vN,cC,ab,yR];cases cx d.1 0 3<;>cases cx d.2.1 0 3<;>cases cx d.2.2.1 0 65535<;>cases cx d.2.2.2.2.1 0 65535<;>cases cx d.2.2.2.2.2 0 65535<;>rfl
theorem VF (d:Int×Int×Int×Int×Int×Int):wm d=some (yR d):=by simp only[wm,cc,ab,yR];cases cx d.1 0 3<;>cases cx d.2.1 0 3<;>cases cx d.2.2.1 0 65535<;>cases cx d.2.2.2.2.1 0 65535<;>cases cx d.2.2.2.2.2 0 65535<;>rfl
def Ks (d:Int×Int×Int×Int×Int×Int):Bytes:=
 bif yR d then((((bytesOf [eo d.1,eo d.2.1]++db d.2.2.1)++eB d.2.2.2.1)++db d.2.2.2.2.1)++db d.2.2.2.2.2)++eB 0 else []
theorem RH (d:Int×Int×Int×Int×Int×Int):oM d=some (Ks d):=by
 have h1:=br d.2.2.1;have h2:=cA d.2.2.2.1;have h3:=br d.2.2.2.2.1;have h4:=br d.2.2.2.2.2;have h5:=cA 0;have h0:(bytesOf [eo d.1,eo d.2.1]).length=2:=rfl;unfold oM Ks;rw[VF,ab];cases yR d with|false=>rfl|true=>?_
 simp only[al,af,ai,ky,je,ab];rw[aJ (by omega),aJ (by simp only[ak];omega),aJ (by simp only[ak];omega),aJ (by simp only[ak];omega),aJ (by simp only[ak];omega)]
theorem Yq (d:Int×Int×Int×Int×Int×Int):oA d=some (Ks d):=by
 have h1:=br d.2.2.1;have h2:=cA d.2.2.2.1;have h3:=br d.2.2.2.2.1;have h4:=br d.2.2.2.2.2;have h5:=cA 0;have h0:(bytesOf [eo d.1,eo d.2.1]).length=2:=rfl;unfold oA Ks;rw[UH,ab];cases yR d with|false=>rfl|true=>?_
 simp only[al,af,ai,pa,pb,ab];rw[aJ (by omega),aJ (by simp only[ak];omega),aJ (by simp only[ak];omega),aJ (by simp only[ak];omega),aJ (by simp only[ak];omega)]
def vz (r:Int×Int×Int×Int)(c:Int):Int:=bif !pE r||decide (c<0) then-1 else r.1+Int.tmod c r.2.1*16
theorem En {r:Int×Int×Int×Int}(h:pE r=true):0≤r.1∧r.1≤130944∧(r.2.1=2∨r.2.1=4∨r.2.1=8∨r.2.1=16)∧0≤r.2.2.1∧r.2.2.1≤2*r.2.1-1∧0≤r.2.2.2∧r.2.2.2≤2*r.2.1-1:=by simp only[pE,aj,bW]at h;exact⟨h.1.1,h.1.2,jb.1 h.2.1,h.2.2.1.1,h.2.2.1.2,h.2.2.2.1.1,h.2.2.2.1.2⟩
theorem Co (r:Int×Int×Int×Int)(c:Int): -1≤vz r c∧vz r c≤200000:=by
 unfold vz;cases hc: !pE r||decide (c<0)with
 |true=>exact⟨Int.le_refl _,by simp⟩
 |false=>
  simp only[ei,fP,cV]at hc;have h:=En hc.1;have h2:0≤Int.tmod c r.2.1∧Int.tmod c r.2.1<r.2.1:=by rw[cU (by omega)];exact⟨dB _ (by omega),cG _ (by omega)⟩
  simp only[af];omega
theorem Tg {l:List aN}{m:List Bytes}{d a:Int}{s:Bytes}{w:Bool}(h:(pH l m d a s w).2=false):(pH l m d a s w).1=m:=by unfold pH at h⊢;cases hr:(kf l m d a (s.length:Int) w).2 with|false=>rfl|true=>rw[hr]at h;cases h
theorem I3 (r:Int×Int×Int×Int)(c:Int):nr r c=some (vz r c):=by
 have hin:=Co r c;unfold nr;rw[zv,ab];unfold vz at hin⊢;cases hb:pE r with|false=>rfl|true=>?_
 have h:=En hb;by_cases hc:c<0;rw[ah hc];rfl;rw[hb,ae hc]at hin;rw[ae hc];have h2:0≤Int.tmod c r.2.1∧Int.tmod c r.2.1<r.2.1:=by rw[cU (by omega)];exact⟨dB _ (by omega),cG _ (by omega)⟩
 simp only[al,af,ab,bK]at hin⊢;rw[ao (by omega),wrap64 (n:=16*Int.tmod c r.2.1) (by omega) (by omega),wrap64 (by omega) (by omega)];congr 1;omega
theorem SE (r:Int×Int×Int×Int)(c:Int):mP r c=some (vz r c):=by
 have hin:=Co r c;unfold mP;rw[B1,ab];unfold vz at hin⊢;cases hb:pE r with|false=>rfl|true=>?_
 have h:=En hb;by_cases hc:c<0;rw[ah hc];rfl;rw[hb,ae hc]at hin;rw[ae hc];have h2:0≤Int.tmod c r.2.1∧Int.tmod c r.2.1<r.2.1:=by rw[cU (by omega)];exact⟨dB _ (by omega),cG _ (by omega)⟩
 simp only[al,af,ab,bK]at hin⊢;rw[ao (by omega),wrap64 (n:=Int.tmod c r.2.1*16) (by omega) (by omega),wrap64 (by omega) (by omega)]
theorem GI (l:List aN)(m:List Bytes)(d:Int)(w:Bool):∀(n a r:Nat)(q:List (Int×Int)),kv l m d w n a r=some q→q.length≤n
 |0,a,r,q,h=>by simp only[kv,aS]at h;subst h;simp
 |n+1,a,r,q,h=>by simp only[kv]at h;split at h;simp only[aS]at h;subst h;simp;split at h;simp only[Option.map_eq_some_iff]at h;obtain⟨q',h1,rfl⟩:=h;have:=GI l m d w n _ _ q' h1;simp only[bj];omega;cases h
theorem Dk (l:List aN)(m:List Bytes)(d a n:Int)(w:Bool):(kf l m d a n w).1.length≤4096:=by
 unfold kf;cases hB:eE l&&(eU m&&cx n 0 4096)with|false=>simp|true=>?_
 simp only[aj,bW]at hB;simp only[ai];cases n==0 with|true=>simp|false=>?_
 cases decide (a<0)with|true=>simp|false=>?_
 simp only[af];split;rename_i q hq;have:=GI _ _ _ _ _ _ _ _ hq;show q.length≤4096;omega;simp
def lb (m:List Bytes)(p:Int×Int):Bytes:=bif dY m p.1 p.2 then tP m p.1.toNat p.2.toNat else []
theorem wH (m:List Bytes)(p:Int×Int):(lb m p).length≤8192:=by unfold lb;cases h:dY m p.1 p.2 with|false=>simp|true=>simp only[dY,aj,aK]at h;have:=Vy m p.1.toNat p.2.toNat;have:=(mem_iff.1 h.1).2;simp only[ai];omega
theorem qP (m:List Bytes):∀q:List (Int×Int),(q.flatMap (lb m)).length≤8192*q.length
 |[]=>by simp
 |p::q=>by have:=qP m q;have:=wH m p;simp only[List.flatMap_cons,ak,bj];omega
def FQ (l:List aN)(m:List Bytes)(d a n:Int):Bytes×Bool:=
 bif (kf l m d a n false).2 then((kf l m d a n false).1.flatMap (lb m),true) else([],false)
theorem BM {α β:Type}(g:α→List β)(l:List α)(i:Nat)(hi:i<l.length):(l.take (i+1)).flatMap g=(l.take i).flatMap g++g l[i]:=by rw[bh hi,List.flatMap_append];simp
theorem MP (l:List aN)(m:List Bytes)(d a n:Int)(hl:l.length≤1000000000)(hm:m.length≤1000000000)(ha:a≤9223372036854775807):tV l m d a n=some (FQ l m d a n):=by
 unfold tV FQ;rw[MV l m d a n false hl hm ha,ab];have hL:=Dk l m d a n false;generalize kf l m d a n false=r at hL⊢;cases hr:r.2 with|false=>rfl|true=>?_
 simp only[al,af,ai];refine(de (λi=>((r.1.take i).flatMap (lb m),(i:Int))) r.1.length (by omega) (λi nx hi=>?_) (λnx=>?_));simp only[oz];rw[ah (by omega),aX hi,wrap64 (by omega) (by omega)];have e:kL m r.1[i].1 r.1[i].2=some (lb m r.1[i],dY m r.1[i].1 r.1[i].2):=by rw[UU m _ _ hm,lb];cases dY m r.1[i].1 r.1[i].2<;>rfl
 have h1:=qP m (r.1.take i);have h2:=wH m r.1[i];simp only[ai,ab,e];rw[aJ (by rw[bf]at h1;omega),←BM];rfl;simp only[oz];rw[ae (by omega),cn];rfl
theorem DM (l:List aN)(m:List Bytes)(d a n:Int)(hl:l.length≤1000000000)(hm:m.length≤1000000000)(ha:a≤9223372036854775807):uo l m d a n=some (FQ l m d a n):=by
 unfold uo FQ;rw[I0 l m d a n false hl hm ha,ab];have hL:=Dk l m d a n false;generalize kf l m d a n false=r at hL⊢;cases hr:r.2 with|false=>rfl|true=>?_
 simp only[al,af,ai];refine(de (λi=>((r.1.take i).flatMap (lb m),(i:Int))) r.1.length (by omega) (λi nx hi=>?_) (λnx=>?_));simp only[oL];have i1:idx (r.1.map (·.1)) (i:Int)=some r.1[i].1:=by rw[aX (by simpa using hi),List.getElem_map]
 have i2:idx (r.1.map (·.2)) (i:Int)=some r.1[i].2:=by rw[aX (by simpa using hi),List.getElem_map]
 rw[ah (by rw[cK];omega),i1,i2,wrap64 (by omega) (by omega)];have e:kU m r.1[i].1 r.1[i].2=some (lb m r.1[i],dY m r.1[i].1 r.1[i].2):=by rw[VR m _ _ hm,lb];cases dY m r.1[i].1 r.1[i].2<;>rfl
 have h1:=qP m (r.1.take i);have h2:=wH m r.1[i];simp only[ai,ab,e];rw[aJ (by rw[bf]at h1;omega),←BM];rfl;simp only[oL];rw[ae (by rw[cK];omega),cn];rfl
theorem T5 (l:List aN)(m:List Bytes)(d a n:Int):(FQ l m d a n).1.length≤100000000:=by have hL:=Dk l m d a n false;have h1:=qP m (kf l m d a n false).1;unfold FQ;cases (kf l m d a n false).2 with|false=>simp|true=>simp only[ai];omega
def vp (q:Int×Int×Int):Int:=bif decide (q.2.2<q.2.1) then 1 else 0
theorem Sz (q:Int×Int×Int):ub q=some (vp q):=by unfold ub vp;cases decide (q.2.2<q.2.1)<;>rfl
theorem oe {q:Int×Int×Int}(h:eP q=true):0≤q.1∧q.1≤130944∧(q.2.1=2∨q.2.1=4∨q.2.1=8∨q.2.1=16)∧0≤q.2.2∧q.2.2≤2*q.2.1-1:=by simp only[eP,aj,bW]at h;obtain⟨h1,h2,h3⟩:=h;rw[Aa h2]at h3;exact⟨h1.1,h1.2,jb.1 h2,h3⟩
theorem Tu (q:Int×Int×Int)(h:eP q=true):sQ q=some (vp q):=by
 obtain⟨_,_,h3,h4,h5⟩:=oe h;have e:Int.tdiv q.2.2 q.2.1=if q.2.2<q.2.1 then 0 else 1:=by rw[Int.tdiv_eq_ediv_of_nonneg h4];split;exact Int.ediv_eq_zero_of_lt h4 (by assumption);rcases h3 with g|g|g|g<;>(rw[g];omega)
 unfold sQ vp;rw[ao (by omega),e];by_cases hq:q.2.2<q.2.1;rw[ay hq,ah hq];rfl;rw[ao hq,ae hq];rfl
def vA (q:Int×Int×Int):Int:=q.1+Int.tmod q.2.2 q.2.1*16
theorem RU {a b:Int}(h:0≤a)(hb:0<b):0≤Int.tmod a b∧Int.tmod a b<b:=by rw[cU h];exact⟨dB _ (by omega),cG _ hb⟩
theorem K7 {q:Int×Int×Int}(h:eP q=true):0≤Int.tmod q.2.2 q.2.1∧Int.tmod q.2.2 q.2.1<16:=by obtain⟨_,_,h3,h4,h5⟩:=oe h;have:=RU h4 (show 0<q.2.1 by omega);omega
theorem SF (q:Int×Int×Int)(h:eP q=true):m6 q=some (vA q):=by obtain⟨h1,h2,h3,h4,h5⟩:=oe h;have:=K7 h;unfold m6 vA;rw[ao (by omega),wrap64 (n:=Int.tmod q.2.2 q.2.1*16) (by omega) (by omega),wrap64 (by omega) (by omega)]
def EF (s:Bytes)(i:Nat):Nat:=bV s (i/8)/2^(7-i%8)%2
theorem Bz (s:Bytes)(i:Nat):EF s i<2:=Nat.mod_lt _ (by omega)
theorem LG (b k:Nat)(hb:b<256)(hk:k≤7):aq (BitVec.toNat (BitVec.ofInt (IntKind.bits .i64) (aq (Int.fdiv (b:Int) ((2^k:Nat):Int)))&&&BitVec.ofInt (IntKind.bits .i64) 1))=((b/2^k%2:Nat):Int):=by have e:Int.fdiv (b:Int) ((2^k:Nat):Int)=((b/2^k:Nat):Int):=(Int.ofNat_fdiv b (2^k)).symm;have h1:b/2^k≤b:=Nat.div_le_self _ _;rw[e,fE (n:=b/2^k) (by omega)];have:=Zy (b/2^k) 1 (by omega) (by omega);rw[show((1:Nat):Int)=1 from rfl]at this;rw[this,Nat.and_one_is_mod];exact fE (by omega)
theorem Q9 (s:Bytes)(i:Nat)(hi:i/8<s.length)(h:s.length≤1000000000):sY s (i:Int)=some ((EF s i:Nat):Int):=by
 have e1:Int.tdiv (i:Int) 8=((i/8:Nat):Int):=(Int.ofNat_tdiv i 8).symm;have e2:Int.tmod (i:Int) 8=((i%8:Nat):Int):=(Int.ofNat_tmod i 8).symm;unfold sY;rw[ao (by omega),e1,wrap64 (n:=((i/8:Nat):Int)) (by omega) (by omega),aX hi,ab,ao (by omega),e2,wrap64 (n:=7-((i%8:Nat):Int)) (by omega) (by omega),ao (by omega)];have e3:(2:Int)^(min (Int.toNat (7-((i%8:Nat):Int))) (IntKind.bits .u8))=((2^(7-i%8):Nat):Int):=by rw[show min (Int.toNat (7-((i%8:Nat):Int))) (IntKind.bits .u8)=7-i%8 from by show min _ 8=_;omega];push_cast;rfl
 rw[e3,LG _ _ (iy _) (by omega),EF,bV,bM hi]
theorem RF (s:Bytes)(i:Nat)(hi:i/8<s.length)(h:s.length≤1000000000):tp s (i:Int)=some ((EF s i:Nat):Int):=by
 have e1:Int.tdiv (i:Int) 8=((i/8:Nat):Int):=(Int.ofNat_tdiv i 8).symm;have e2:Int.tmod (i:Int) 8=((i%8:Nat):Int):=(Int.ofNat_tmod i 8).symm;have hb:=iy s[i/8];unfold tp;rw[ao (by omega),e1,wrap64 (n:=((i/8:Nat):Int)) (by omega) (by omega),aX hi,ab,ao (by omega),e2,wrap64 (n:=7-((i%8:Nat):Int)) (by omega) (by omega),ao (by omega),fE (n:=s[i/8].toNat) (by omega)];have e3:(2:Int)^(min (Int.toNat (7-((i%8:Nat):Int))) (IntKind.bits .i64))=((2^(7-i%8):Nat):Int):=by rw[show min (Int.toNat (7-((i%8:Nat):Int))) (IntKind.bits .i64)=7-i%8 from by show min _ 64=_;omega];push_cast;rfl
 have e4:Int.fdiv ((s[i/8].toNat:Nat):Int) ((2^(7-i%8):Nat):Int)=((s[i/8].toNat/2^(7-i%8):Nat):Int):=(Int.ofNat_fdiv _ _).symm;have h1:s[i/8].toNat/2^(7-i%8)≤s[i/8].toNat:=Nat.div_le_self _ _;have key:=LG s[i/8].toNat (7-i%8) hb (by omega);rw[e4,fE (n:=s[i/8].toNat/2^(7-i%8)) (by omega)]at key;rw[e3,e4,key,EF,bV,bM hi]
def Qt (s:Bytes)(a:Nat):Nat→Nat
 |0=>0
 |j+1=>2*Qt s a j+EF s (a+j)
theorem XX (s:Bytes)(a:Nat):∀j,Qt s a j<2^j
 |0=>by simp[Qt]
 |j+1=>by have:=XX s a j;have:=Bz s (a+j);rw[Qt,Nat.pow_succ];omega
theorem Hn (s:Bytes)(a j:Nat)(hj:j≤32):Qt s a j<4294967296:=Nat.lt_of_lt_of_le (XX s a j) (Nat.pow_le_pow_right (n:=2) (by omega) hj)
def Ou (s:Bytes)(a:Int):Int:=bif ((s.length:Int) !=16)|| !cx a 0 96 then-1 else((Qt s a.toNat 32:Nat):Int)
theorem Yy (s:Bytes)(a:Int):pU s a=some (Ou s a):=by
 unfold pU Ou;rw[cC];cases hs:(s.length:Int) !=16 with|true=>rfl|false=>?_
 cases ha:cx a 0 96 with|false=>rfl|true=>?_
 have h1:=bW.1 ha;have h2:s.length=16:=by simp at hs;omega
 obtain⟨a,rfl⟩:=aM h1.1;simp only[af,ab,al,bK,ax];refine de (λi=>(((Qt s a i:Nat):Int),((a+i:Nat):Int))) 32 (by omega) (λi nx hi=>?_) (λnx=>?_);have hw:=Hn s a i (by omega);have hb:=Bz s (a+i);simp only[lx];rw[wrap64 (n:=(a:Int)+32) (by omega) (by omega),ah (by omega),ai,ao (by omega),Q9 s (a+i) (by omega) (by omega),ab,wrap64 (n:=((a+i:Nat):Int)+1) (by omega) (by omega)];have e1:aq (((Qt s a i:Nat):Int)*2^(min (Int.toNat 1) (IntKind.bits .i64)))=((2^1*Qt s a i:Nat):Int):=by have:(2:Int)^(min (Int.toNat 1) (IntKind.bits .i64))=2:=rfl;rw[this,wrap64 (by omega) (by omega)];omega
 rw[e1,Bk _ _ _ (by omega) (by omega)];rw[show(((a+i:Nat):Int)+1)=((a+(i+1):Nat):Int) by omega];rfl;simp only[lx];rw[wrap64 (n:=(a:Int)+32) (by omega) (by omega),ae (by omega)];rfl
theorem Zb (s:Bytes)(a:Int):qY s a=some (Ou s a):=by
 unfold qY Ou;rw[cc];cases hs:(s.length:Int) !=16 with|true=>rfl|false=>?_
 cases ha:cx a 0 96 with|false=>rfl|true=>?_
 have h1:=bW.1 ha;have h2:s.length=16:=by simp at hs;omega
 obtain⟨a,rfl⟩:=aM h1.1;simp only[af,ab,al,bK,ax];refine de (λi=>(((Qt s a i:Nat):Int),(i:Int))) 32 (by omega) (λi nx hi=>?_) (λnx=>?_);have hw:=Hn s a i (by omega);have hb:=Bz s (a+i);simp only[lK];rw[ah (by omega),ai,wrap64 (n:=(a:Int)+(i:Int)) (by omega) (by omega),show(a:Int)+(i:Int)=((a+i:Nat):Int) by omega,RF s (a+i) (by omega) (by omega),ab,wrap64 (n:=(i:Int)+1) (by omega) (by omega)];rw[wrap64 (n:=2*((Qt s a i:Nat):Int)) (by omega) (by omega),wrap64 (by omega) (by omega),Qt];congr 1;simp only[lK];rw[ae (by omega)];rfl
def Ax (s v:Bytes):Nat→Nat
 |0=>0
 |i+1=>if EF v i=1 then Ax s v i^^^Qt s i 32 else Ax s v i
theorem F9 (s v:Bytes):∀i,Ax s v i<4294967296
 |0=>by simp[Ax]
 |i+1=>by have:=F9 s v i;rw[Ax];split;exact wL this (Hn s i 32 (by omega));exact this
def pN (s v:Bytes):Int:=bif ((s.length:Int) !=16)||decide ((v.length:Int)>12) then-1 else((Ax s v (8*v.length):Nat):Int)
theorem UJ (s v:Bytes):pR s v=some (pN s v):=by
 unfold pR pN;cases hs:(s.length:Int) !=16 with|true=>rfl|false=>?_
 cases hv:decide ((v.length:Int)>12)with|true=>rfl|false=>?_
 have h2:s.length=16:=by simp at hs;omega
 have h3:v.length≤12:=by simp at hv;omega
 simp only[af,ab,bK];refine de (λi=>(((Ax s v i:Nat):Int),(i:Int))) (8*v.length) (by omega) (λi nx hi=>?_) (λnx=>?_);have hw:=Hn s i 32 (by omega);have hh:=F9 s v i;have hb:=Bz v i;have eW:Ou s (i:Int)=((Qt s i 32:Nat):Int):=by unfold Ou;rw[hs,bW.2 (show(0:Int)≤(i:Int)∧(i:Int)≤96 by omega)];rfl
 simp only[lv];rw[wrap64 (n:=8*(v.length:Int)) (by omega) (by omega),ah (by omega),ai,Q9 v i (by omega) (by omega),ab,Yy,ab,eW,RY _ _ (by omega) (by omega),wrap64 (n:=(i:Int)+1) (by omega) (by omega),fE (Nat.lt_trans (wL hh hw) (by omega)),Ax];by_cases h1:EF v i=1;rw[h1,ay rfl];rfl;rw[ao h1,show(((EF v i:Nat):Int)==1)=false from by simp;omega];rfl;simp only[lv];rw[wrap64 (n:=8*(v.length:Int)) (by omega) (by omega),ae (by omega)];rfl
theorem VI (s v:Bytes):qV s v=some (pN s v):=by
 unfold qV pN;cases hs:(s.length:Int) !=16 with|true=>rfl|false=>?_
 cases hv:decide ((v.length:Int)>12)with|true=>rfl|false=>?_
 have h2:s.length=16:=by simp at hs;omega
 have h3:v.length≤12:=by simp at hv;omega
 simp only[af,ab,bK];refine de (λi=>(((Ax s v i:Nat):Int),(i:Int))) (8*v.length) (by omega) (λi nx hi=>?_) (λnx=>?_);have hw:=Hn s i 32 (by omega);have hh:=F9 s v i;have hb:=Bz v i;have eW:Ou s (i:Int)=((Qt s i 32:Nat):Int):=by unfold Ou;rw[hs,bW.2 (show(0:Int)≤(i:Int)∧(i:Int)≤96 by omega)];rfl
 simp only[lJ];rw[wrap64 (n:=8*(v.length:Int)) (by omega) (by omega),ah (by omega),ai,RF v i (by omega) (by omega),ab,Zb,ab,eW,RY _ _ (by omega) (by omega),wrap64 (n:=(i:Int)+1) (by omega) (by omega),fE (Nat.lt_trans (wL hh hw) (by omega)),Ax];by_cases h1:EF v i=1;rw[h1,ay rfl];rfl;rw[ao h1,show(((EF v i:Nat):Int)==1)=false from by simp;omega];rfl;simp only[lJ];rw[wrap64 (n:=8*(v.length:Int)) (by omega) (by omega),ae (by omega)];rfl
def lV (f:Int×Int×Int×Int×Int):Bytes:=((eB f.2.1++eB f.2.2.1)++db f.2.2.2.1)++db f.2.2.2.2
theorem Ph (f:Int×Int×Int×Int×Int):pS f=some (lV f):=by have:=cA f.2.1;have:=cA f.2.2.1;have:=br f.2.2.2.1;have:=br f.2.2.2.2;simp only[pS,pb,pa,ab];rw[aJ (by omega),aJ (by simp only[ak];omega),aJ (by simp only[ak];omega)];rfl
theorem P8 (f:Int×Int×Int×Int×Int):qW f=some (lV f):=by have:=cA f.2.1;have:=cA f.2.2.1;have:=br f.2.2.2.1;have:=br f.2.2.2.2;simp only[qW,je,ky,ab];rw[aJ (by omega),aJ (by simp only[ak];omega),aJ (by simp only[ak];omega)];rfl
theorem BW (s:Bytes)(f:Int×Int×Int×Int×Int):nQ s f=some (pN s (lV f)):=by simp only[nQ,Ph,UJ,ab]
theorem Cs (s:Bytes)(f:Int×Int×Int×Int×Int):om s f=some (pN s (lV f)):=by simp only[om,P8,VI,ab]
def tu (s:fK)(f:Int×Int×Int×Int×Int):Int:=bif ((s.2.length:Int)==0)||decide (pN s.1 (lV f)<0) then-1 else Int.tmod (pN s.1 (lV f)) (s.2.length:Int)
theorem Ss (s:fK)(f:Int×Int×Int×Int×Int):tW s f=some (tu s f):=by
 unfold tW tu;rw[BW,ab];cases h0:(s.2.length:Int)==0 with|true=>rfl|false=>?_
 cases decide (pN s.1 (lV f)<0)with|true=>rfl|false=>?_
 simp only[af,ab,bK];rw[ao (by simpa using h0)]
theorem Tp (s:fK)(f:Int×Int×Int×Int×Int):uq s f=some (tu s f):=by
 unfold uq tu;rw[Cs,ab];cases h0:(s.2.length:Int)==0 with|true=>rfl|false=>?_
 cases decide (pN s.1 (lV f)<0)with|true=>rfl|false=>?_
 simp only[af,ab,bK];rw[ao (by simpa using h0)]
theorem CS (s:fK)(f:Int×Int×Int×Int×Int)(h:¬tu s f<0):∃n:Nat,tu s f=(n:Int)∧n<s.2.length:=by
 unfold tu at h⊢;cases hc:((s.2.length:Int)==0)||decide (pN s.1 (lV f)<0)with
 |true=>rw[hc]at h;simp at h
 |false=>
  rw[hc]at h;simp only[ei,ch,cV]at hc;simp only[af]at h⊢;have h1:0≤pN s.1 (lV f):=by omega
  rw[cU h1]at h⊢;have:=cG (pN s.1 (lV f)) (show(0:Int)<s.2.length by omega);obtain⟨n,hn⟩:=aM (show 0≤pN s.1 (lV f)%(s.2.length:Int) by omega);exact⟨n,hn,by omega⟩
def Af (s:fK)(q:Int)(f:Int×Int×Int×Int×Int):Int:=bif !oY s q||decide (tu s f<0) then-1 else s.2.getD (tu s f).toNat 0
theorem MX (s:fK)(q:Int)(f:Int×Int×Int×Int×Int)(h:s.2.length≤1000000000):mQ s q f=some (Af s q f):=by
 unfold mQ Af;rw[Ss,ab,Gj s q h,ab];cases oY s q with|false=>rfl|true=>?_
 have hin:=CS s f;cases hd:decide (tu s f<0)with|true=>rfl|false=>?_
 obtain⟨n,hn,hl⟩:=hin (of_decide_eq_false hd);simp only[al,af,ab,bK,hn,aX hl,ax,bM hl]
theorem N0 (s:fK)(q:Int)(f:Int×Int×Int×Int×Int)(h:s.2.length≤1000000000):nt s q f=some (Af s q f):=by
 unfold nt Af;rw[Tp,ab,Bp s q h,ab];cases oY s q with|false=>rfl|true=>?_
 have hin:=CS s f;cases hd:decide (tu s f<0)with|true=>rfl|false=>?_
 obtain⟨n,hn,hl⟩:=hin (of_decide_eq_false hd);simp only[al,af,ab,bK,hn,aX hl,ax,bM hl]
theorem Jh (t:List Slot)(f:Int×Int×Int×Int×Int)(h:∀j,j<8→kY (ee t j) f=false):∀n k,walk t f n k= -1
 |0,_=>rfl
 |n+1,k=>by unfold walk;rw[h _ (CI f k),Jh t f h n (k+1)];split<;>rfl
theorem Dy (f:Int×Int×Int×Int×Int):∀(t:List Slot)(m:Int),(∀s∈t,kY s f=false)→tw f t m= -1
 |[],_,_=>rfl
 |s::r,m,h=>by unfold tw;rw[h s (by simp)];exact Dy f r (m+1) (λx hx=>h x (by simp[hx]))
theorem O7 (t:List Slot)(f:Int×Int×Int×Int×Int)(h:mD t=true):tw f t 0=walk t f 8 0:=by simp only[mD,aj,aW,aU,cw]at h;obtain⟨h8,hs⟩:=h;by_cases hex:∃j,j<t.length∧kY (ee t j) f=true;obtain⟨j,hj,hu,e⟩:=yT f t 0 hex;have:=hs j (by omega);simp only[jT,aj,cm,aR,aW]at this;simp only[kY,aj,aW,aK]at hu;rcases this.2 with g|g;rw[hu.1]at g;simp at g;rw[hu.2]at g;rw[show((0:Int))=((0:Nat):Int) from rfl,e,g];omega;have hn:∀j,j<t.length→kY (ee t j) f=false:=λj hj=>Bool.eq_false_iff.2 λhu=>hex ⟨j,hj,hu⟩;rw[Jh t f (λj hj=>hn j (by omega)),Dy];intro s hs';obtain⟨j,hj,rfl⟩:=List.getElem_of_mem hs';have:=hn j hj;rwa[rL hj]at this
def findF (t:List Slot)(f:Int×Int×Int×Int×Int):Int:=bif mD t then walk t f 8 0 else-1
theorem KD (t:List Slot)(f:Int×Int×Int×Int×Int)(h:t.length≤1000000000):sa t f=some (findF t f):=by
 unfold sa findF;rw[It,ab];cases ht:mD t with|false=>rfl|true=>?_
 simp only[al,af,ai,MW t f h,ab,O7 t f ht]
theorem Lc (t:List Slot)(f:Int×Int×Int×Int×Int):sK t f=some (findF t f):=by
 unfold sK findF;rw[I4,ab];cases ht:mD t with|false=>rfl|true=>?_
 have h8:t.length=8:=by simp only[mD,aj,aW]at ht;exact ht.1
 simp only[al,af,ai,NU t f h8,ab]
theorem RV (t:List Slot)(f:Int×Int×Int×Int×Int):∀n k,walk t f n k= -1∨∃m:Nat,walk t f n k=(m:Int)∧m<8
 |0,_=> .inl rfl
 |n+1,k=>by unfold walk;split;exact .inl rfl;split;exact .inr ⟨_,rfl,CI f k⟩;exact RV t f n (k+1)
theorem F0 (t:List Slot)(f:Int×Int×Int×Int×Int)(h:findF t f≥0):∃m:Nat,findF t f=(m:Int)∧m<t.length:=by
 unfold findF at h⊢;cases ht:mD t with
 |false=>rw[ht]at h;simp at h
 |true=>
  rw[ht]at h;simp only[ai]at h⊢;have h8:t.length=8:=by simp only[mD,aj,aW]at ht;exact ht.1
  rcases RV t f 8 0 with g|⟨m,g,hm⟩;omega;exact⟨m,g,by omega⟩
def hasB (l:List Int)(v:Int):Bool:=l.any (·==v)
theorem MH {l:List Int}{v:Int}:hasB l v=true↔v∈l:=by simp only[hasB,List.any_eq_true,aW];constructor;rintro⟨x,hx,rfl⟩;exact hx;intro h;exact⟨v,h,rfl⟩
theorem yc (l:List Int)(v:Int)(h:l.length≤1000000000):fI l v=some (hasB l v):=by
 unfold fI hasB;rw[LB (hit:=some true) (fin:=some false) (λx:Int=>x==v) l (by omega) (λi hi nx=>?hs) (λnx=>?hf)]
 case hs=>
  simp only[rp]
  rw[ah (by omega),aX hi,wrap64 (by omega) (by omega)];rfl
 case hf=>
  simp only[rp]
  rw[ae (by omega)];rfl
 cases l.any (λx=>x==v)<;>rfl
theorem xw (l:List Int)(v:Int)(h:l.length≤1000000000):fg l v=some (hasB l v):=yc l v h
def ins (v:Int):List Int→List Int
 |[]=>[v]
 |x::l=>bif decide (v<x) then v::x::l else x::ins v l
theorem Rh (v:Int):∀l,(ins v l).length=l.length+1
 |[]=>rfl
 |x::l=>by rw[ins];cases decide (v<x)with|true=>rfl|false=>simp only[af,bj,Rh v l]
theorem Rp (v x:Int):∀l,x∈ins v l↔x=v∨x∈l
 |[]=>by simp[ins]
 |y::l=>by rw[ins];cases decide (v<y)with|true=>simp|false=>simp only[af,bE,Rp v x l];constructor<;>(rintro(h|h|h)<;>simp[h])
theorem UX (v:Int):∀l:List Int,v∉l→l.take (l.findIdx (λx=> !decide (x<v)))++[v]++l.drop (l.findIdx (λx=> !decide (x<v)))=ins v l
 |[],_=>rfl
 |x::l,h=>by rw[ins,List.findIdx_cons];have hx:v≠x:=λe=>h (by simp[e]);have hl:v∉l:=λe=>h (by simp[e]);by_cases c:x<v;rw[ah c,ae (show¬v<x by omega)];have:=UX v l hl;simpa using this;rw[ae c,ah (show v<x by omega)];rfl
def tr (l:List Int)(v:Int):List Int:=bif hasB l v then l else ins v l
theorem Bx (l:List Int)(v:Int):(tr l v).length≤l.length+1:=by unfold tr;cases hasB l v with|true=>simp|false=>simp only[af,Rh];omega
theorem U9 {l:List Int}{v x:Int}(h:x∈l):x∈tr l v:=by unfold tr;cases hasB l v with|true=>exact h|false=>exact(Rp v x l).2 (.inr h)
theorem R3 {l:List Int}{v:Int}(h:v∈l):tr l v=l:=by unfold tr;rw[MH.2 h];rfl
theorem xf:∀(vs l:List Int),(vs.foldl tr l).length≤l.length+vs.length
 |[],l=>by simp
 |v::vs,l=>by have:=xf vs (tr l v);have:=Bx l v;simp only[List.foldl_cons,bj];omega
theorem C7:∀(vs:List Int){l:List Int}{x:Int},x∈l→x∈vs.foldl tr l
 |[],_,_,h=>h
 |v::vs,l,x,h=>C7 vs (l:=tr l v) (U9 h)
theorem Up {α R:Type}(p:α→Bool)(k:Int→Option R)(l:List α):(match l.findIdx? p with|some i=>k (i:Int)|none=>k (l.length:Int))=k (l.findIdx p:Int):=by cases h:l.findIdx? p with|none=>rw[List.findIdx?_eq_none_iff_findIdx_eq]at h;rw[h]|some i=>rw[List.findIdx?_eq_some_iff_findIdx_eq]at h;rw[h.2]
theorem N8 {α:Type}(l:List α)(j:Nat)(h:j≤l.length):sub l 0 (j:Int)=some (l.take j):=by unfold sub;rw[ay (by omega)];simp
theorem VU {α:Type}(l:List α)(j:Nat)(h:j≤l.length):sub l (j:Int) (l.length:Int)=some (l.drop j):=by unfold sub;rw[ay (by omega)];simp
theorem I5 (a vs:List Int)(h:a.length+vs.length≤1000000000):ow a vs=some (vs.foldl tr a):=by
 unfold ow;rw[aJ (by simp only[List.length_nil];omega)];rw[bm];have:=vx (T:=jZ (λ(y10:List Int) (_:Int)=>some y10) vs) vs (λ(s:List Int) i=>(s,(i:Int))) (λi s=>s.length≤a.length+i) (λv s=> .ok (tr s v)) (λs=>some s) (by omega) (λi hi s nx hI=>?hs) (λi hi s s' hI hg=>?hn) (λs nx hI=>?hf) a (by simp)
 case hs=>
  simp only[jZ]
  rw[ah (by omega),aX hi,wrap64 (n:=(i:Int)+1) (by omega) (by omega)]
  simp only[ai,ab,yc s vs[i] (by omega)]
  unfold tr
  cases hh:hasB s vs[i]with
  |true=>rfl
  |false=>
   have hm:vs[i]∉s:=λe=>by rw[MH.2 e]at hh;cases hh
   simp only[af]
   rw[CV (hit:=λy6=>aa (sub s 0 y6) λx7=>room (List.length ([]:List Int)+List.length x7) (room (List.length (([]:List Int)++x7)+List.length ([vs[i]])) (aa (sub s y6 (s.length:Int)) λx9=>room (List.length ((([]:List Int)++x7)++([vs[i]]))+List.length x9) (nx (((([]:List Int)++x7)++([vs[i]]))++x9,(i:Int)+1)))))
    (fin:=aa (sub s 0 (s.length:Int)) λx7=>room (List.length ([]:List Int)+List.length x7) (room (List.length (([]:List Int)++x7)+List.length ([vs[i]])) (aa (sub s (s.length:Int) (s.length:Int)) λx9=>room (List.length ((([]:List Int)++x7)++([vs[i]]))+List.length x9) (nx (((([]:List Int)++x7)++([vs[i]]))++x9,(i:Int)+1)))))
    (λx=> !decide (x<vs[i])) s (by omega) (λj hj nx'=>?hs2) (λnx'=>?hf2)]
   case hs2=>
    simp only[nz]
    rw[ah (by omega),aX hj,aX hi,wrap64 (n:=(j:Int)+1) (by omega) (by omega)]
    simp only[ai,ab]
    cases decide (s[j]<vs[i])<;>rfl
   case hf2=>
    simp only[nz]
    rw[ae (by omega)];rfl
   refine Eq.trans (Up (λx=> !decide (x<vs[i])) (λy6=>aa (sub s 0 y6) λx7=>room (List.length ([]:List Int)+List.length x7) (room (List.length (([]:List Int)++x7)+List.length ([vs[i]])) (aa (sub s y6 (s.length:Int)) λx9=>room (List.length ((([]:List Int)++x7)++([vs[i]]))+List.length x9) (nx (((([]:List Int)++x7)++([vs[i]]))++x9,(i:Int)+1))))) s) ?_
   have hle:s.findIdx (λx=> !decide (x<vs[i]))≤s.length:=List.findIdx_le_length
   have e:=UX vs[i] s hm
   generalize s.findIdx (λx=> !decide (x<vs[i]))=j at*
   rw[N8 s j hle,VU s j hle]
   simp only[ab,bm]
   rw[aJ (by simp;omega),aJ (by simp;omega),aJ (by simp;omega),e];rfl
 case hn=>
  cases hg
  have:=Bx s vs[i]
  omega
 case hf=>
  simp only[jZ]
  rw[ae (by omega)];rfl
 rw[Cl]at this;exact this
theorem Q8 (l:List Int)(v:Int)(h:l.length≤1000000000):ir l v=some (ins v l):=by
 unfold ir
 have hgo:∀(l:List Int)(acc:List Int)(d:Bool),acc.length+l.length+(bif d then 0 else 1)≤1073741824→
  po (λ(x:Int) (s:List Int×Bool) (k:List Int×Bool→Option (List Int))=>cond (cond (!s.2) (decide (v<x)) false) (room (List.length s.1+List.length ([v])) (room (List.length (s.1++([v]))+List.length ([x])) (k ((s.1++([v]))++([x]),true)))) (room (List.length s.1+List.length ([x])) (k (s.1++([x]),s.2))))
   (λs=>cond (!s.2) (room (List.length s.1+List.length ([v])) (some (s.1++([v])))) (some s.1)) l (acc,d)=some (acc++bif d then l else ins v l):=by
  intro l
  induction l with
  |nil=>
   intro acc d hl
   rw[po]
   simp only[List.length_nil]at hl
   cases d with
   |true=>simp
   |false=>
    simp only[di,ai,af]at hl⊢
    rw[aJ (by simp;omega)];rfl
  |cons x l ih=>
   intro acc d hl
   simp only[bj]at hl
   rw[po]
   cases d with
   |true=>
    simp only[al,af,ai]at hl⊢
    rw[aJ (by simp;omega),ih _ _ (by simp;omega)]
    simp
   |false=>
    simp only[di,ai,af]at hl⊢
    rw[ins]
    cases decide (v<x)with
    |true=>
     simp only[ai]
     rw[aJ (by simp;omega),aJ (by simp;omega)]
     rw[ih _ _ (by simp;omega)];simp
    |false=>
     simp only[af]
     rw[aJ (by simp;omega),ih _ _ (by simp;omega)]
     simp
 have hfu:=dI;have key:=rG (T:=hC (λ(y3:List Int) (y4:Bool) (_:Int)=>cond (!y4) (room (List.length y3+List.length ([v])) (some (y3++([v])))) (some y3)) v l (l.length:Int)) l (λ(s:List Int×Bool) i=>(s.1,s.2,(i:Int))) (λ(x:Int) (s:List Int×Bool) (k:List Int×Bool→Option (List Int))=>cond (cond (!s.2) (decide (v<x)) false) (room (List.length s.1+List.length ([v])) (room (List.length (s.1++([v]))+List.length ([x])) (k ((s.1++([v]))++([x]),true)))) (room (List.length s.1+List.length ([x])) (k (s.1++([x]),s.2)))) (λs=>cond (!s.2) (room (List.length s.1+List.length ([v])) (some (s.1++([v])))) (some s.1)) (λi hi s nx=>by simp only[hC];rw[ah (by omega),aX hi,wrap64 (n:=(i:Int)+1) (by omega) (by omega)];simp only[ai,ab,aZ];rfl) (λs nx=>by simp only[hC];rw[ae (by omega)];rfl) fuel 0 (([]:List Int),false) (by omega) (by omega);rw[cJ,hgo l [] false (by simp;omega)]at key;exact key
def ij:Port:=(0,[],0,false)
def El (p:Port):Bool:=iE (p.1,false,p.2.1)&&hasB p.2.1 p.2.2.1
def Cj (l:List Port)(i:Nat):Bool:=El (l.getD i ij)&&(List.range i).all (λj=> !((j !=0)&&((l.getD j ij).1==(l.getD i ij).1)))
def fb (l:List Port):Bool:=cx (l.length:Int) 1 8&&(List.range l.length).all (Cj l)
theorem P0 (i:Nat)(q:Nat→Bool):(List.range (i-1)).all (λj=> !(q (j+1)))=(List.range i).all (λj=> !((j !=0)&&q j)):=by
 rw[bX,aU,aU];simp only[cw];constructor;intro h j hj;cases j with|zero=>rfl|succ j=>have:=h j (by omega);simpa using this
 intro h j hj;have:=h (j+1) (by omega);simpa using this
theorem Ab (l:List Port)(h:l.length≤1000000000)(hv:∀p∈l,p.2.1.length≤1000000000):iS l=some (fb l):=by
 unfold iS fb;rw[eM (hit:=some false) (fin:=some true) (Cj l) l.length (by omega) (λi nx hi=>?hs) (λnx=>?hf)]
 case hs=>
  have hvi:=hv _ (aL hi)
  simp only[oO]
  rw[ah (by omega),aX hi,wrap64 (by omega) (by omega)]
  simp only[ai,ab,yb (l[i].1,false,l[i].2.1) hvi,yc _ _ hvi]
  have e1:(1:Int)=(((0:Nat)+1:Nat):Int):=rfl
  rw[e1,CN (hit:=some false) (fin:=nx ((i:Int)+1)) (λj=>((j+1:Nat):Int)) (λj=> !((l.getD (j+1) ij).1==l[i].1)) (i-1) (by omega) (λj nx' hj hp=>?hs2) (λhp nx'=>?hf2)]
  case hs2=>
   have hjl:j+1<l.length:=by omega
   simp only[oP]
   rw[ah (by omega),aX hjl,aX hi,wrap64 (by omega) (by omega)]
   simp only[ai,ab,bM hjl,c8];rfl
  case hf2=>
   simp only[oP]
   rw[ae (by omega)];rfl
  rw[P0 i (λj=>(l.getD j ij).1==l[i].1)]
  simp only[Cj,El,bM hi]
  cases iE (l[i].1,false,l[i].2.1)<;>cases hasB l[i].2.1 l[i].2.2.1<;>cases (List.range i).all (λj=> !((j !=0)&&((l.getD j ij).1==l[i].1)))<;>rfl
 case hf=>
  simp only[oO]
  rw[ae (by omega)];rfl
 simp only[cc,ab];cases cx (l.length:Int) 1 8<;>cases (List.range l.length).all (Cj l)<;>rfl
def xr (p:Nat→Bool):List Nat→Int
 |[]=> -1
 |j::r=>bif p j then(j:Int) else xr p r
theorem Mt (p:Nat→Bool):∀n s i,s≤i→i<s+n→p i=true→(xr p (List.range' s n)==(i:Int))=(List.range' s (i-s)).all (λj=> !(p j))
 |0,s,i,h1,h2,_=>by omega
 |n+1,s,i,h1,h2,hp=>by
  rw[List.range'_succ,xr];rcases bw s i with hlt|hge;obtain⟨k,hk⟩:∃k,i-s=k+1:=⟨i-s-1,by omega⟩
  rw[hk,List.range'_succ,bD];cases hps:p s with
  |true=>
   simp only[ai,al,gj];have:¬(s:Int)=(i:Int):=by omega
   simpa using this
  |false=>simp only[af,di,a9];rw[Mt p n (s+1) i (by omega) (by omega) hp,show i-(s+1)=k by omega]
  have:s=i:=by omega
  subst this;rw[hp,gr];simp
theorem GR {R:Type}(p:Nat→Bool)(hit:Nat→Option R)(fin:Option R)(k:Int→Option R)(h1:∀j:Nat,hit j=k (j:Int))(h2:fin=k (-1)):∀l:List Nat,GP (λ(j:Nat) (s:Unit)=>bif p j then .error (hit j) else .ok ()) (λ_=>fin) l ()=k (xr p l)
 |[]=>h2
 |j::l=>by rw[GP,xr];cases p j with|true=>exact h1 j|false=>exact GR p hit fin k h1 h2 l
theorem M0 (l:List Port)(a:Int)(h:l.length≤1000000000):nU l a=some (xr (λj=>(j !=0)&&((l.getD j ij).1==a)) (List.range' 0 l.length)):=by
 unfold nU;have:=vx (T:=jC (λ(_:Int)=>some (-1)) (λ(y4:Int) (_:Int)=>some y4) a 0 l (l.length:Int)) (List.range' 0 l.length) (λ(_:Unit) i=>(i:Int)) (λ_ _=>True) (λ(j:Nat) (s:Unit)=>bif (j !=0)&&((l.getD j ij).1==a) then .error (some (j:Int)) else .ok ()) (λ_=>some (-1)) (by simp;omega) (λi hi s nx _=>?hs) (λ_ _ _ _ _ _=>trivial) (λs nx _=>?hf) () trivial
 case hs=>
  have hil:i<l.length:=by simpa using hi
  have e:(List.range' 0 l.length)[i]=i:=by simp
  rw[e]
  simp only[jC]
  rw[ah (by omega),aX hil,wrap64 (by omega) (by omega)]
  simp only[ai,ab,bM hil,aZ,cF]
  have e2:((i:Int) !=0)=(i !=0):=by rw[bX];simp
  rw[e2]
  cases (i !=0)&&(l[i].1==a)<;>rfl
 case hf=>
  simp only[jC]
  rw[ae (by simp)];rfl
 rw[GR (λj=>(j !=0)&&((l.getD j ij).1==a)) _ _ (λx=>some x) (λ_=>rfl) rfl]at this;exact this
theorem zR (l:List Port)(h:l.length≤1000000000)(hv:∀p∈l,p.2.1.length≤1000000000):iI l=some (fb l):=by
 unfold iI fb;rw[eM (hit:=some false) (fin:=some true) (Cj l) l.length (by omega) (λi nx hi=>?hs) (λnx=>?hf)]
 case hs=>
  have hvi:=hv _ (aL hi)
  simp only[oC]
  rw[ah (by omega),aX hi,wrap64 (by omega) (by omega)]
  simp only[ai,ab,wz,xv (l[i].1,false,l[i].2.1) hvi,xw _ _ hvi,M0 l _ h,aZ,bne]
  have e2:((i:Int)==0)=(i==0):=by rw[bX];simp
  rw[e2]
  simp only[Cj,El,bM hi]
  cases h0:i==0 with
  |true=>
   have:i=0:=by simpa using h0
   subst this
   cases iE (l[0].1,false,l[0].2.1)<;>cases hasB l[0].2.1 l[0].2.2.1<;>rfl
  |false=>
   have hne:(i !=0)=true:=by simp only[bne,h0,di]
   have fa:=Mt (λj=>(j !=0)&&((l.getD j ij).1==l[i].1)) l.length 0 i (by omega) (by omega) (by simp only[hne,bM hi,a9,dr])
   rw[Nat.sub_zero,←List.range_eq_range' (n:=i)]at fa
   simp only[bne]at fa⊢
   rw[fa]
   cases iE (l[i].1,false,l[i].2.1)<;>cases hasB l[i].2.1 l[i].2.2.1<;>cases (List.range i).all (λj=> !((!(j==0))&&((l.getD j ij).1==l[i].1)))<;>rfl
 case hf=>
  simp only[oC]
  rw[ae (by omega)];rfl
 simp only[cC,ab];cases cx (l.length:Int) 1 8<;>cases (List.range l.length).all (Cj l)<;>rfl
def pA (m:bl):Bool:=iE m.1&&(cx m.2.1 0 1000000000000&&cx m.2.2.2 0 1000000000000)
theorem VM (m:bl)(h:m.1.2.2.length≤1000000000):qZ m=some (pA m):=by simp only[qZ,yb _ h,cc,ab,aZ,cF,pA]
theorem UP (m:bl)(h:m.1.2.2.length≤1000000000):pV m=some (pA m):=by simp only[pV,xv _ h,cC,ab,aZ,cF,pA]
theorem wX {m:bl}(h:pA m=true):m.1.2.2.length≤8:=by unfold pA iE at h;simp only[aj,aK]at h;omega
def KW (m:bl):Port:=(m.1.1,m.1.2.2.foldl tr [0],0,true)
def AJ (s:List Int×List Port)(m:bl):List Int×List Port:=(m.1.2.2.foldl tr s.1,s.2++[KW m])
def wg (ms:List bl):List Port:=(0,(ms.foldl AJ ([0],[])).1,0,false)::(ms.foldl AJ ([0],[])).2
def fC (ms:List bl):List Port×Bool:=bif cx (ms.length:Int) 1 3&&(ms.all pA&&fb (wg ms)) then(wg ms,true) else([],false)
theorem GQ {α σ R:Type}(p:α→Bool)(f:σ→α→σ)(r:Option R)(fin:σ→Option R):∀(l:List α)(s:σ),GP (λx s=>bif p x then .ok (f s x) else .error r) fin l s=bif l.all p then fin (l.foldl f s) else r
 |[],s=>rfl
 |x::l,s=>by rw[GP,bD,List.foldl_cons];cases p x with|false=>rfl|true=>simp only[ai,a9];exact GQ p f r fin l (f s x)
def Lx (i:Nat)(s:List Int×List Port):Prop:=s.1.length≤1+9*i∧s.2.length=i∧∀p∈s.2,p.2.1.length≤9
theorem Lx.port {i:Nat}{s:List Int×List Port}(h:Lx i s){m:bl}(hm:pA m=true)(U:List Int)(hU:U.length≤s.1.length+9):Lx (i+1) (U,s.2++[KW m]):=by have hl:=wX hm;have:=xf m.1.2.2 [0];refine⟨?_,?_,?_⟩;have:=h.1;simp only;omega;have:=h.2.1;simp;omega;intro p hp;rcases ar.1 hp with hp|hp;exact h.2.2 p hp;simp only[ec]at hp;subst hp;simp only[KW,dh]at this⊢;omega
theorem zo {i:Nat}{s:List Int×List Port}(h:Lx i s)(hi:i≤3):((0,s.1,0,false)::s.2:List Port).length≤1000000000∧∀p∈((0,s.1,0,false)::s.2:List Port),p.2.1.length≤1000000000:=by have h1:=h.1;have h2:=h.2.1;refine⟨by simp only[bj];omega,λp hp=>?_⟩;rcases bE.1 hp with rfl|hp;simp only;omega;have:=h.2.2 p hp;omega
theorem DN (ms:List bl)(h:∀m∈ms,m.1.2.2.length≤1000000000):re ms=some (fC ms):=by
 unfold re fC;simp only[cc,ab];cases hn:cx (ms.length:Int) 1 3 with
 |false=>rfl
 |true=>
  have hn':=bW.1 hn;simp only[al,af,a9];have:=vx (T:=kT (λ(y12:List Port) (_:Int)=>aa (iS y12) λr14=>cond (!r14) (some (([]:List Port),false)) (some (y12,true))) (λ(y15:List Port) (y16:Bool) (_:List Port) (_:Int)=>some (y15,y16)) ms ([]:List Port) false) ms (λ(s:List Int×List Port) i=>((0,s.1,0,false)::s.2,(i:Int))) Lx (λm s=>bif pA m then .ok (AJ s m) else .error (some (([]:List Port),false))) (λs=>some (bif fb ((0,s.1,0,false)::s.2) then((0,s.1,0,false)::s.2,true) else([],false))) (by omega) (λi hi s nx hI=>?hs) (λi hi s s' hI hg=>?hn) (λs nx hI=>?hf) ([0],[]) ⟨by simp,rfl,by simp⟩
  case hs=>
   simp only[kT]
   have hm:=h _ (aL hi)
   rw[ah (by omega),aX hi,wrap64 (n:=(i:Int)+1) (by omega) (by omega)]
   simp only[ai,ab,VM _ hm]
   cases hmb:pA ms[i]with
   |false=>rfl
   |true=>
    have hl:=wX hmb
    have hU:=hI.1
    have hP:=hI.2.1
    have e0:idx ((0,s.1,0,false)::s.2:List Port) 0=some (0,s.1,0,false):=rfl
    simp only[al,af,ai,e0,ab]
    rw[I5 s.1 _ (by omega),I5 [0] _ (by simp;omega)]
    simp only[ab]
    rw[aJ (by simp;omega)]
    rfl
  case hn=>
   cases hmb:pA ms[i]with
   |false=>rw[hmb]at hg;cases hg
   |true=>
    rw[hmb]at hg
    cases hg
    have:=xf ms[i].1.2.2 s.1
    have:=wX hmb
    exact hI.port hmb _ (by omega)
  case hf=>
   simp only[kT]
   rw[ae (by omega)]
   have hb:=zo hI (by omega)
   simp only[af,Ab _ hb.1 hb.2,ab]
   cases fb ((0,s.1,0,false)::s.2)<;>rfl
  rw[GQ]at this;refine Eq.trans this ?_;unfold wg;cases ms.all pA<;>rfl
def I8 (s:List Int×List Port)(m:bl):List Int×List Port:=(([0]++m.1.2.2).foldl tr s.1,s.2++[KW m])
theorem VT {s:List Int×List Port}{m:bl}(h:(0:Int)∈s.1):I8 s m=AJ s m:=by unfold I8 AJ;rw[List.foldl_append];simp only[List.foldl_cons,List.foldl_nil,R3 h]
theorem G5:∀(ms:List bl)(s:List Int×List Port),(0:Int)∈s.1→ms.foldl I8 s=ms.foldl AJ s
 |[],_,_=>rfl
 |m::ms,s,h=>by rw[List.foldl_cons,List.foldl_cons,VT h];exact G5 ms _ (C7 _ h)
theorem N5 (ms:List bl)(h:ms≠[]):ms.foldl I8 ([],[])=ms.foldl AJ ([0],[]):=by cases ms with|nil=>exact absurd rfl h|cons m ms=>rw[List.foldl_cons,List.foldl_cons];have e:I8 ([],[]) m=AJ ([0],[]) m:=rfl;rw[e];exact G5 ms _ (C7 _ (by simp))
theorem Sw {R:Type}(k0:List Int→List Int→Int→Option R)(k:List Int→List Int→Option R)(hk:∀a b i,k0 a b i=k a b)(v2:List Port)(v3:Bool)(v4:List Port)(v18:List bl)(v19 v20:Int)(b7:bl)(vs all:List Int)(h:all.length+vs.length≤1000000000): aH (gX k0 v2 v3 v4 v18 v19 v20 vs (vs.length:Int) b7) fuel (all,([]:List Int),0)=k (vs.foldl tr all) (vs.foldl tr []):=by
 have:=vx (T:=gX k0 v2 v3 v4 v18 v19 v20 vs (vs.length:Int) b7) vs (λ(s:List Int×List Int) i=>(s.1,s.2,(i:Int))) (λi s=>s.1.length≤all.length+i∧s.2.length≤i) (λv s=> .ok (tr s.1 v,tr s.2 v)) (λs=>k s.1 s.2) (by omega) (λi hi s nx hI=>?hs) (λi hi s s' hI hg=>?hn) (λs nx hI=>?hf) (all,[]) ⟨by simp,by simp⟩
 case hs=>
  simp only[gX]
  rw[ah (by omega),aX hi,wrap64 (n:=(i:Int)+1) (by omega) (by omega)]
  simp only[ai,ab,xw s.2 vs[i] (by omega),xw s.1 vs[i] (by omega),Q8 s.2 vs[i] (by omega),Q8 s.1 vs[i] (by omega),tr]
  cases hasB s.2 vs[i]<;>cases hasB s.1 vs[i]<;>rfl
 case hn=>
  cases hg
  have:=Bx s.1 vs[i]
  have:=Bx s.2 vs[i]
  have h1:=hI.1
  have h2:=hI.2
  exact⟨by simp only;omega,by simp only;omega⟩
 case hf=>
  simp only[gX]
  rw[ae (by omega)]
  simp only[af,hk]
 rw[Cl]at this;refine Eq.trans this ?_;have e:∀(l:List Int)(s:List Int×List Int),l.foldl (λs v=>(tr s.1 v,tr s.2 v)) s=(l.foldl tr s.1,l.foldl tr s.2):=by intro l;induction l with|nil=>intro s;rfl|cons x l ih=>intro s;rw[List.foldl_cons,ih];rfl
 rw[e]
theorem DC (ms:List bl)(h:∀m∈ms,m.1.2.2.length≤1000000000):pY ms=some (fC ms):=by
 unfold pY fC;simp only[cC,ab];cases hn:cx (ms.length:Int) 1 3 with
 |false=>rfl
 |true=>
  have hn':=bW.1 hn;simp only[al,af,a9];have:=vx (T:=kK (λ(y14:List Port) (y15:List Int) (_:Int)=>aa (idx y14 0) λx17=>aa (idx y14 0) λx18=>aa (iI (List.set y14 (Int.toNat 0) (x18.1,y15,x18.2.2))) λr19=>cond (!r19) (some (([]:List Port),false)) (some (List.set y14 (Int.toNat 0) (x18.1,y15,x18.2.2),true))) (λ(y20:List Port) (y21:Bool) (_:List Port) (_:List Int) (_:Int)=>some (y20,y21)) ([]:List Port) false ms (ms.length:Int)) ms (λ(s:List Int×List Port) i=>((0,[],0,false)::s.2,s.1,(i:Int))) Lx (λm s=>bif pA m then .ok (I8 s m) else .error (some (([]:List Port),false))) (λs=>some (bif fb ((0,s.1,0,false)::s.2) then((0,s.1,0,false)::s.2,true) else([],false))) (by omega) (λi hi s nx hI=>?hs) (λi hi s s' hI hg=>?hn) (λs nx hI=>?hf) ([],[]) ⟨by simp,rfl,by simp⟩
  case hs=>
   simp only[kK]
   have hm:=h _ (aL hi)
   rw[ah (by omega),aX hi,wrap64 (n:=(i:Int)+1) (by omega) (by omega)]
   simp only[ai,ab,UP _ hm]
   cases hmb:pA ms[i]with
   |false=>rfl
   |true=>
    have hl:=wX hmb
    have hU:=hI.1
    have hP:=hI.2.1
    simp only[al,af,ai]
    rw[aJ (by simp;omega)]
    refine(Sw _ (λa b=>room (List.length ((0,[],0,false)::s.2:List Port)+List.length ([(ms[i].1.1,b,0,true)]:List Port)) (nx (((0,[],0,false)::s.2)++([(ms[i].1.1,b,0,true)]),a,(i:Int)+1))) (λ_ _ _=>rfl) _ _ _ _ _ _ _ ([0]++ms[i].1.2.2) s.1 (by simp only[ak,dh];omega)).trans ?_
    rw[aJ (by simp;omega)]
    rfl
  case hn=>
   cases hmb:pA ms[i]with
   |false=>rw[hmb]at hg;cases hg
   |true=>
    rw[hmb]at hg
    cases hg
    have hu:=xf ([0]++ms[i].1.2.2) s.1
    have hl:=wX hmb
    simp only[ak,dh]at hu
    exact hI.port hmb _ (by omega)
  case hf=>
   simp only[kK]
   rw[ae (by omega)]
   have hb:=zo hI (by omega)
   have e0:idx ((0,[],0,false)::s.2:List Port) 0=some (0,[],0,false):=rfl
   have e1:List.set ((0,[],0,false)::s.2:List Port) (Int.toNat 0) (0,s.1,0,false)=(0,s.1,0,false)::s.2:=rfl
   simp only[af,e0,ab,e1,zR _ hb.1 hb.2]
   cases fb ((0,s.1,0,false)::s.2)<;>rfl
  rw[GQ,N5 ms (by rintro rfl;simp at hn')]at this;refine Eq.trans this ?_;unfold wg;cases ms.all pA<;>rfl
end
end Go.Pu
