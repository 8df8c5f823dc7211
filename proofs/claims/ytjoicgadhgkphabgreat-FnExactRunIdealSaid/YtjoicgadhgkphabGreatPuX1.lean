import Derived.Test.YtjoicgadhgkphabGreatDnData
import Derived.Test.YtjoicgadhgkphabGreatPure
namespace Go.Pu
open Go.Dn
set_option linter.unusedSimpArgs false
set_option linter.unusedVariables false
noncomputable section
/- Plain laws of the partial operations and of loops. -/
theorem wrap64 {n:Int}(h1: -9223372036854775808≤n)(h2:n≤9223372036854775807):aw n=n:=by simp only[aw,eR,IntKind.wrap,IntKind.bits,IntKind.signed];simp;omega
@[simp] theorem ab {α R:Type}(a:α)(k:α→Option R):aa (some a) k=k a:=rfl
@[simp] theorem UK {α R:Type}(k:α→Option R):aa none k=none:=rfl
@[simp] theorem vp {α R:Type}(c:Bool)(x y:α)(k:α→Option R):aa (cond c (some x) (some y)) k=k (cond c x y):=by cases c<;>rfl
theorem bl {α:Type}(c:Bool)(x y:α):cond c (some x) (some y)=some (cond c x y):=by cases c<;>rfl
theorem aN {R:Type}{n:Nat}{k:Option R}(h:n≤1073741824):room n k=k:=by simp[room,h]
theorem wL {α:Type}(xs:List α)(i:Nat):idx xs (i:Int)=xs[i]?:=rfl
theorem aZ {α:Type}{xs:List α}{i:Nat}(h:i<xs.length):idx xs (i:Int)=some xs[i]:=by rw[wL];exact List.getElem?_eq_getElem h
def R6 {σ R:Type}(step:Nat→σ→(σ→Option R)→Option R)(fin:σ→Option R)(N:Nat):Nat→Nat→σ→Option R
 |0,_,s=>fin s
 |n+1,i,s=>step i s (λs'=>R6 step fin N n (i+1) s')
theorem wN {X σ R:Type}{T:(X→Option R)→X→Option R}(N:Nat)(e:σ→Nat→X)(step:Nat→σ→(σ→Option R)→Option R)(fin:σ→Option R)(hs:∀i s nx,i<N→T nx (e s i)=step i s (λs'=>nx (e s' (i+1))))(hf:∀s nx,T nx (e s N)=fin s): ∀n i s,i≤N→N-i<n→aV T n (e s i)=R6 step fin N (N-i) i s:=by
 intro n;induction n with
 |zero=>intro i s _ h;omega
 |succ n ih=>
  intro i s hi hn;rw[aV];rcases bc i N with hlt|hge;rw[hs i s _ hlt,show N-i=(N-(i+1))+1 by omega,R6];congr 1;funext s';exact ih (i+1) s' (by omega) (by omega);have:i=N:=by omega
  subst this;rw[hf,dr,R6]
def td {α σ R:Type}(step:α→σ→(σ→Option R)→Option R)(fin:σ→Option R):List α→σ→Option R
 |[],s=>fin s
 |x::xs,s=>step x s (td step fin xs)
theorem um {α X σ R:Type}{T:(X→Option R)→X→Option R}(xs:List α)(e:σ→Nat→X)(step:α→σ→(σ→Option R)→Option R)(fin:σ→Option R)(hs:∀i (h:i<xs.length) s nx,T nx (e s i)=step xs[i] s (λs'=>nx (e s' (i+1))))(hf:∀s nx,T nx (e s xs.length)=fin s): ∀n i s,i≤xs.length→xs.length-i<n→aV T n (e s i)=td step fin (xs.drop i) s:=by
 intro n;induction n with
 |zero=>intro i s _ h;omega
 |succ n ih=>
  intro i s hi hn;rw[aV];rcases bc i xs.length with hlt|hge;rw[hs i hlt s _,bh hlt,td];congr 1;funext s';exact ih (i+1) s' (by omega) (by omega);have:i=xs.length:=by omega
  subst this;rw[hf,List.drop_length,td]
def mN:(t:CT)→t.D→Nat
 | .int _,_=>0
 | .bool,_=>0
 | .str,s=>s.length
 | .sl e,xs=>xs.length+(xs.map (mN e)).sum
 | .pair a b,x=>mN a x.1+mN b x.2
def bG (n:Nat):(t:CT)→t.D→Prop
 | .int _,_=>True
 | .bool,_=>True
 | .str,s=>s.length≤n
 | .sl e,xs=>xs.length≤n∧∀x∈xs,bG n e x
 | .pair a b,x=>bG n a x.1∧bG n b x.2
theorem xQ {α:Type}(f:α→Nat):∀(xs:List α)(x:α),x∈xs→f x≤(xs.map f).sum
 |y::ys,x,h=>by rcases bu.1 h with rfl|h;simp;have:=xQ f ys x h;simp;omega
theorem w3 {n:Nat}:∀{t:CT}{x:t.D},mN t x≤n→bG n t x
 | .int _,_,_=>trivial
 | .bool,_,_=>trivial
 | .str,_,h=>h
 | .sl e,xs,h=>by simp only[mN]at h;exact⟨by omega,λx hx=>w3 (by have:=xQ (mN e) xs x hx;omega)⟩
 | .pair a b,x,h=>by simp only[mN]at h;exact⟨w3 (by omega),w3 (by omega)⟩
theorem bG.mono {n m:Nat}(h:n≤m):∀{t:CT}{x:t.D},bG n t x→bG m t x
 | .int _,_,_=>trivial
 | .bool,_,_=>trivial
 | .str,_,k=>aP k h
 | .sl _,_,k=>⟨aP k.1 h,λx hx=>bG.mono h (k.2 x hx)⟩
 | .pair _ _,_,k=>⟨bG.mono h k.1,bG.mono h k.2⟩
def n4:(t:CT)→t.D→Prop
 | .int k,n=>k.min≤n∧n≤k.max
 | .bool,_=>True
 | .str,s=>s.length≤9223372036854775807
 | .sl e,xs=>xs.length≤9223372036854775807∧∀x∈xs,n4 e x
 | .pair a b,x=>n4 a x.1∧n4 b x.2
def gC (l n:Int):Int:=if n≤l then l-n else-1
def Bw {α β R:Type}(f:α→Option β)(k0:List β→Int→Option R)(v0:List α)(nx:List β×Int→Option R)(x:List β×Int):Option R:=
 cond (decide (x.2<(List.length v0:Int))) (
  aa (idx v0 x.2) λx1=>
  aa (f x1) λr2=>
  aa (idx x.1 x.2) λ_=>
  aa (idx x.1 x.2) λ_=>
  nx (List.set x.1 (Int.toNat x.2) r2,aw (x.2+1))) (
  k0 x.1 x.2)
noncomputable def Hl {α β:Type}(f:α→Option β)(z:β)(a0:List α):Option (List β):=
 if 0≤((List.length a0:Int))∧((List.length a0:Int))≤((List.length a0:Int)) then(
 room (Int.toNat ((List.length a0:Int))) (
 aV (Bw f (λy5 _=>some y5) a0) fuel (List.replicate (Int.toNat ((List.length a0:Int))) z,0))) else none
theorem kg {α:Type}{f:α→Option α}{z:α}{a:List α}(hn:a.length≤1073741824)(hf:∀x∈a,f x=some x):Hl f z a=some a:=by
 unfold Hl;have hfu:=fj;rw[az (by omega),aN (by simp;omega)]
 have key:=wN (T:=Bw f (λy5 _=>some y5) a) a.length (λ(_:Unit) i=>(a.take i++List.replicate (a.length-i) z,(i:Int))) (λ_ s k=>k s) (λ_=>some a)
  (λi s nx hi=>by
   have h1:(a.take i).length=i:=by simp;omega
   have hl:i<(a.take i++List.replicate (a.length-i) z).length:=by simp;omega
   simp only[Bw];rw[aj (by omega)];simp only[ae,aZ hi,ab,hf _ (aD hi),aZ hl];congr 1;refine Prod.ext ?_ (wrap64 (by omega) (by omega));simp only[ax];rw[List.set_append_right _ _ (by omega),h1,dr,bB hi,show a.length-i=(a.length-(i+1))+1 by omega,List.replicate_succ,List.set_cons_zero,aF,List.singleton_append])
  (λs nx=>by simp only[Bw];rw[ah (by omega)];simp)
  fuel 0 () (by omega) (by omega)
 simp only[List.take_zero,a9,Nat.sub_zero,ax]at key⊢;have e:((0:Nat):Int)=0:=rfl;rw[e]at key;rw[key];have:∀n i,R6 (R:=List α) (λ_ (s:Unit) k=>k s) (λ_=>some a) a.length n i ()=some a:=by intro n;induction n with|zero=>intro i;rfl|succ n ih=>intro i;rw[R6];exact ih _
 exact this _ _
def Bv {α R:Type}(f:α→Int→Option Int)(k0:Int→Int→Option R)(k1:Int→Int→Int→Option R)(v0:List α)(nx:Int×Int→Option R)(x:Int×Int):Option R:=
 cond (decide (x.2<((List.length v0:Int)))) (
  aa (idx v0 x.2) λx1=>
  aa (f x1 x.1) λr2=>
  cond (decide (r2<0)) (
   k1 r2 (-1) x.2) (
   nx (r2,aw (x.2+1)))) (
  k0 x.1 x.2)
noncomputable def Bu {α:Type}(f:α→Int→Option Int)(a0:List α)(a1:Int):Option Int:=
 cond (decide ((aw (a1-((List.length a0:Int))))<0)) (
  some (-1)) (
  aV (Bv f (λy3 _=>some y3) (λ_ y6 _=>some y6) a0) fuel (aw (a1-((List.length a0:Int))),0))
theorem Dv {α:Type}{f:α→Int→Option Int}{s:α→Nat}{a:List α}{l:Int}(h0:0≤l)(h1:l≤1048576)(hm:a.length≤9223372036854775807)(hf:∀x∈a,∀l:Int,0≤l→l≤1048576→∃r,f x l=some r∧((s x:Int)≤l→r=l-s x)∧(¬(s x:Int)≤l→r<0)):Bu f a l=some (gC l ((a.length+(a.map s).sum:Nat):Int)):=by
 unfold Bu;have hfu:=fj;rw[wrap64 (by omega) (by omega)];rcases Int.lt_or_le (l-a.length) 0 with hneg|hpos;rw[aj hneg];simp only[ae,gC];rw[ar (by omega)];rw[ah (by omega)];simp only[af];have key:=um (T:=Bv f (λy3 _=>some y3) (λ_ y6 _=>some y6) a) a (λ(q:Int) i=>(q,(i:Int))) (λx q k=>aa (f x q) λr=>cond (decide (r<0)) (some (-1)) (k r)) (λq=>some q) (λi hi q nx=>by simp only[Bv];rw[aj (by omega)];simp only[ae,aZ hi,ab];rw[wrap64 (by omega) (by omega)];rfl) (λq nx=>by simp only[Bv];rw[ah (by omega)];rfl) fuel 0 (l-a.length) (by omega) (by omega);have e:((0:Nat):Int)=0:=rfl;rw[e,c5]at key;rw[key];have main:∀(b:List α)(q:Int),0≤q→q≤1048576→(∀x∈b,x∈a)→td (λx q k=>aa (f x q) λr=>cond (decide (r<0)) (some (-1)) (k r)) (λq=>some q) b q=some (gC q ((b.map s).sum:Nat)):=by intro b;induction b with|nil=>intro q hq _ _;simp[td,gC,hq]|cons x b ih=>intro q hq hq2 hb;obtain⟨r,hr,hr1,hr2⟩:=hf x (hb x (by simp)) q hq hq2;rw[td,hr,ab];by_cases hle:(s x:Int)≤q;have:=hr1 hle;subst this;rw[ah (by omega)];simp only[af];rw[ih _ (by omega) (by omega) (λy hy=>hb y (by simp[hy]))];simp only[gC,cn,List.sum_cons];congr 1;split<;>split<;>omega;rw[aj (hr2 hle)];simp only[ae,gC,cn,List.sum_cons];rw[ar (by omega)]
 rw[main a _ (by omega) (by omega) (λx h=>h)];simp only[gC];congr 1;split<;>split<;>omega
def Bh {α R:Type}(f:α→α→Option Bool)(k0:Int→Option R)(k1:Bool→Int→Option R)(v0 v1:List α)(nx:Int→Option R)(x:Int):Option R:=
 cond (decide (x<((List.length v0:Int)))) (
  aa (idx v0 x) λx1=>
  aa (idx v1 x) λx2=>
  aa (f x1 x2) λr3=>
  cond (!r3) (
   k1 false x) (
   nx (aw (x+1)))) (
  k0 x)
noncomputable def Gi {α:Type}(f:α→α→Option Bool)(a0 a1:List α):Option Bool:=
 cond (((List.length a0:Int)) !=((List.length a1:Int))) (
  some false) (
  aV (Bh f (λ_=>some true) (λy5 _=>some y5) a0 a1) fuel 0)
theorem gi {α:Type}{f:α→α→Option Bool}{a:List α}(hm:a.length≤1000000000000)(hf:∀x∈a,f x x=some true):Gi f a a=some true:=by
 unfold Gi;have hfu:=fj;simp only[dT,af];have key:=um (T:=Bh f (λ_=>some true) (λy5 _=>some y5) a a) a (λ(_:Unit) i=>(i:Int)) (λx s k=>aa (f x x) λr=>cond (!r) (some false) (k s)) (λ_=>some true) (λi hi s nx=>by simp only[Bh];rw[aj (by omega)];simp only[ae,aZ hi,ab];rw[wrap64 (by omega) (by omega)];rfl) (λs nx=>by simp only[Bh];rw[ah (by omega)];rfl) fuel 0 () (by omega) (by omega);have e:((0:Nat):Int)=0:=rfl;rw[e,c5]at key;rw[key];have main:∀(b:List α),(∀x∈b,x∈a)→td (λx s k=>aa (f x x) λr=>cond (!r) (some false) (k s)) (λ_=>some true) b ()=some true:=by intro b;induction b with|nil=>intro _;rfl|cons x b ih=>intro hb;rw[td,hf x (hb x (by simp))];simp only[ab,au,af];exact ih (λy hy=>hb y (by simp[hy]))
 exact main a (λx h=>h)
theorem DA {α:Type}{z:α}{a:List α}(hn:a.length≤1073741824):Hl some z a=some a:=kg hn (λ_ _=>rfl)
theorem yp {α:Type}[BEq α][LawfulBEq α]{a:List α}(hm:a.length≤1000000000000):Gi (λx y:α=>some (x==y)) a a=some true:=gi hm (λx _=>by simp)
theorem wo {α:Type}{f:α→Nat}:∀{xs:List α},(∀x∈xs,f x=0)→(xs.map f).sum=0
 |[],_=>rfl
 |x::xs,h=>by have:=wo (xs:=xs) (f:=f) (λy hy=>h y (by simp[hy]));simp[h x (by simp),this]
def cQ (f:Int→Option Int)(n:Nat):Prop:=∀l:Int,0≤l→l≤1048576→f l=some (gC l n)
theorem cQ.nil:cQ (λl=>some l) 0:=λl h0 _=>by simp[gC,h0]
theorem cQ.len {n m:Nat}(hn:n≤9223372036854775807){k:Int→Option Int}(h:cQ k m): cQ (λl=>cond (decide (aw (l-(n:Int))<0)) (some (-1)) (k (aw (l-(n:Int))))) (n+m):=by intro l h0 h1;simp only;rw[wrap64 (by omega) (by omega)];by_cases hl:l-(n:Int)<0;rw[aj hl];simp only[ae,gC];rw[ar (by omega)];rw[ah hl];simp only[af];rw[h _ (by omega) (by omega)];simp only[gC];congr 1;split<;>split<;>omega
theorem cQ.sub {f k:Int→Option Int}{n m:Nat}(hf:cQ f n)(h:cQ k m):cQ (λl=>aa (f l) λr=>cond (decide (r<0)) (some (-1)) (k r)) (n+m):=by
 intro l h0 h1;simp only;rw[hf l h0 h1,ab];by_cases hl:(n:Int)≤l;have e:gC l n=l-n:=by simp[gC,hl]
 rw[e,ah (by omega)];simp only[af];rw[h _ (by omega) (by omega)];simp only[gC];congr 1;split<;>split<;>omega;have e:gC l n= -1:=by simp[gC,hl]
 rw[e];simp only[gC];rw[ar (by omega)];rfl
theorem cQ.cast {f:Int→Option Int}{n m:Nat}(h:cQ f n)(e:n=m):cQ f m:=e▸h
theorem cQ.list {α:Type}{f:α→Int→Option Int}{s:α→Nat}{a:List α}(hm:a.length≤9223372036854775807)(hf:∀x∈a,cQ (f x) (s x)):cQ (Bu f a) (a.length+(a.map s).sum):=λ_ h0 h1=>Dv h0 h1 hm (λx hx l h0 h1=>⟨_,hf x hx l h0 h1,λh=>by simp[gC,h],λh=>by simp[gC,h]⟩)
theorem cQ.flat {n:Nat}(hn:n≤9223372036854775807):cQ (λl=>cond (decide (aw (l-(n:Int))<0)) (some (-1)) (some (aw (l-(n:Int))))) n:=(cQ.len (n:=n) hn cQ.nil).cast (by omega)
theorem cQ.strs {a:List (List UInt8)}(hm:n4 (.sl .str) a):cQ (Bu (λx l=>some (aw (l-(x.length:Int)))) a) (mN (.sl .str) a):=λ_ h0 h1=>Dv (s:=mN .str) h0 h1 hm.1 (λx hx l h0 h1=>⟨l-x.length,by have:x.length≤9223372036854775807:=hm.2 x hx;rw[wrap64 (by omega) (by omega)],λ_=>rfl,λh=>by simp only[mN]at h;omega⟩)
theorem cQ.use {f:Int→Option Int}{n:Nat}(hf:cQ f n){l:Int}(h0:0≤l)(h1:l≤1048576){k:Int→Option Bool}(hk:(n:Int)≤l→k (l-n)=some true): (aa (f l) λr=>cond (decide (r<0)) (some true) (k r))=some true:=by
 rw[hf l h0 h1,ab];by_cases hl:(n:Int)≤l;have e:gC l n=l-n:=by simp[gC,hl]
 rw[e,ah (by omega)];exact hk hl;have e:gC l n= -1:=by simp[gC,hl]
 rw[e];rfl
theorem Ht {α R:Type}{T:(Int→Option R)→Int→Option R}{fin hit:Option R}(p:α→Bool)(a:List α)(h:a.length≤1000000000000)(hs:∀i (hi:i<a.length) nx,T nx (i:Int)=cond (p a[i]) hit (nx ((i+1:Nat):Int)))(hf:∀nx,T nx (a.length:Int)=fin): aV T fuel 0=cond (a.any p) hit fin:=by
 have hfu:=fj;have key:∀n i,i≤a.length→a.length-i<n→aV T n (i:Int)=cond ((a.drop i).any p) hit fin:=by
  intro n;induction n with
  |zero=>intro i _ h;omega
  |succ n ih=>
   intro i hi hn;rw[aV];rcases bc i a.length with hlt|hge;rw[hs i hlt,bh hlt,List.any_cons];cases hq:p a[i]with|true=>rfl|false=>exact ih (i+1) (by omega) (by omega)
   have:i=a.length:=by omega
   subst this;rw[hf,List.drop_length];rfl
 exact key fuel 0 (by omega) (by omega)
theorem fH {R:Type}{T:(Int→Option R)→Int→Option R}{fin hit:Option R}(p:Nat→Bool)(N:Nat)(h:N≤1000000000000)(hs:∀i nx,i<N→T nx (i:Int)=cond (!(p i)) hit (nx ((i+1:Nat):Int)))(hf:∀nx,T nx (N:Int)=fin): aV T fuel 0=cond ((List.range N).all p) fin hit:=by
 have hfu:=fj;have key:∀n i,i≤N→N-i<n→aV T n (i:Int)=cond ((List.range' i (N-i)).all p) fin hit:=by
  intro n;induction n with
  |zero=>intro i _ h;omega
  |succ n ih=>
   intro i hi hn;rw[aV];rcases bc i N with hlt|hge;rw[hs i _ hlt,show N-i=(N-(i+1))+1 by omega,List.range'_succ,bg];cases hq:p i with|false=>rfl|true=>exact ih (i+1) (by omega) (by omega)
   have:i=N:=by omega
   subst this;rw[hf,dr];rfl
 have:=key fuel 0 (by omega) (by omega);rw[Nat.sub_zero,←List.range_eq_range']at this;exact this
theorem sa {α R:Type}{T:(Int→Option R)→Int→Option R}{fin hit:Option R}(p:α→Bool)(a:List α)(h:a.length≤1000000000000)(hs:∀i (hi:i<a.length) nx,T nx (i:Int)=cond (!(p a[i])) hit (nx ((i+1:Nat):Int)))(hf:∀nx,T nx (a.length:Int)=fin): aV T fuel 0=cond (a.all p) fin hit:=by
 have:=Ht (T:=T) (fin:=fin) (hit:=hit) (λx=> !(p x)) a h hs hf;rw[this];have e:a.any (λx=> !(p x))= !(a.all p):=by rw[bK];simp
 rw[e];cases a.all p<;>rfl
theorem Eh {X R:Type}{T:(X→Option R)→X→Option R}{fin hit:Option R}(e:Nat→X)(p:Nat→Bool)(N:Nat)(h:N≤1000000000000)(hs:∀i nx,i<N→(∀j,j<i→p j=true)→T nx (e i)=cond (!(p i)) hit (nx (e (i+1))))(hf:(∀j,j<N→p j=true)→∀nx,T nx (e N)=fin): aV T fuel (e 0)=cond ((List.range N).all p) fin hit:=by
 have hfu:=fj;have key:∀n i,i≤N→N-i<n→(∀j,j<i→p j=true)→aV T n (e i)=cond ((List.range' i (N-i)).all p) fin hit:=by
  intro n;induction n with
  |zero=>intro i _ h;omega
  |succ n ih=>
   intro i hi hn hp;rw[aV];rcases bc i N with hlt|hge;rw[hs i _ hlt hp,show N-i=(N-(i+1))+1 by omega,List.range'_succ,bg];cases hq:p i with|false=>rfl|true=>refine ih (i+1) (by omega) (by omega) λj hj=>?_;by_cases hji:j=i;rw[hji];exact hq;exact hp j (by omega)
   have:i=N:=by omega
   subst this;rw[hf hp,dr];rfl
 have:=key fuel 0 (by omega) (by omega) (λj hj=>absurd hj (by omega));rw[Nat.sub_zero,←List.range_eq_range']at this;exact this
theorem wG {α R:Type}{T:(Int→Option R)→Int→Option R}{fin:Option R}{hit:Int→Option R}(p:α→Bool)(a:List α)(h:a.length≤1000000000000)(hs:∀i (hi:i<a.length) nx,T nx (i:Int)=cond (p a[i]) (hit (i:Int)) (nx ((i+1:Nat):Int)))(hf:∀nx,T nx (a.length:Int)=fin): aV T fuel 0=(match a.findIdx? p with|some i=>hit (i:Int)|none=>fin):=by
 have hfu:=fj;have key:∀n i,i≤a.length→a.length-i<n→aV T n (i:Int)=(match (a.drop i).findIdx? p with|some j=>hit ((i+j:Nat):Int)|none=>fin):=by
  intro n;induction n with
  |zero=>intro i _ h;omega
  |succ n ih=>
   intro i hi hn;rw[aV];rcases bc i a.length with hlt|hge;rw[hs i hlt,bh hlt,List.findIdx?_cons];cases hq:p a[i]with|true=>rfl|false=>have:=ih (i+1) (by omega) (by omega);simp only[af];refine this.trans ?_;cases (a.drop (i+1)).findIdx? p with|none=>rfl|some j=>simp only[cc,aK,bj];congr 2;omega
   have:i=a.length:=by omega
   subst this;rw[hf,List.drop_length];rfl
 have:=key fuel 0 (by omega) (by omega);refine this.trans ?_;rw[c5];cases a.findIdx? p with|none=>rfl|some j=>simp only[bH]
theorem cF (a b:Bool):(bif a then b else false)=(a&&b):=by cases a<;>rfl
theorem cT (a b:Bool):(bif a then true else b)=(a||b):=by cases a<;>rfl
theorem cN (a b:Bool):(bif a then false else b)=(!a&&b):=by cases a<;>rfl
def Dc {α σ R:Type}(g:α→σ→Except (Option R) σ)(fin:σ→Option R):List α→σ→Option R
 |[],s=>fin s
 |x::xs,s=>match g x s with| .error r=>r| .ok s'=>Dc g fin xs s'
theorem pa {α X σ R:Type}{T:(X→Option R)→X→Option R}(xs:List α)(e:σ→Nat→X)(Inv:Nat→σ→Prop)(g:α→σ→Except (Option R) σ)(fin:σ→Option R)(h:xs.length≤1000000000000)(hs:∀i (hi:i<xs.length) s nx,Inv i s→T nx (e s i)=match g xs[i] s with| .error r=>r| .ok s'=>nx (e s' (i+1)))(hn:∀i (hi:i<xs.length) s s',Inv i s→g xs[i] s=.ok s'→Inv (i+1) s')(hf:∀s nx,Inv xs.length s→T nx (e s xs.length)=fin s)(s:σ)(h0:Inv 0 s): aV T fuel (e s 0)=Dc g fin xs s:=by
 have key:∀n i s,i≤xs.length→xs.length-i<n→Inv i s→aV T n (e s i)=Dc g fin (xs.drop i) s:=by
  intro n;induction n with
  |zero=>intro i s _ h;omega
  |succ n ih=>
   intro i s hi hn' hI;rw[aV];rcases bc i xs.length with hlt|hge;rw[hs i hlt s _ hI,bh hlt,Dc];cases hg:g xs[i] s with|error r=>rfl|ok s'=>exact ih (i+1) s' (by omega) (by omega) (hn i hlt s s' hI hg)
   have:i=xs.length:=by omega
   subst this;rw[hf s _ hI,List.drop_length,Dc]
 have hfu:=fj;have:=key fuel 0 s (by omega) (by omega) h0;rwa[c5]at this
theorem u6 {α σ R:Type}(f:σ→α→σ)(fin:σ→Option R):∀(xs:List α)(s:σ),Dc (λx s=> .ok (f s x)) fin xs s=fin (xs.foldl f s)
 |[],_=>rfl
 |x::xs,s=>by rw[Dc];exact u6 f fin xs (f s x)
theorem cp {X R:Type}{T:(X→Option R)→X→Option R}{fin:Option R}(e:Nat→X)(N:Nat)(h:N≤1000000000000)(hs:∀i nx,i<N→T nx (e i)=nx (e (i+1)))(hf:∀nx,T nx (e N)=fin):aV T fuel (e 0)=fin:=by rw[Eh (hit:=fin) (fin:=fin) e (λ_=>true) N h (λi nx hi _=>by rw[hs i nx hi];rfl) (λ_ nx=>hf nx)];cases (List.range N).all (λ_=>true)<;>rfl
theorem ga {α R:Type}{l:List α}{k:Option R}(h:l.length≤1000000000):room (List.length ([]:List α)+l.length) k=k:=aN (by simp only[dj];omega)
theorem yb (a:List Bytes)(hm:n4 (.sl .str) a):cQ (jg a) (mN (.sl .str) a):=cQ.strs hm
theorem Nh (a:List Int)(hm:n4 (.sl (.int .i64)) a):cQ (tq a) (mN (.sl (.int .i64)) a):=(cQ.flat (n:=a.length) hm.1).cast (by simp only[mN];rw[wo (λx _=>by simp only[mN])];rfl)
theorem E9 (a:Filter)(hm:n4 dN a):cQ (nb a) (mN dN a):=
 cQ.cast (f:=nb a) (cQ.sub (Nh a.2.2 hm.2.2) cQ.nil) (by simp only[mN];try omega)
theorem QI (a:List dF)(hm:n4 (.sl dn) a):cQ (uT a) (mN (.sl dn) a):=(cQ.flat (n:=a.length) hm.1).cast (by simp only[mN];rw[wo (λx _=>by simp only[mN])];rfl)
theorem QJ (a:List Slot)(hm:n4 (.sl cM) a):cQ (uU a) (mN (.sl cM) a):=(cQ.flat (n:=a.length) hm.1).cast (by simp only[mN];rw[wo (λx _=>by simp only[mN])];rfl)
theorem Hh (a:List Slot)(hm:n4 (.sl cM) a):cQ (mj a) (mN (.sl cM) a):=
 cQ.cast (f:=mj a) (cQ.sub (QJ a hm) cQ.nil) (by simp only[mN];try omega)
theorem OQ (a:eQ)(hm:n4 gF a):cQ (qa a) (mN gF a):=
 cQ.cast (f:=qa a) (cQ.len (n:=a.1.length) hm.1 (cQ.sub (Nh a.2 hm.2) cQ.nil)) (by simp only[mN];try omega)
theorem JU (a:dm)(hm:n4 eg a):cQ (nz a) (mN eg a):=
 cQ.cast (f:=nz a) (cQ.sub (QI a.1 hm.1) (cQ.sub (Hh a.2.1 hm.2.1) (cQ.sub (OQ a.2.2 hm.2.2) cQ.nil))) (by simp only[mN];try omega)
theorem OR (a:Stream)(hm:n4 bC a):cQ (nd a) (mN bC a):=
 cQ.cast (f:=nd a) (cQ.len (n:=a.2.2.1.length) hm.2.2.1 cQ.nil) (by simp only[mN];try omega)
theorem LV (a:List Stream)(hm:n4 (.sl bC) a):cQ (sJ a) (mN (.sl bC) a):=cQ.list (f:=nd) (s:=mN bC) hm.1 (λx hx=>OR x (hm.2 x hx))
theorem Tg (a:dR)(hm:n4 cz a):cQ (qE a) (mN cz a):=
 cQ.cast (f:=qE a) (cQ.sub (E9 a.1 hm.1) (cQ.sub (JU a.2.1 hm.2.1) (cQ.sub (LV a.2.2.2.1 hm.2.2.2.1) (cQ.sub (yb a.2.2.2.2 hm.2.2.2.2) cQ.nil)))) (by simp only[mN];try omega)
theorem QK (a:List dR)(hm:n4 (.sl cz) a):cQ (uV a) (mN (.sl cz) a):=cQ.list (f:=qE) (s:=mN cz) hm.1 (λx hx=>Tg x (hm.2 x hx))
theorem JV (a:List (List Bytes))(hm:n4 (.sl (.sl .str)) a):cQ (qZ a) (mN (.sl (.sl .str)) a):=cQ.list (f:=jg) (s:=mN (.sl .str)) hm.1 (λx hx=>yb x (hm.2 x hx))
theorem xb (a:List al)(hm:n4 (.sl ay) a):cQ (jh a) (mN (.sl ay) a):=(cQ.flat (n:=a.length) hm.1).cast (by simp only[mN];rw[wo (λx _=>by simp only[mN])];rfl)
theorem LS (a:aR)(hm:n4 ba a):cQ (lI a) (mN ba a):=
 cQ.cast (f:=lI a) (cQ.sub (E9 a.1 hm.1) cQ.nil) (by simp only[mN];try omega)
theorem JT (a:List aR)(hm:n4 (.sl ba) a):cQ (qY a) (mN (.sl ba) a):=cQ.list (f:=lI) (s:=mN ba) hm.1 (λx hx=>LS x (hm.2 x hx))
theorem QH (a:aX)(hm:n4 bk a):cQ (rH a) (mN bk a):=
 cQ.cast (f:=rH a) (cQ.sub (QK a.1 hm.1) (cQ.sub (JV a.2.1 hm.2.1) (cQ.sub (xb a.2.2.1 hm.2.2.1) (cQ.sub (JT a.2.2.2.1 hm.2.2.2.1) (cQ.sub (yb a.2.2.2.2 hm.2.2.2.2) cQ.nil))))) (by simp only[mN];try omega)
theorem LU (a:cC)(hm:n4 fU a):cQ (oY a) (mN fU a):=
 cQ.cast (f:=oY a) (cQ.len (n:=a.2.2.2.2.2.2.2.length) hm.2.2.2.2.2.2.2 cQ.nil) (by simp only[mN];try omega)
theorem OP (a:aC)(hm:n4 bM a):cQ (p9 a) (mN bM a):=
 cQ.cast (f:=p9 a) (cQ.sub (LU a.2.2.2.2.2.2.2.2 hm.2.2.2.2.2.2.2.2) cQ.nil) (by simp only[mN];try omega)
theorem XO (a:Act)(hm:n4 yf a):cQ (uS a) (mN yf a):=
 cQ.cast (f:=uS a) (cQ.sub (OP a.2.1 hm.2.1) (cQ.len (n:=a.2.2.2.2.1.length) hm.2.2.2.2.1 cQ.nil)) (by simp only[mN];try omega)
theorem LR (a:bS)(hm:n4 bD a):cQ (lH a) (mN bD a):=
 cQ.cast (f:=lH a) (cQ.sub (XO a.2.2.1 hm.2.2.1) (cQ.len (n:=a.2.2.2.2.1.length) hm.2.2.2.2.1 cQ.nil)) (by simp only[mN];try omega)
theorem JS (a:List bS)(hm:n4 (.sl bD) a):cQ (qX a) (mN (.sl bD) a):=cQ.list (f:=lH) (s:=mN bD) hm.1 (λx hx=>LR x (hm.2 x hx))
theorem s6 (a:List Bytes)(h:bG 1048576 (.sl .str) a):jl a=some a:=DA (z:=([]:Bytes)) (aP h.1 (by omega))
theorem zi (a:List Int)(h:bG 1048576 (.sl (.int .i64)) a):jD a=some a:=DA (z:=0) (aP h.1 (by omega))
theorem w5 (a:Filter)(h:bG 1048576 dN a):kG a=some a:=by first|(simp only[kG,zi _ h.2.2,ab];done)|(simp only[kG,zi _ h.2.2,ab];rfl)
theorem Tl (a:dF)(h:bG 1048576 dn a):tw a=some a:=rfl
theorem JY (a:List dF)(h:bG 1048576 (.sl dn) a):uW a=some a:=kg (f:=tw) (z:=(0,0,0,0,0,0,0,0,0)) (aP h.1 (by omega)) (λx hx=>Tl x (h.2 x hx))
theorem Bx (a:fg)(h:bG 1048576 iK a):tu a=some a:=rfl
theorem Tm (a:Slot)(h:bG 1048576 cM a):nV a=some a:=by first|(simp only[nV,Bx _ h.2.1,ab];done)|(simp only[nV,Bx _ h.2.1,ab];rfl)
theorem JZ (a:List Slot)(h:bG 1048576 (.sl cM) a):uX a=some a:=kg (f:=nV) (z:=(0,(0,0,0,0,0),0)) (aP h.1 (by omega)) (λx hx=>Tm x (h.2 x hx))
theorem zh (a:List Slot)(h:bG 1048576 (.sl cM) a):jj a=some a:=by first|(simp only[jj,JZ _ h,ab];done)|(simp only[jj,JZ _ h,ab];rfl)
theorem Fe (a:eQ)(h:bG 1048576 gF a):ng a=some a:=by first|(simp only[ng,zi _ h.2,ab];done)|(simp only[ng,zi _ h.2,ab];rfl)
theorem AK (a:dm)(h:bG 1048576 eg a):kq a=some a:=by first|(simp only[kq,JY _ h.1,zh _ h.2.1,Fe _ h.2.2,ab];done)|(simp only[kq,JY _ h.1,zh _ h.2.1,Fe _ h.2.2,ab];rfl)
theorem OS (a:Stream)(h:bG 1048576 bC a):kH a=some a:=by first|(simp only[kH,Bx _ h.1,ab];done)|(simp only[kH,Bx _ h.1,ab];rfl)
theorem DE (a:List Stream)(h:bG 1048576 (.sl bC) a):sQ a=some a:=kg (f:=kH) (z:=((0,0,0,0,0),0,([]:Bytes),false)) (aP h.1 (by omega)) (λx hx=>OS x (h.2 x hx))
theorem Tn (a:dR)(h:bG 1048576 cz a):nW a=some a:=by first|(simp only[nW,w5 _ h.1,AK _ h.2.1,DE _ h.2.2.2.1,s6 _ h.2.2.2.2,ab];done)|(simp only[nW,w5 _ h.1,AK _ h.2.1,DE _ h.2.2.2.1,s6 _ h.2.2.2.2,ab];rfl)
theorem J0 (a:List dR)(h:bG 1048576 (.sl cz) a):uY a=some a:=kg (f:=nW) (z:=((0,false,([]:List Int)),(([]:List dF),([]:List Slot),([]:Bytes),([]:List Int)),0,([]:List Stream),([]:List Bytes))) (aP h.1 (by omega)) (λx hx=>Tn x (h.2 x hx))
theorem AL (a:List (List Bytes))(h:bG 1048576 (.sl (.sl .str)) a):rb a=some a:=kg (f:=jl) (z:=([]:List Bytes)) (aP h.1 (by omega)) (λx hx=>s6 x (h.2 x hx))
theorem Fb (a:ej)(h:bG 1048576 dE a):tT a=some a:=rfl
theorem yd (a:al)(h:bG 1048576 ay a):ec a=some a:=by first|(simp only[ec,Fb _ h.2.2.1,ab];done)|(simp only[ec,Fb _ h.2.2.1,ab];rfl)
theorem rk (a:List al)(h:bG 1048576 (.sl ay) a):jm a=some a:=kg (f:=ec) (z:=(0,0,(0,0,0),false,0,0)) (aP h.1 (by omega)) (λx hx=>yd x (h.2 x hx))
theorem LX (a:aR)(h:bG 1048576 ba a):jk a=some a:=by first|(simp only[jk,w5 _ h.1,ab];done)|(simp only[jk,w5 _ h.1,ab];rfl)
theorem AJ (a:List aR)(h:bG 1048576 (.sl ba) a):ra a=some a:=kg (f:=jk) (z:=((0,false,([]:List Int)),0,0,0)) (aP h.1 (by omega)) (λx hx=>LX x (h.2 x hx))
theorem RY (a:aX)(h:bG 1048576 bk a):hC a=some a:=by first|(simp only[hC,J0 _ h.1,AL _ h.2.1,rk _ h.2.2.1,AJ _ h.2.2.2.1,s6 _ h.2.2.2.2,ab];done)|(simp only[hC,J0 _ h.1,AL _ h.2.1,rk _ h.2.2.1,AJ _ h.2.2.2.1,s6 _ h.2.2.2.2,ab];rfl)
theorem DD (a:cC)(h:bG 1048576 fU a):sP a=some a:=rfl
theorem Fc (a:aC)(h:bG 1048576 bM a):nf a=some a:=by first|(simp only[nf,DD _ h.2.2.2.2.2.2.2.2,ab];done)|(simp only[nf,DD _ h.2.2.2.2.2.2.2.2,ab];rfl)
theorem RX (a:Act)(h:bG 1048576 yf a):sL a=some a:=by first|(simp only[sL,Fc _ h.2.1,ab];done)|(simp only[sL,Fc _ h.2.1,ab];rfl)
theorem DC (a:ej)(h:bG 1048576 dE a):sO a=some a:=rfl
theorem LW (a:bS)(h:bG 1048576 bD a):ji a=some a:=by first|(simp only[ji,RX _ h.2.2.1,DC _ h.2.2.2.1,ab];done)|(simp only[ji,RX _ h.2.2.1,DC _ h.2.2.2.1,ab];rfl)
theorem JX (a:List bS)(h:bG 1048576 (.sl bD) a):gT a=some a:=kg (f:=ji) (z:=(0,0,(0,(0,0,0,0,0,0,0,0,0,0,0,0,0,0,0,([]:Bytes)),0,0,([]:Bytes),0),(0,0,0),([]:Bytes),0)) (aP h.1 (by omega)) (λx hx=>LW x (h.2 x hx))
theorem xF (a:List Bytes)(h:bG 1000000000000 (.sl .str) a):jb a a=some true:=yp h.1
theorem Gl (a:List Int)(h:bG 1000000000000 (.sl (.int .i64)) a):qA a a=some true:=yp h.1
theorem Ev (a:Filter)(h:bG 1000000000000 dN a):m9 a a=some true:=by simp[m9,Gl _ h.2.2]
theorem Sm (a:dF)(h:bG 1000000000000 dn a):qB a a=some true:=by simp[qB]
theorem Pw (a:List dF)(h:bG 1000000000000 (.sl dn) a):uP a a=some true:=gi (f:=qB) h.1 (λx hx=>Sm x (h.2 x hx))
theorem ME (a:fg)(h:bG 1000000000000 iK a):qz a a=some true:=by simp[qz]
theorem Sn (a:Slot)(h:bG 1000000000000 cM a):qC a a=some true:=by simp[qC,ME _ h.2.1]
theorem Px (a:List Slot)(h:bG 1000000000000 (.sl cM) a):uQ a a=some true:=gi (f:=qC) h.1 (λx hx=>Sn x (h.2 x hx))
theorem Gk (a:List Slot)(h:bG 1000000000000 (.sl cM) a):me a a=some true:=by simp[me,Px _ h]
theorem NF (a:eQ)(h:bG 1000000000000 gF a):p8 a a=some true:=by simp[p8,Gl _ h.2]
theorem Ib (a:dm)(h:bG 1000000000000 eg a):ny a a=some true:=by simp[ny,Pw _ h.1,Gk _ h.2.1,NF _ h.2.2]
theorem NG (a:Stream)(h:bG 1000000000000 bC a):na a a=some true:=by simp[na,ME _ h.1]
theorem KC (a:List Stream)(h:bG 1000000000000 (.sl bC) a):sD a a=some true:=gi (f:=na) h.1 (λx hx=>NG x (h.2 x hx))
theorem So (a:dR)(h:bG 1000000000000 cz a):qD a a=some true:=by simp[qD,Ev _ h.1,Ib _ h.2.1,KC _ h.2.2.2.1,xF _ h.2.2.2.2]
theorem Py (a:List dR)(h:bG 1000000000000 (.sl cz) a):uR a a=some true:=gi (f:=qD) h.1 (λx hx=>So x (h.2 x hx))
theorem Ic (a:List (List Bytes))(h:bG 1000000000000 (.sl (.sl .str)) a):qW a a=some true:=gi (f:=jb) h.1 (λx hx=>xF x (h.2 x hx))
theorem NC (a:ej)(h:bG 1000000000000 dE a):p6 a a=some true:=by simp[p6]
theorem xG (a:al)(h:bG 1000000000000 ay a):eO a a=some true:=by simp[eO,NC _ h.2.2.1]
theorem w7 (a:List al)(h:bG 1000000000000 (.sl ay) a):jc a a=some true:=gi (f:=eO) h.1 (λx hx=>xG x (h.2 x hx))
theorem Kz (a:aR)(h:bG 1000000000000 ba a):lB a a=some true:=by simp[lB,Ev _ h.1]
theorem Ia (a:List aR)(h:bG 1000000000000 (.sl ba) a):qV a a=some true:=gi (f:=lB) h.1 (λx hx=>Kz x (h.2 x hx))
theorem H9 (a:aX)(h:bG 1000000000000 bk a):jQ a a=some true:=by simp[jQ,Py _ h.1,Ic _ h.2.1,w7 _ h.2.2.1,Ia _ h.2.2.2.1,xF _ h.2.2.2.2]
theorem KB (a:cC)(h:bG 1000000000000 fU a):oI a a=some true:=by simp[oI]
theorem ND (a:aC)(h:bG 1000000000000 bM a):p7 a a=some true:=by simp[p7,KB _ h.2.2.2.2.2.2.2.2]
theorem U2 (a:Act)(h:bG 1000000000000 yf a):uO a a=some true:=by simp[uO,ND _ h.2.1]
theorem KA (a:ej)(h:bG 1000000000000 dE a):oH a a=some true:=by simp[oH]
theorem Ky (a:bS)(h:bG 1000000000000 bD a):lA a a=some true:=by simp[lA,U2 _ h.2.2.1,KA _ h.2.2.2.1]
theorem H8 (a:List bS)(h:bG 1000000000000 (.sl bD) a):qU a a=some true:=gi (f:=lA) h.1 (λx hx=>Ky x (h.2 x hx))
def dD (a lo hi:Int):Bool:=decide (lo≤a)&&decide (a≤hi)
theorem de {a lo hi:Int}:dD a lo hi=true↔lo≤a∧a≤hi:=by simp[dD]
theorem cV (a b c:Int):aQ a b c=some (dD a b c):=by simp only[aQ,bl,ab,dD];cases h:decide (a≥b)<;>rfl
theorem dK (a b c:Int):aG a b c=some (dD a b c):=cV a b c
theorem bF {α:Type}{l:List α}{i:Nat}(h:i<l.length)(d:α):l.getD i d=l[i]:=by rw[List.getD_eq_getElem?_getD,List.getElem?_eq_getElem h];rfl
def xx (l:List Int)(i:Nat):Bool:=dD (l.getD i 0) 0 4095&& !(decide (0<i)&&decide (l.getD i 0≤l.getD (i-1) 0))
def c8 (f:Filter):Bool:=(List.range f.2.2.length).all (xx f.2.2)&&(dD f.1 0 281474976710654&&decide ((f.2.2.length:Int)≤8))
theorem lN (f:Filter)(h:f.2.2.length≤1000000000):dG f=some (c8 f):=by
 unfold dG;rw[fH (hit:=some false) (fin:=some (dD f.1 0 281474976710654&&decide ((f.2.2.length:Int)≤8))) (xx f.2.2) f.2.2.length (by omega) (λi nx hi=>?hs) (λnx=>?hf)]
 case hs=>
  simp only[mr]
  rw[aj (by omega),aZ hi,wrap64 (n:=(i:Int)+1) (by omega) (by omega)]
  simp only[ae,ab,cV,xx,bF hi]
  by_cases h0:0<i
  ·have e:aw ((i:Int)-1)=((i-1:Nat):Int):=by rw[wrap64 (by omega) (by omega)];omega
   have hp:i-1<f.2.2.length:=by omega
   rw[e,aZ hp,aj (show(i:Int)>0 by omega),aj h0,bF hp]
   simp only[ae,ab,bn]
   cases dD f.2.2[i] 0 4095<;>cases decide (f.2.2[i]≤f.2.2[i-1])<;>rfl
  ·rw[ah (show¬(i:Int)>0 by omega),ah h0]
   simp only[af,cD]
   cases dD f.2.2[i] 0 4095<;>rfl
 case hf=>
  simp only[mr]
  rw[ah (by omega)]
  simp only[af,cV,ab,vp,bl]
  cases dD f.1 0 281474976710654<;>rfl
 unfold c8;cases (List.range f.2.2.length).all (xx f.2.2)<;>rfl
theorem lu (f:Filter)(h:f.2.2.length≤1000000000):eu f=some (c8 f):=by
 unfold eu;rw[fH (hit:=some false) (fin:=some (dD f.1 0 281474976710654&&decide ((f.2.2.length:Int)≤8))) (xx f.2.2) f.2.2.length (by omega) (λi nx hi=>?hs) (λnx=>?hf)]
 case hs=>
  simp only[lU]
  rw[aj (by omega),aZ hi,wrap64 (n:=(i:Int)+1) (by omega) (by omega)]
  simp only[ae,ab,dK,xx,bF hi]
  by_cases h0:0<i
  ·have e:aw ((i:Int)-1)=((i-1:Nat):Int):=by rw[wrap64 (by omega) (by omega)];omega
   have hp:i-1<f.2.2.length:=by omega
   rw[e,aZ hp,aj (show(i:Int)>0 by omega),aj h0,bF hp]
   simp only[ae,ab,bn,ge_iff_le]
   cases dD f.2.2[i] 0 4095<;>cases decide (f.2.2[i]≤f.2.2[i-1])<;>rfl
  ·rw[ah (show¬(i:Int)>0 by omega),ah h0]
   simp only[af,cD]
   cases dD f.2.2[i] 0 4095<;>rfl
 case hf=>
  simp only[lU]
  rw[ah (by omega)]
  simp only[af,dK,ab,vp,bl]
  cases dD f.1 0 281474976710654<;>rfl
 unfold c8;cases (List.range f.2.2.length).all (xx f.2.2)<;>rfl
def uz (r:dF):Bool:=(ia r).getD false
theorem Dl (r:dF):ia r=some (uz r):=by
 have:∃b,ia r=some b:=by simp only[ia,cV,ab,bl];exact⟨_,rfl⟩
 obtain⟨b,hb⟩:=this;simp[uz,hb]
theorem PU (r:dF):tj r=some (uz r):=Dl r
theorem Js {r:dF}(h:uz r=true):r.2.2.2.2.2.2.2.1=0∨r.2.2.2.2.2.2.2.2=0:=by
 by_cases h0:r.2.2.2.2.2.2.2.1=0;exact .inl h0;by_cases h1:r.2.2.2.2.2.2.2.2=0;exact .inr h1;exfalso;have e0:(r.2.2.2.2.2.2.2.1==0)=false:=by simp[h0]
 have e1:(r.2.2.2.2.2.2.2.2==0)=false:=by simp[h1]
 revert h;unfold uz;simp only[ia,cV,ab,bl,e0,e1,af,dH];have z:∀c:Bool,(bif c then false else false)=false:=by intro c;cases c<;>rfl
 simp only[z];intro h;cases h
def sX (l:List dF):Bool:=l.all uz&&decide ((l.length:Int)≤12)
theorem wX (l:List dF)(h:l.length≤1000000000):pk l=some (sX l):=by
 unfold pk;rw[sa (hit:=some false) (fin:=some (decide ((l.length:Int)≤12))) uz l (by omega) (λi hi nx=>?hs) (λnx=>?hf)]
 case hs=>
  simp only[nE]
  rw[aj (by omega),aZ hi,wrap64 (by omega) (by omega)]
  simp only[ae,ab,Dl];rfl
 case hf=>
  simp only[nE]
  rw[ah (by omega)];rfl
 unfold sX;cases l.all uz<;>rfl
theorem EH (l:List dF)(h:l.length≤1000000000):rE l=some (sX l):=by rw[←wX l h];rfl
theorem adJ (x:Int):((BitVec.ofInt 64 x&&&BitVec.ofInt 64 7).toNat:Int)=x%8:=by
 have h7:(BitVec.ofInt 64 7).toNat=2^3-1:=by decide
 rw[BitVec.toNat_and,h7,Nat.and_two_pow_sub_one_eq_mod];simp only[BitVec.toNat_ofInt];omega
theorem YS (x:Int):((BitVec.ofInt (IntKind.bits .i64) x&&&BitVec.ofInt (IntKind.bits .i64) 7).toNat:Int)=x%8:=adJ x
theorem SR (x:Int):jC x 8=some (x%8):=by unfold jC;rw[ar (by omega),Int.tmod_eq_emod];split;rw[ah (by omega)];simp;rw[aj (by simp;omega),wrap64 (by simp;omega) (by simp;omega)];simp
def xh (f:fg):Int:=(f.1%8+f.2.1%8+f.2.2.1%8+f.2.2.2.1%8+f.2.2.2.2%8)%8
theorem Iz (f:fg):0≤xh f∧xh f<8:=by unfold xh;omega
theorem RV {n:Int}(h:0≤n):Int.tmod n 8=n%8:=Int.tmod_eq_emod_of_nonneg h
theorem QA (f:fg):qj f=some (xh f):=by
 unfold qj;generalize hL:[f.1,f.2.1,f.2.2.1,f.2.2.2.1,f.2.2.2.2]=L;have hlen:L.length=5:=by rw[←hL];rfl
 have hfu:=fj;have key:=um (R:=Int) (T:=jx (λ(y2:Int) (y3:Int)=>if 8=0 then none else(some (Int.tmod y2 8))) L) L (λ(s:Int) i=>(s,(i:Int))) (λx s k=>k (aw (s+aw (x%8)))) (λs=>some (Int.tmod s 8)) (λi hi s nx=>by simp only[jx];rw[aj (by omega),aZ hi,wrap64 (n:=(i:Int)+1) (by omega) (by omega)];simp only[ae,ab];rw[YS L[i]];rfl) (λs nx=>by simp only[jx];rw[ah (by omega)];rfl) fuel 0 0 (by omega) (by omega);refine key.trans ?_;rw[←hL];simp only[c5,td];rw[wrap64 (n:=f.1%8) (by omega) (by omega),wrap64 (n:=f.2.1%8) (by omega) (by omega),wrap64 (n:=f.2.2.1%8) (by omega) (by omega),wrap64 (n:=f.2.2.2.1%8) (by omega) (by omega),wrap64 (n:=f.2.2.2.2%8) (by omega) (by omega)];rw[wrap64 (n:=0+f.1%8) (by omega) (by omega),wrap64 (n:=0+f.1%8+_) (by omega) (by omega),wrap64 (n:=0+f.1%8+_+_) (by omega) (by omega),wrap64 (n:=0+f.1%8+_+_+_) (by omega) (by omega),wrap64 (n:=0+f.1%8+_+_+_+_) (by omega) (by omega)];rw[RV (by omega),xh,Int.zero_add]
theorem PO (f:fg):pU f=some (xh f):=by
 unfold pU;generalize hL:[f.1,f.2.1,f.2.2.1,f.2.2.2.1,f.2.2.2.2]=L;have hlen:L.length=5:=by rw[←hL];rfl
 have hfu:=fj;have key:=um (R:=Int) (T:=iW (λ(y2:Int) (y3:Int)=>if 8=0 then none else(some (Int.tmod y2 8))) L (L.length:Int)) L (λ(s:Int) i=>(s,(i:Int))) (λx s k=>k (aw (s+(x%8)))) (λs=>some (Int.tmod s 8)) (λi hi s nx=>by simp only[iW];rw[aj (by omega),aZ hi,wrap64 (n:=(i:Int)+1) (by omega) (by omega)];simp only[ae,ab,SR];rfl) (λs nx=>by simp only[iW];rw[ah (by omega)];rfl) fuel 0 0 (by omega) (by omega);refine key.trans ?_;rw[←hL];simp only[c5,td];rw[wrap64 (n:=0+f.1%8) (by omega) (by omega),wrap64 (n:=0+f.1%8+_) (by omega) (by omega),wrap64 (n:=0+f.1%8+_+_) (by omega) (by omega),wrap64 (n:=0+f.1%8+_+_+_) (by omega) (by omega),wrap64 (n:=0+f.1%8+_+_+_+_) (by omega) (by omega)];rw[RV (by omega),xh,Int.zero_add]
def dM (t:List Slot)(i:Nat):Slot:=t.getD i (0,(0,0,0,0,0),0)
theorem sg {t:List Slot}{i:Nat}(h:i<t.length):dM t i=t[i]:=bF h _
def gK (f:fg)(k:Nat):Nat:=((xh f).toNat+k)%8
theorem zn (f:fg)(k:Nat):gK f k<8:=Nat.mod_lt _ (by omega)
theorem J2 (f:fg)(k:Nat)(h:k<8):Int.tmod (aw (xh f+(k:Int))) 8=(gK f k:Int):=by have:=Iz f;rw[wrap64 (by omega) (by omega),RV (by omega),gK];omega
def kB (s:Slot)(f:fg):Bool:=(s.1==1)&&decide (s.2.1=f)
theorem yr (p q:fg):((p.1==q.1)&&((p.2.1==q.2.1)&&((p.2.2.1==q.2.2.1)&&((p.2.2.2.1==q.2.2.2.1)&&((p.2.2.2.2==q.2.2.2.2)&&true)))))=decide (p=q):=by obtain⟨a,b,c,d,e⟩:=p;obtain⟨a',b',c',d',e'⟩:=q;rw[bK];simp
def walk (t:List Slot)(f:fg):Nat→Nat→Int
 |0,_=> -1
 |n+1,k=>if(dM t (gK f k)).1=0 then-1 else if kB (dM t (gK f k)) f then(gK f k:Int) else walk t f n (k+1)
theorem JE (t:List Slot)(f:fg)(ht:t.length=8):pq t f=some (walk t f 8 0):=by
 unfold pq;have hfu:=fj
 have key:=wN (R:=Int) (T:=kz (λ(y6:Int)=>some (-1)) (λ(y7:Int) (y8:Int)=>some y7) 0 t f) 8 (λ(_:Unit) i=>(i:Int))
  (λi s k=>if(dM t (gK f i)).1=0 then some (-1) else if kB (dM t (gK f i)) f then some (gK f i:Int) else k s) (λ_=>some (-1))
  (λi s nx hi=>by
   have hw:gK f i<t.length:=by have:=zn f i;omega
   simp only[kz,QA];rw[aj (by omega),wrap64 (n:=(i:Int)+1) (by omega) (by omega)];simp only[ae,ab,J2 f i hi,aZ hw,sg hw,yr,kB,bl,ab];rw[ar (by omega)];by_cases h0:t[gK f i].1=0;simp[h0];have e0:(t[gK f i].1==0)=false:=by simp[h0]
   rw[e0,ar h0];cases (t[gK f i].1==1)<;>cases decide (t[gK f i].2.1=f)<;>rfl)
  (λs nx=>by simp only[kz];rfl)
  fuel 0 () (by omega) (by omega)
 refine key.trans ?_;have main:∀n i,R6 (R:=Int) (λi (s:Unit) k=>if(dM t (gK f i)).1=0 then some (-1) else if kB (dM t (gK f i)) f then some (gK f i:Int) else k s) (λ_=>some (-1)) 8 n i ()=some (walk t f n i):=by intro n;induction n with|zero=>intro i;rfl|succ n ih=>intro i;rw[R6,walk];split;rfl;split;rfl;exact ih (i+1)
 exact main 8 0
def qQ (f:fg):List Slot→Int→Int
 |[],_=> -1
 |s::r,i=>if kB s f then i else qQ f r (i+1)
theorem IL (t:List Slot)(f:fg)(h:t.length≤1000000000):qy t f=some (qQ f t 0):=by
 unfold qy;have hfu:=fj;have key:∀n i,i≤t.length→t.length-i<n→aV (oF (λ(y3:Int)=>some (-1)) (λ(y4:Int) (y5:Int)=>some y4) 0 t ((List.length t:Int)) f) n (i:Int)=some (qQ f (t.drop i) i):=by
  intro n;induction n with
  |zero=>intro i _ h;omega
  |succ n ih=>
   intro i hi hn;rw[aV];simp only[oF];rcases bc i t.length with hlt|hge;rw[aj (by omega),aZ hlt,bh hlt,qQ,wrap64 (by omega) (by omega)];simp only[ae,ab,yr,bl];have e:(bif t[i].1==1 then decide (t[i].2.1=f) else false)=kB t[i] f:=by unfold kB;cases (t[i].1==1)<;>rfl
   rw[e];cases kB t[i] f with|true=>rfl|false=>exact ih (i+1) (by omega) (by omega)
   have:i=t.length:=by omega
   subst this;rw[ah (by omega),List.drop_length];rfl
 exact key fuel 0 (by omega) (by omega)
theorem SC (f:fg):uM f=some ((List.range 8).map λk=>(gK f k:Int)):=by unfold uM;have hfu:=fj;have key:=wN (R:=List Int) (T:=m8 (λ(y2:List Int) (y3:Int)=>some y2) f) 8 (λ(_:Unit) i=>((List.range i).map (λk=>(gK f k:Int)),(i:Int))) (λ_ s k=>k s) (λ_=>some ((List.range 8).map λk=>(gK f k:Int))) (λi s nx hi=>by simp only[m8,PO];rw[aj (by omega),wrap64 (n:=(i:Int)+1) (by omega) (by omega)];simp only[ae,ab,J2 f i hi];rw[ar (by omega),aN (by simp;omega),List.range_succ,List.map_append];rfl) (λs nx=>by simp only[m8];rfl) fuel 0 () (by omega) (by omega);exact key
def clear (t:List Slot)(f:fg)(i:Nat):Nat→Nat→Bool
 |0,_=>true
 |n+1,k=>if gK f k=i then true else if(dM t (gK f k)).1=0 then false else clear t f i n (k+1)
theorem NM {R:Type}(k0:Int→Option R)(k1:Bool→Int→Option R)(hit fin:Option R)(h0:∀x,k0 x=fin)(h1:∀x,k1 false x=hit)(v2:Bool)(i:Nat)(v12:List Slot)(v13 v14:Int)(t:List Slot)(f:fg)(ht:t.length=8): aV (gr k0 k1 v2 (i:Int) v12 v13 v14 ((List.range 8).map λk=>(gK f k:Int)) (((List.range 8).map λk=>(gK f k:Int)).length:Int) t) fuel 0=cond (clear t f i 8 0) fin hit:=by
 have hfu:=fj;have hl:((List.range 8).map λk=>(gK f k:Int)).length=8:=by simp
 have key:=wN (R:=R) (T:=gr k0 k1 v2 (i:Int) v12 v13 v14 ((List.range 8).map λk=>(gK f k:Int)) (((List.range 8).map λk=>(gK f k:Int)).length:Int) t) 8 (λ(_:Unit) i=>(i:Int))
  (λk s c=>if gK f k=i then fin else if(dM t (gK f k)).1=0 then hit else c s) (λ_=>fin)
  (λk s nx hk=>by
   have hw:gK f k<t.length:=by have:=zn f k;omega
   simp only[gr];rw[aj (by omega),aZ (show k<((List.range 8).map λk=>(gK f k:Int)).length by omega),wrap64 (n:=(k:Int)+1) (by omega) (by omega)];simp only[ae,ab,List.getElem_map,List.getElem_range,aZ hw,sg hw,h0,h1];by_cases e1:gK f k=i;subst e1;simp;have:((gK f k:Int)==(i:Int))=false:=by simp;omega
   rw[this,ar e1];by_cases e2:t[gK f k].1=0;simp[e2];have:(t[gK f k].1==0)=false:=by simp[e2]
   rw[this,ar e2];rfl)
  (λs nx=>by simp only[gr];rw[ah (by omega)];exact h0 _)
  fuel 0 () (by omega) (by omega)
 refine key.trans ?_;have main:∀n k,R6 (R:=R) (λk (s:Unit) c=>if gK f k=i then fin else if(dM t (gK f k)).1=0 then hit else c s) (λ_=>fin) 8 n k ()=cond (clear t f i n k) fin hit:=by intro n;induction n with|zero=>intro k;rfl|succ n ih=>intro k;rw[R6,clear];split;rfl;split;rfl;exact ih (k+1)
 exact main 8 0
def Ir:fg:=(0,0,0,0,0)
theorem Is (p:fg):((p.1==0)&&((p.2.1==0)&&((p.2.2.1==0)&&((p.2.2.2.1==0)&&((p.2.2.2.2==0)&&true)))))=decide (p=Ir):=yr p Ir
def Jy (s:Slot):Bool:=dD s.1 0 2&&dD s.2.2 0 3&&((s.1==1)||(s.2.2==0)&&decide (s.2.1=Ir))
def kJ (t:List Slot)(i:Nat):Bool:=Jy (dM t i)&&(!((dM t i).1==1)||(walk t (dM t i).2.1 8 0==(i:Int)))
def nU (t:List Slot)(i:Nat):Bool:=Jy (dM t i)&&(!((dM t i).1==1)||(qQ (dM t i).2.1 t 0==(i:Int))&&clear t (dM t i).2.1 i 8 0)
def mQ (t:List Slot):Bool:=(t.length==8)&&(List.range 8).all (kJ t)
theorem E5 (t:List Slot):pn t=some (mQ t):=by
 unfold pn mQ;by_cases ht:t.length=8
 ·have e:((t.length:Int) !=8)=false:=by rw[ht];rfl
  have e2:(t.length==8)=true:=by rw[ht];rfl
  rw[e,e2];simp only[af,bn];rw[fH (hit:=some false) (fin:=some true) (kJ t) 8 (by omega) (λi nx hi=>?hs) (λnx=>?hf)]
  case hs=>
   have hl:i<t.length:=by omega
   simp only[nH]
   rw[aj (by omega),aZ hl,wrap64 (by omega) (by omega)]
   simp only[ae,ab,cV,bl,Is,JE t _ ht,kJ,sg hl,Jy,bne]
   cases dD t[i].1 0 2<;>cases dD t[i].2.2 0 3<;>cases (t[i].1==1)<;>cases (t[i].2.2==0)<;>cases decide (t[i].2.1=Ir)<;>first|rfl|(cases (walk t t[i].2.1 8 0==(i:Int))<;>rfl)
  case hf=>
   simp only[nH]
   rw[ah (by omega)];rfl
  cases (List.range 8).all (kJ t)<;>rfl
 have e:((t.length:Int) !=8)=true:=by simp;omega
 have e2:(t.length==8)=false:=by simp[ht]
 rw[e,e2];rfl
theorem KU (t:List Slot):mc t=some ((t.length==8)&&(List.range 8).all (nU t)):=by
 unfold mc;by_cases ht:t.length=8
 ·have e:((t.length:Int) !=8)=false:=by rw[ht];rfl
  have e2:(t.length==8)=true:=by rw[ht];rfl
  rw[e,e2];simp only[af,bn];rw[fH (hit:=some false) (fin:=some true) (nU t) 8 (by omega) (λi nx hi=>?hs) (λnx=>?hf)]
  case hs=>
   have hl:i<t.length:=by omega
   simp only[nu]
   rw[aj (by omega),aZ hl,wrap64 (by omega) (by omega)]
   simp only[ae,ab,dK,bl,Is,IL t _ (show t.length≤1000000000 by omega),SC,nU,sg hl,Jy,bne]
   rw[NM (λ_=>nx ((i:Int)+1)) (λ(y:Bool) (_:Int)=>some y) (some false) (nx ((i:Int)+1)) (λ_=>rfl) (λ_=>rfl) _ _ _ _ _ _ _ ht]
   cases dD t[i].1 0 2<;>cases dD t[i].2.2 0 3<;>cases (t[i].1==1)<;>cases (t[i].2.2==0)<;>cases decide (t[i].2.1=Ir)<;>first|rfl|(cases (qQ t[i].2.1 t 0==(i:Int))<;>first|rfl|(cases clear t t[i].2.1 i 8 0<;>rfl))
  case hf=>
   simp only[nu]
   rw[ah (by omega)];rfl
  cases (List.range 8).all (nU t)<;>rfl
 have e:((t.length:Int) !=8)=true:=by simp;omega
 have e2:(t.length==8)=false:=by simp[ht]
 rw[e,e2];rfl
theorem Fh (t:List Slot)(f:fg)(i:Nat):∀n k,walk t f n k=(i:Int)→kB (dM t i) f=true∧clear t f i n k=true∧∃j,j<n∧gK f (k+j)=i
 |0,k,h=>by unfold walk at h;omega
 |n+1,k,h=>by
  unfold walk at h;unfold clear;by_cases h0:(dM t (gK f k)).1=0;rw[az h0]at h;omega;rw[ar h0]at h;by_cases h1:kB (dM t (gK f k)) f=true;rw[az h1]at h;have:gK f k=i:=by omega
  subst this;exact⟨h1,by simp,0,by omega,rfl⟩;rw[ar h1]at h;obtain⟨a,b,j,hj,e⟩:=Fh t f i n (k+1) h;refine⟨a,?_,j+1,by omega,by rw[←e];congr 1;omega⟩;rw[ar h0,b];split<;>rfl
theorem No (t:List Slot)(f:fg)(i:Nat)(hu:kB (dM t i) f=true)(huniq:∀j,j<8→kB (dM t j) f=true→j=i):∀n k,clear t f i n k=true→(∃j,j<n∧gK f (k+j)=i)→walk t f n k=(i:Int)
 |0,k,_,h=>by obtain⟨j,hj,_⟩:=h;omega
 |n+1,k,hc,⟨j,hj,e⟩=>by unfold walk;unfold clear at hc;by_cases h1:gK f k=i;rw[h1,ar,az hu];intro h0;unfold kB at hu;rw[h0]at hu;simp at hu;rw[ar h1]at hc;by_cases h0:(dM t (gK f k)).1=0;rw[az h0]at hc;cases hc;rw[ar h0]at hc;rw[ar h0,ar (λhu'=>h1 (huniq _ (zn f k) hu'))];refine No t f i hu huniq n (k+1) hc ?_;cases j with|zero=>exact absurd e h1|succ j=>exact⟨j,by omega,by rw[←e];congr 1;omega⟩
theorem Tq (f:fg)(i:Nat)(hi:i<8):∃j,j<8∧gK f (0+j)=i:=by have:=Iz f;refine⟨(i+8-(xh f).toNat)%8,by omega,?_⟩;unfold gK;omega
theorem vP (f:fg):∀(t:List Slot)(m:Nat),(∃j,j<t.length∧kB (dM t j) f=true)→∃j,j<t.length∧kB (dM t j) f=true∧qQ f t m=((m+j:Nat):Int)
 |[],_,h=>by obtain⟨j,hj,_⟩:=h;simp at hj
 |s::r,m,⟨j,hj,e⟩=>by
  unfold qQ;by_cases hs:kB s f=true;rw[az hs];exact⟨0,by simp,by simpa[dM]using hs,by simp⟩;rw[ar hs];cases j with
  |zero=>exact absurd (by simpa[dM]using e) hs
  |succ j=>
   obtain⟨j',h1,h2,h3⟩:=vP f r (m+1) ⟨j,by simpa using hj,by simpa[dM]using e⟩;refine⟨j'+1,by simpa using h1,by simpa[dM]using h2,?_⟩;have:((m:Int)+1)=((m+1:Nat):Int):=by omega
   rw[this,h3];congr 1;omega
theorem Lz (t:List Slot)(ht:t.length=8):(List.range 8).all (nU t)=(List.range 8).all (kJ t):=by
 rw[bK,a7,a7];simp only[c6];constructor;intro h i hi;have hI:=h i hi;unfold nU at hI;unfold kJ;simp only[ai,bZ,aJ,aS]at hI⊢;refine⟨hI.1,?_⟩;rcases hI.2 with h1|⟨h1,h2⟩;exact .inl h1;by_cases hu:((dM t i).1==1)=true;right;have hu':kB (dM t i) (dM t i).2.1=true:=by unfold kB;rw[hu];simp
 refine No t _ i hu' (λj hj huj=>?_) 8 0 h2 (Tq _ i hi);have hJ:=h j hj;unfold nU at hJ;unfold kB at huj;simp only[ai,aY]at huj;simp only[ai,bZ,aJ,aS]at hJ;rcases hJ.2 with h3|⟨h3,_⟩;rw[huj.1]at h3;cases h3;rw[huj.2]at h3;omega;exact .inl (by simpa using hu);intro h i hi;have hI:=h i hi;unfold kJ at hI;unfold nU;simp only[ai,bZ,aJ,aS]at hI⊢;refine⟨hI.1,?_⟩;rcases hI.2 with h1|h1;exact .inl h1;right;obtain⟨hu,hc,_⟩:=Fh t _ i 8 0 h1;refine⟨?_,hc⟩;obtain⟨j,hj,huj,e⟩:=vP (dM t i).2.1 t 0 ⟨i,by omega,hu⟩;have hJ:=h j (by omega);unfold kJ at hJ;unfold kB at huj;simp only[ai,aY]at huj;simp only[ai,bZ,aJ,aS]at hJ;rcases hJ.2 with h3|h3;rw[huj.1]at h3;cases h3;rw[huj.2,h1]at h3;have e':qQ (dM t i).2.1 t 0=((0+j:Nat):Int):=e;rw[e'];omega
theorem EI (t:List Slot):mc t=some (mQ t):=by
 rw[KU,mQ];by_cases ht:t.length=8;rw[Lz t ht];have e2:(t.length==8)=false:=by simp[ht]
 rw[e2];rfl
def M6 (n:Int):Bool:=(n==1)||(n==2)||(n==4)||(n==8)||(n==16)
theorem K4 (n:Int):rT n=some (M6 n):=by simp only[rT,bl,ab,M6];cases (n==1)<;>cases (n==2)<;>cases (n==4)<;>cases (n==8)<;>rfl
def qq (s:eQ)(q:Int):Bool:=dD q 1 4&&((s.1.length:Int)==16)&&M6 s.2.length&&s.2.all λx=>dD x 0 (q-1)
theorem xX (s:eQ)(q:Int)(h:s.2.length≤1000000000):nk s q=some (qq s q):=by
 unfold nk qq;simp only[cV,K4,ab,bl,bne];by_cases hq:dD q 1 4=true
 ·rw[sa (hit:=some false) (fin:=some true) (λx=>dD x 0 (q-1)) s.2 (by omega) (λi hi nx=>?hs) (λnx=>?hf)]
  case hs=>
   rw[de]at hq
   simp only[mC]
   rw[aj (by omega),aZ hi,wrap64 (n:=(i:Int)+1) (by omega) (by omega),wrap64 (n:=q-1) (by omega) (by omega)]
   simp only[ae,ab,cV];rfl
  case hf=>
   simp only[mC]
   rw[ah (by omega)];rfl
  rw[hq];cases ((s.1.length:Int)==16)<;>cases M6 s.2.length<;>cases s.2.all (λx=>dD x 0 (q-1))<;>rfl
 have hq':dD q 1 4=false:=by simpa using hq
 rw[hq'];rfl
theorem CJ (s:eQ)(q:Int)(h:s.2.length≤1000000000):pZ s q=some (qq s q):=by rw[←xX s q h];rfl
def n0 (s:dm)(q:Int):Bool:=sX s.1&&mQ s.2.1&&qq s.2.2 q&&s.1.all (λr=> !(decide (r.2.2.2.2.2.2.2.2≥q)))&&s.2.1.all (λx=> !(decide (x.2.2≥q)))
theorem yZ (s:dm)(q:Int)(h1:s.1.length≤1000000000)(h2:s.2.1.length≤1000000000)(h3:s.2.2.2.length≤1000000000):ky s q=some (n0 s q):=by
 unfold ky n0;simp only[wX _ h1,E5,xX _ _ h3,ab,bl];rw[sa (hit:=some false) (fin:=cond (s.2.1.all (λx=> !(decide (x.2.2≥q)))) (some true) (some false)) (λr:dF=> !(decide (r.2.2.2.2.2.2.2.2≥q))) s.1 (by omega) (λi hi nx=>?hs) (λnx=>?hf)]
 case hs=>
  simp only[jZ]
  rw[aj (by omega),aZ hi,wrap64 (by omega) (by omega)]
  simp only[ae,ab,dY];rfl
 case hf=>
  simp only[jZ]
  rw[ah (by omega)]
  simp only[af]
  rw[sa (hit:=some false) (fin:=some true) (λx:Slot=> !(decide (x.2.2≥q))) s.2.1 (by omega) (λi hi nx=>?hs) (λnx=>?hf)]
  case hs=>
   simp only[ka]
   rw[aj (by omega),aZ hi,wrap64 (by omega) (by omega)]
   simp only[ae,ab,dY];rfl
  case hf=>
   simp only[ka]
   rw[ah (by omega)];rfl
 cases sX s.1<;>cases mQ s.2.1<;>cases qq s.2.2 q<;>cases s.1.all (λr=> !(decide (r.2.2.2.2.2.2.2.2≥q)))<;>cases s.2.1.all (λx=> !(decide (x.2.2≥q)))<;>rfl
theorem yz (s:dm)(q:Int)(h1:s.1.length≤1000000000)(h2:s.2.1.length≤1000000000)(h3:s.2.2.2.length≤1000000000):km s q=some (n0 s q):=by
 unfold km n0;simp only[EH _ h1,EI,CJ _ _ h3,ab,bl];rw[sa (hit:=some false) (fin:=cond (s.2.1.all (λx=> !((x.1==1)&&decide (x.2.2≥q)))) (some true) (some false)) (λr:dF=> !((r.2.2.2.2.2.2.2.1==0)&&decide (r.2.2.2.2.2.2.2.2≥q))) s.1 (by omega) (λi hi nx=>?hs) (λnx=>?hf)]
 case hs=>
  simp only[jN]
  rw[aj (by omega),aZ hi,wrap64 (by omega) (by omega)]
  simp only[ae,ab,dY,bl]
  cases (s.1[i].2.2.2.2.2.2.2.1==0)<;>rfl
 case hf=>
  simp only[jN]
  rw[ah (by omega)]
  simp only[af]
  rw[sa (hit:=some false) (fin:=some true) (λx:Slot=> !((x.1==1)&&decide (x.2.2≥q))) s.2.1 (by omega) (λi hi nx=>?hs) (λnx=>?hf)]
  case hs=>
   simp only[iC]
   rw[aj (by omega),aZ hi,wrap64 (by omega) (by omega)]
   simp only[ae,ab,dY,bl]
   cases (s.2.1[i].1==1)<;>rfl
  case hf=>
   simp only[iC]
   rw[ah (by omega)];rfl
 cases hr:sX s.1 with
 |false=>rfl
 |true=>
  cases ht:mQ s.2.1 with
  |false=>rfl
  |true=>
   cases hs:qq s.2.2 q with
   |false=>rfl
   |true=>
    have hq:1≤q:=by unfold qq at hs;simp only[ai,de]at hs;exact hs.1.1.1.1
    have e1:s.1.all (λr=> !((r.2.2.2.2.2.2.2.1==0)&&decide (r.2.2.2.2.2.2.2.2≥q)))=s.1.all (λr=> !(decide (r.2.2.2.2.2.2.2.2≥q))):=by unfold sX at hr;simp only[ai,a7]at hr;rw[bK,a7,a7];refine forall_congr' λr=>forall_congr' λhm=>?_;rcases Js (hr.1 r hm)with h0|h0;rw[h0];simp;rw[h0];simp only[ah (show¬(0:Int)≥q by omega),eK]
    have e2:s.2.1.all (λx=> !((x.1==1)&&decide (x.2.2≥q)))=s.2.1.all (λx=> !(decide (x.2.2≥q))):=by unfold mQ at ht;simp only[ai,a7,c6,aS]at ht;rw[bK,a7,a7];refine forall_congr' λx=>forall_congr' λhm=>?_;obtain⟨i,hi,rfl⟩:=List.mem_iff_getElem.1 hm;have hsl:=ht.2 i (by omega);unfold kJ Jy at hsl;rw[sg hi]at hsl;simp only[ai,bZ,aS]at hsl;rcases hsl.1.2 with h0|⟨h0,_⟩;rw[h0];simp;rw[h0];simp only[ah (show¬(0:Int)≥q by omega),eK]
    rw[e1,e2];cases s.1.all (λr=> !(decide (r.2.2.2.2.2.2.2.2≥q)))<;>cases s.2.1.all (λx=> !(decide (x.2.2≥q)))<;>rfl
theorem ew {n:Nat}(h:n<9223372036854775808):aw (n:Int)=(n:Int):=wrap64 (by omega) (by omega)
theorem zo {n:Nat}(h:n<4294967296):IntKind.wrap .u32 (n:Int)=(n:Int):=by simp only[aw,eR,IntKind.wrap,IntKind.bits,IntKind.signed];simp;omega
theorem jH (b:UInt8):b.toNat<256:=b.toNat_lt
def dh (v:Int):Bytes:=(bV v).getD []
theorem jV (v:Int):bV v=some (dh v):=by
 unfold dh;have:∃x,bV v=some x:=by simp only[bV,cV,ab];cases dD v 0 65535<;>exact⟨_,rfl⟩
 obtain⟨x,hx⟩:=this;rw[hx];rfl
theorem pA (v:Int):cr v=some (dh v):=jV v
theorem LZ (v:Int):(dh v).length=bif dD v 0 65535 then 2 else 0:=by have h:=jV v;simp only[bV,cV,ab]at h;cases hb:dD v 0 65535<;>rw[hb]at h<;>(rw[←cw h];rfl)
theorem bp (v:Int):(dh v).length≤2:=by rw[LZ];cases dD v 0 65535<;>simp
def gR (v:Int):Bytes:=(dJ v).getD []
theorem nR (v:Int):dJ v=some (gR v):=by
 unfold gR;have:∃x,dJ v=some x:=by simp only[dJ,cV,ab];cases dD v 0 4294967295<;>exact⟨_,rfl⟩
 obtain⟨x,hx⟩:=this;rw[hx];rfl
theorem xN (v:Int):fC v=some (gR v):=nR v
theorem L1 (v:Int):(gR v).length=bif dD v 0 4294967295 then 4 else 0:=by have h:=nR v;simp only[dJ,cV,ab]at h;cases hb:dD v 0 4294967295<;>rw[hb]at h<;>(rw[←cw h];rfl)
theorem dy (v:Int):(gR v).length≤4:=by rw[L1];cases dD v 0 4294967295<;>simp
def bT (s:Bytes)(i:Nat):Nat:=(s.getD i 0).toNat
theorem dk (s:Bytes)(i:Nat):bT s i<256:=jH _
theorem ki {s:Bytes}{i:Nat}(h:i<s.length):∃x,idx s (i:Int)=some x∧x.toNat=bT s i:=⟨s[i],aZ h,by rw[bT,bF h]⟩
def dz (s:Bytes)(a n:Int):Bool:=decide (0≤a∧a+n≤(s.length:Int))
theorem wj (s:Bytes)(a n:Int)(h:s.length≤1000000000)(hn:0≤n):jz s a n=some (dz s a n):=by unfold jz dz;by_cases h0:0≤a;by_cases h1:a≤(s.length:Int);rw[aj (show a≥0 from h0),aj h1,wrap64 (by omega) (by omega)];simp only[ae,ab];congr 1;rw[decide_eq_decide];omega;rw[aj (show a≥0 from h0),ah h1,ah (show¬(0≤a∧a+n≤(s.length:Int)) by omega)];rfl;rw[ah (show¬a≥0 from h0),ah (show¬(0≤a∧a+n≤(s.length:Int)) by omega)];rfl
def cE (s:Bytes)(a:Int):Int:=bif dz s a 2 then((bT s a.toNat*256+bT s (a.toNat+1):Nat):Int) else-1
def iw (s:Bytes)(a:Int):Int:=bif dz s a 4 then(((bT s a.toNat*256+bT s (a.toNat+1))*65536+(bT s (a.toNat+2)*256+bT s (a.toNat+3)):Nat):Int) else-1
theorem uA (s:Bytes)(a:Int)(h:s.length≤1000000000):eF s a=some (cE s a):=by unfold eF cE;rw[wj s a 2 h (by omega),ab];cases hw:dz s a 2 with|false=>rfl|true=>simp only[dz,aY]at hw;obtain⟨n,rfl⟩:=a4 hw.1;obtain⟨x,hx,ex⟩:=ki (s:=s) (i:=n) (by omega);obtain⟨y,hy,ey⟩:=ki (s:=s) (i:=n+1) (by omega);have hxl:=dk s n;have hyl:=dk s (n+1);rw[wrap64 (n:=(n:Int)+1) (by omega) (by omega),hx,show(n:Int)+1=((n+1:Nat):Int) by omega,hy];simp only[au,af,ab,ax,ae];rw[ar (by omega),ex,ey,ew (by omega),ew (by omega)];have e8:min (Int.toNat 8) (IntKind.bits .i64)=8:=rfl;rw[e8,wrap64 (n:=((bT s n:Nat):Int)*2^8) (by omega) (by omega),wrap64 (by omega) (by omega)];congr 1;all_goals omega
theorem Ag (s:Bytes)(a:Int)(h:s.length≤1000000000):jW s a=some (iw s a):=by
 unfold jW iw;rw[wj s a 4 h (by omega),ab];cases hw:dz s a 4 with
 |false=>rfl
 |true=>
  simp only[dz,aY]at hw;obtain⟨n,rfl⟩:=a4 hw.1;have w1:dz s (n:Int) 2=true:=by simp only[dz,aY];omega
  have w2:dz s ((n:Int)+2) 2=true:=by simp only[dz,aY];omega
  have b0:=dk s n;have b1:=dk s (n+1);have b2:=dk s (n+2);have b3:=dk s (n+3);rw[wrap64 (n:=(n:Int)+2) (by omega) (by omega),uA s _ h,uA s _ h];simp only[au,af,ab,ae,cE,w1,w2,ax];rw[ar (by omega),show((n:Int)+2).toNat=n+2 by omega,show n+2+1=n+3 by omega];have e8:min (Int.toNat 16) (IntKind.bits .i64)=16:=rfl;rw[e8,wrap64 (n:=((bT s n*256+bT s (n+1):Nat):Int)*2^16) (by omega) (by omega),wrap64 (by omega) (by omega)];congr 1;all_goals omega
theorem aje (a b:Nat)(ha:a<9223372036854775808)(hb:b<9223372036854775808):BitVec.toNat (BitVec.ofInt (IntKind.bits .i64) (a:Int)|||BitVec.ofInt (IntKind.bits .i64) (b:Int))=a|||b:=by show(BitVec.ofInt 64 (a:Int)|||BitVec.ofInt 64 (b:Int)).toNat=_;rw[cl,cl,BitVec.toNat_or,cB,cB,cH (by omega),cH (by omega)]
theorem Tw (a b:Nat)(ha:a<9223372036854775808)(hb:b<9223372036854775808):BitVec.toNat (BitVec.ofInt (IntKind.bits .i64) (a:Int)&&&BitVec.ofInt (IntKind.bits .i64) (b:Int))=a&&&b:=by show(BitVec.ofInt 64 (a:Int)&&&BitVec.ofInt 64 (b:Int)).toNat=_;rw[cl,cl,BitVec.toNat_and,cB,cB,cH (by omega),cH (by omega)]
theorem Np (a b:Nat)(ha:a<9223372036854775808)(hb:b<9223372036854775808):BitVec.toNat (BitVec.ofInt (IntKind.bits .i64) (a:Int)^^^BitVec.ofInt (IntKind.bits .i64) (b:Int))=a^^^b:=by show(BitVec.ofInt 64 (a:Int)^^^BitVec.ofInt 64 (b:Int)).toNat=_;rw[cl,cl,BitVec.toNat_xor,cB,cB,cH (by omega),cH (by omega)]
theorem YR (a b:Nat)(ha:a<4294967296)(hb:b<4294967296):BitVec.toNat (BitVec.ofInt (IntKind.bits .u32) (a:Int)&&&BitVec.ofInt (IntKind.bits .u32) (b:Int))=a&&&b:=by show(BitVec.ofInt 32 (a:Int)&&&BitVec.ofInt 32 (b:Int)).toNat=_;rw[cl,cl,BitVec.toNat_and,cB,cB,cH (by omega),cH (by omega)]
theorem Uw (a b:Nat)(ha:a<4294967296)(hb:b<4294967296):BitVec.toNat (BitVec.ofInt (IntKind.bits .u32) (a:Int)^^^BitVec.ofInt (IntKind.bits .u32) (b:Int))=a^^^b:=by show(BitVec.ofInt 32 (a:Int)^^^BitVec.ofInt 32 (b:Int)).toNat=_;rw[cl,cl,BitVec.toNat_xor,cB,cB,cH (by omega),cH (by omega)]
theorem xS (x k y:Nat)(hy:y<2^k)(h:2^k*x+y<9223372036854775808):aw (BitVec.toNat (BitVec.ofInt (IntKind.bits .i64) ((2^k*x:Nat):Int)|||BitVec.ofInt (IntKind.bits .i64) (y:Int)):Int)=((2^k*x+y:Nat):Int):=by rw[aje _ _ (by omega) (by omega),←Nat.two_pow_add_eq_or_of_lt hy];exact ew h
theorem AI (s:Bytes)(a n:Int):(cond (decide (a<0)) (some true) (some (decide (a>(s.length:Int)-n))))=some (!dz s a n):=by cases hw:dz s a n with|true=>simp only[dz,aY]at hw;rw[ah (show¬a<0 by omega),ah (show¬a>(s.length:Int)-n by omega)];rfl|false=>simp only[dz,cx]at hw;by_cases h0:a<0;rw[aj h0];rfl;rw[ah h0,aj (show a>(s.length:Int)-n by omega)];rfl
theorem zE (s:Bytes)(a:Int)(h:s.length≤1000000000):eX s a=some (cE s a):=by unfold eX cE;rw[wrap64 (n:=(s.length:Int)-2) (by omega) (by omega)];rw[AI,ab];cases hw:dz s a 2 with|false=>rfl|true=>simp only[dz,aY]at hw;obtain⟨n,rfl⟩:=a4 hw.1;obtain⟨x,hx,ex⟩:=ki (s:=s) (i:=n) (by omega);obtain⟨y,hy,ey⟩:=ki (s:=s) (i:=n+1) (by omega);have hxl:=dk s n;have hyl:=dk s (n+1);rw[wrap64 (n:=(n:Int)+1) (by omega) (by omega),hx,show(n:Int)+1=((n+1:Nat):Int) by omega,hy];simp only[au,af,ae,ab,ax];rw[ar (by omega),ex,ey,ew (n:=bT s n) (by omega),ew (n:=bT s (n+1)) (by omega)];have e8:min (Int.toNat 8) (IntKind.bits .i64)=8:=rfl;rw[e8,show((bT s n:Nat):Int)*2^8=((2^8*bT s n:Nat):Int) by omega,ew (n:=2^8*bT s n) (by omega),xS (bT s n) 8 (bT s (n+1)) (by omega) (by omega)];congr 1;all_goals omega
theorem zF (s:Bytes)(a:Int)(h:s.length≤1000000000):jK s a=some (iw s a):=by
 unfold jK iw;rw[wrap64 (n:=(s.length:Int)-4) (by omega) (by omega)];rw[AI,ab];cases hw:dz s a 4 with
 |false=>rfl
 |true=>
  simp only[dz,aY]at hw;obtain⟨n,rfl⟩:=a4 hw.1;obtain⟨x0,h0,e0⟩:=ki (s:=s) (i:=n) (by omega);obtain⟨x1,h1,e1⟩:=ki (s:=s) (i:=n+1) (by omega);obtain⟨x2,h2,e2⟩:=ki (s:=s) (i:=n+2) (by omega);obtain⟨x3,h3,e3⟩:=ki (s:=s) (i:=n+3) (by omega);have b0:=dk s n;have b1:=dk s (n+1);have b2:=dk s (n+2);have b3:=dk s (n+3)
  rw[wrap64 (n:=(n:Int)+1) (by omega) (by omega),wrap64 (n:=(n:Int)+2) (by omega) (by omega),wrap64 (n:=(n:Int)+3) (by omega) (by omega),h0,show(n:Int)+1=((n+1:Nat):Int) by omega,h1,
   show(n:Int)+2=((n+2:Nat):Int) by omega,h2,show(n:Int)+3=((n+3:Nat):Int) by omega,h3]
  simp only[au,af,ae,ab,ax];rw[ar (by omega),ar (by omega),ar (by omega),e0,e1,e2,e3];generalize bT s n=p0 at*;generalize bT s (n+1)=p1 at*;generalize bT s (n+2)=p2 at*;generalize bT s (n+3)=p3 at*;have f24:min (Int.toNat 24) (IntKind.bits .i64)=24:=rfl;have f16:min (Int.toNat 16) (IntKind.bits .i64)=16:=rfl;have f8:min (Int.toNat 8) (IntKind.bits .i64)=8:=rfl
  rw[ew (n:=p0) (by omega),ew (n:=p1) (by omega),ew (n:=p2) (by omega),ew (n:=p3) (by omega),f24,f16,f8,
   show((p0:Nat):Int)*2^24=((2^24*p0:Nat):Int) by omega,show((p1:Nat):Int)*2^16=((2^16*p1:Nat):Int) by omega,show((p2:Nat):Int)*2^8=((2^8*p2:Nat):Int) by omega,
   ew (n:=2^24*p0) (by omega),ew (n:=2^16*p1) (by omega),ew (n:=2^8*p2) (by omega),xS p0 24 (2^16*p1) (by omega) (by omega),
   show 2^24*p0+2^16*p1=2^16*(2^8*p0+p1) by omega,xS _ 16 (2^8*p2) (by omega) (by omega),
   show 2^16*(2^8*p0+p1)+2^8*p2=2^8*(2^8*(2^8*p0+p1)+p2) by omega,xS _ 8 p3 (by omega) (by omega)]
  congr 1;all_goals omega
def xC (c:Nat):Nat:=if c%2=1 then(c/2)^^^3988292384 else c/2
def n7:Nat→Nat→Nat
 |0,c=>c
 |n+1,c=>xC (n7 n c)
def adL (c:Nat)(s:Bytes):Nat:=s.foldl (λc b=>n7 8 (c^^^b.toNat)) c
def Ph (s:Bytes):Int:=4294967295-(adL 4294967295 s:Int)
theorem ue {a b:Nat}(ha:a<4294967296)(hb:b<4294967296):a^^^b<4294967296:=Nat.xor_lt_two_pow (n:=32) ha hb
theorem NA {c:Nat}(h:c<4294967296):xC c<4294967296:=by unfold xC;split;exact ue (by omega) (by omega);omega
theorem ym {c:Nat}(h:c<4294967296):∀n,n7 n c<4294967296
 |0=>h
 |n+1=>NA (ym h n)
theorem Qy {R:Type}(k0:Int→Int→Option R)(k:Int→Option R)(hk:∀x y,k0 x y=k x)(v0:Bytes)(v4:Int)(c:Nat)(h:c<4294967296):aV (kM k0 v0 v4) fuel ((c:Int),0)=k (n7 8 c:Int):=by
 have hfu:=fj
 have key:=wN (T:=kM k0 v0 v4) 8 (λ(_:Unit) i=>((n7 i c:Int),(i:Int))) (λ_ s nx=>nx s) (λ_=>k (n7 8 c:Int))
  (λi s nx hi=>by
   have hc:=ym h i;simp only[kM];have a1:=Tw (n7 i c) 1 (by omega) (by omega);have x1:=Np (n7 i c/2) 3988292384 (by omega) (by omega);simp only[bP]at a1
   rw[aj (by omega),ae,a1,Nat.and_one_is_mod,
    show min (Int.toNat 1) (IntKind.bits .i64)=1 from rfl,show Int.fdiv ((n7 i c:Nat):Int) (2^1)=((n7 i c/2:Nat):Int) from by rw[Int.fdiv_eq_ediv_of_nonneg _ (by omega)];rfl,
    show(3988292384:Int)=((3988292384:Nat):Int) from rfl,x1,
    ew (n:=n7 i c%2) (by omega),ew (n:=(n7 i c/2)^^^3988292384) (by have:=ue (a:=n7 i c/2) (b:=3988292384) (by omega) (by omega);omega),ar (by omega),ar (by omega),wrap64 (n:=(i:Int)+1) (by omega) (by omega)]
   show _=nx ((xC (n7 i c):Int),((i+1:Nat):Int));unfold xC;by_cases hp:n7 i c%2=1;rw[hp,az rfl];rfl;have h0:n7 i c%2=0:=by omega
   rw[h0,ar (by omega)];rfl)
  (λs nx=>by simp only[kM];rw[ah (by omega),af,hk])
  fuel 0 () (by omega) (by omega)
 refine key.trans ?_;rfl
theorem PM {R:Type}(k0:Int→Int→Option R)(k:Int→Option R)(hk:∀x y,k0 x y=k x)(v0:Bytes)(v4:Int)(c:Nat)(h:c<4294967296):aV (kE k0 v0 v4) fuel ((c:Int),0)=k (n7 8 c:Int):=by
 have hfu:=fj
 have key:=wN (T:=kE k0 v0 v4) 8 (λ(_:Unit) i=>((n7 i c:Int),(i:Int))) (λ_ s nx=>nx s) (λ_=>k (n7 8 c:Int))
  (λi s nx hi=>by
   have hc:=ym h i;simp only[kE];have a1:=YR (n7 i c) 1 (by omega) (by omega);have x1:=Uw (n7 i c/2) 3988292384 (by omega) (by omega);simp only[bP]at a1
   rw[aj (by omega),ae,a1,Nat.and_one_is_mod,
    show min (Int.toNat 1) (IntKind.bits .u32)=1 from rfl,show Int.fdiv ((n7 i c:Nat):Int) (2^1)=((n7 i c/2:Nat):Int) from by rw[Int.fdiv_eq_ediv_of_nonneg _ (by omega)];rfl,
    show(3988292384:Int)=((3988292384:Nat):Int) from rfl,x1,
    zo (n:=n7 i c%2) (by omega),zo (n:=(n7 i c/2)^^^3988292384) (ue (by omega) (by omega)),ar (by omega),wrap64 (n:=(i:Int)+1) (by omega) (by omega)]
   show _=nx ((xC (n7 i c):Int),((i+1:Nat):Int));unfold xC;by_cases hp:n7 i c%2=1;rw[hp,az rfl];rfl;have h0:n7 i c%2=0:=by omega
   rw[h0,ar (by omega)];rfl)
  (λs nx=>by simp only[kE];rw[ah (by omega),af,hk])
  fuel 0 () (by omega) (by omega)
 refine key.trans ?_;rfl
theorem S5 (s:Bytes)(h:s.length≤1000000000):vf s=some (Ph s):=by
 unfold vf;have:=pa (T:=nj (λ(y4:Int) (_:Int)=>some (aw (4294967295-y4))) s) s (λ(c:Nat) i=>((c:Int),(i:Int))) (λ_ c=>c<4294967296) (λb c=> .ok (n7 8 (c^^^b.toNat))) (λc=>some (4294967295-(c:Int))) (by omega) (λi hi c nx hI=>?hs) (λi hi c c' hI hg=>?hn) (λc nx hI=>?hf) 4294967295 (by omega)
 case hs=>
  have hb:=jH s[i]
  simp only[nj]
  rw[aj (by omega),aZ hi,ae,ab,ew (n:=s[i].toNat) (by omega),Np c s[i].toNat (by omega) (by omega)]
  have hx:=ue hI (show s[i].toNat<4294967296 by omega)
  rw[ew (by omega),Qy _ (λy=>nx (y,(i:Int)+1)) (λx y=>by rw[wrap64 (by omega) (by omega)]) _ _ _ hx];rfl
 case hn=>
  cases hg
  exact ym (ue hI (by have:=jH s[i];omega)) 8
 case hf=>
  simp only[nj]
  rw[ah (by omega),af,wrap64 (by omega) (by omega)]
 rw[u6]at this;exact this
theorem not_xor (c:Nat)(h:c<4294967296):BitVec.toNat (BitVec.ofInt (IntKind.bits .u32) (IntKind.max .u32)^^^BitVec.ofInt (IntKind.bits .u32) (c:Int))=4294967295-c:=by show(BitVec.ofInt 32 4294967295^^^BitVec.ofInt 32 (c:Int)).toNat=_;rw[show BitVec.ofInt 32 4294967295=BitVec.allOnes 32 by decide,cl,BitVec.allOnes_xor,BitVec.toNat_not,cB,cH (show c<2^32 by omega)]
theorem Su (s:Bytes)(h:s.length≤1000000000):uK s=some (Ph s):=by
 unfold uK;have:=pa (T:=mW (λ(y4:Int) (_:Int)=>some (aw (IntKind.wrap .u32 (BitVec.toNat (BitVec.ofInt (IntKind.bits .u32) (IntKind.max .u32)^^^BitVec.ofInt (IntKind.bits .u32) y4))))) s) s (λ(c:Nat) i=>((c:Int),(i:Int))) (λ_ c=>c<4294967296) (λb c=> .ok (n7 8 (c^^^b.toNat))) (λc=>some (4294967295-(c:Int))) (by omega) (λi hi c nx hI=>?hs) (λi hi c c' hI hg=>?hn) (λc nx hI=>?hf) 4294967295 (by omega)
 case hs=>
  have hb:=jH s[i]
  simp only[mW]
  rw[aj (by omega),aZ hi,ae,ab,zo (n:=s[i].toNat) (by omega),Uw c s[i].toNat (by omega) (by omega)]
  have hx:=ue hI (show s[i].toNat<4294967296 by omega)
  rw[zo hx,PM _ (λy=>nx (y,(i:Int)+1)) (λx y=>by rw[wrap64 (by omega) (by omega)]) _ _ _ hx];rfl
 case hn=>
  cases hg
  exact ym (ue hI (by have:=jH s[i];omega)) 8
 case hf=>
  simp only[mW]
  rw[ah (by omega),af,not_xor c hI,zo (by omega),ew (by omega)]
  congr 1
  all_goals omega
 rw[u6]at this;exact this
def BG (s:Bytes)(i:Nat):Nat:=bT s (i/8)/2^(7-i%8)%2
theorem yi (s:Bytes)(i:Nat):BG s i<2:=Nat.mod_lt _ (by omega)
theorem Hy (b k:Nat)(hb:b<256)(hk:k≤7):aw (BitVec.toNat (BitVec.ofInt (IntKind.bits .i64) (aw (Int.fdiv (b:Int) ((2^k:Nat):Int)))&&&BitVec.ofInt (IntKind.bits .i64) 1))=((b/2^k%2:Nat):Int):=by have e:Int.fdiv (b:Int) ((2^k:Nat):Int)=((b/2^k:Nat):Int):=(Int.ofNat_fdiv b (2^k)).symm;have h1:b/2^k≤b:=Nat.div_le_self _ _;rw[e,ew (n:=b/2^k) (by omega)];have:=Tw (b/2^k) 1 (by omega) (by omega);rw[show((1:Nat):Int)=1 from rfl]at this;rw[this,Nat.and_one_is_mod];exact ew (by omega)
theorem MJ (s:Bytes)(i:Nat)(hi:i/8<s.length)(h:s.length≤1000000000):qx s (i:Int)=some ((BG s i:Nat):Int):=by
 have e1:Int.tdiv (i:Int) 8=((i/8:Nat):Int):=(Int.ofNat_tdiv i 8).symm;have e2:Int.tmod (i:Int) 8=((i%8:Nat):Int):=(Int.ofNat_tmod i 8).symm;unfold qx;rw[ar (by omega),e1,wrap64 (n:=((i/8:Nat):Int)) (by omega) (by omega),aZ hi,ab,ar (by omega),e2,wrap64 (n:=7-((i%8:Nat):Int)) (by omega) (by omega),ar (by omega)];have e3:(2:Int)^(min (Int.toNat (7-((i%8:Nat):Int))) (IntKind.bits .u8))=((2^(7-i%8):Nat):Int):=by rw[show min (Int.toNat (7-((i%8:Nat):Int))) (IntKind.bits .u8)=7-i%8 from by show min _ 8=_;omega];push_cast;rfl
 rw[e3,Hy _ _ (jH _) (by omega),BG,bT,bF hi]
theorem M8 (s:Bytes)(i:Nat)(hi:i/8<s.length)(h:s.length≤1000000000):qL s (i:Int)=some ((BG s i:Nat):Int):=by
 have e1:Int.tdiv (i:Int) 8=((i/8:Nat):Int):=(Int.ofNat_tdiv i 8).symm;have e2:Int.tmod (i:Int) 8=((i%8:Nat):Int):=(Int.ofNat_tmod i 8).symm;have hb:=jH s[i/8];unfold qL;rw[ar (by omega),e1,wrap64 (n:=((i/8:Nat):Int)) (by omega) (by omega),aZ hi,ab,ar (by omega),e2,wrap64 (n:=7-((i%8:Nat):Int)) (by omega) (by omega),ar (by omega),ew (n:=s[i/8].toNat) (by omega)];have e3:(2:Int)^(min (Int.toNat (7-((i%8:Nat):Int))) (IntKind.bits .i64))=((2^(7-i%8):Nat):Int):=by rw[show min (Int.toNat (7-((i%8:Nat):Int))) (IntKind.bits .i64)=7-i%8 from by show min _ 64=_;omega];push_cast;rfl
 have e4:Int.fdiv ((s[i/8].toNat:Nat):Int) ((2^(7-i%8):Nat):Int)=((s[i/8].toNat/2^(7-i%8):Nat):Int):=(Int.ofNat_fdiv _ _).symm;have h1:s[i/8].toNat/2^(7-i%8)≤s[i/8].toNat:=Nat.div_le_self _ _;have key:=Hy s[i/8].toNat (7-i%8) hb (by omega);rw[e4,ew (n:=s[i/8].toNat/2^(7-i%8)) (by omega)]at key;rw[e3,e4,key,BG,bT,bF hi]
def LY (s:Bytes)(a:Nat):Nat→Nat
 |0=>0
 |j+1=>2*LY s a j+BG s (a+j)
theorem R1 (s:Bytes)(a:Nat):∀j,LY s a j<2^j
 |0=>by simp[LY]
 |j+1=>by have:=R1 s a j;have:=yi s (a+j);rw[LY,Nat.pow_succ];omega
theorem DJ (s:Bytes)(a j:Nat)(hj:j≤32):LY s a j<4294967296:=eh (R1 s a j) (Nat.pow_le_pow_right (n:=2) (by omega) hj)
def J3 (s:Bytes)(a:Int):Int:=bif ((s.length:Int) !=16)|| !dD a 0 96 then-1 else((LY s a.toNat 32:Nat):Int)
theorem SE (s:Bytes)(a:Int):oy s a=some (J3 s a):=by
 unfold oy J3;rw[dK];cases hs:(s.length:Int) !=16 with|true=>rfl|false=>?_
 cases ha:dD a 0 96 with|false=>rfl|true=>?_
 have h1:=de.1 ha;have h2:s.length=16:=by simp at hs;omega
 obtain⟨a,rfl⟩:=a4 h1.1;simp only[af,ab,au,cA,ax];refine cp (λi=>(((LY s a i:Nat):Int),((a+i:Nat):Int))) 32 (by omega) (λi nx hi=>?_) (λnx=>?_);have hw:=DJ s a i (by omega);have hb:=yi s (a+i);simp only[kV];rw[wrap64 (n:=(a:Int)+32) (by omega) (by omega),aj (by omega),ae,ar (by omega),MJ s (a+i) (by omega) (by omega),ab,wrap64 (n:=((a+i:Nat):Int)+1) (by omega) (by omega)];have e1:aw (((LY s a i:Nat):Int)*2^(min (Int.toNat 1) (IntKind.bits .i64)))=((2^1*LY s a i:Nat):Int):=by have:(2:Int)^(min (Int.toNat 1) (IntKind.bits .i64))=2:=rfl;rw[this,wrap64 (by omega) (by omega)];omega
 rw[e1,xS _ _ _ (by omega) (by omega)];rw[show(((a+i:Nat):Int)+1)=((a+(i+1):Nat):Int) by omega];rfl;simp only[kV];rw[wrap64 (n:=(a:Int)+32) (by omega) (by omega),ah (by omega)];rfl
theorem Ta (s:Bytes)(a:Int):ph s a=some (J3 s a):=by
 unfold ph J3;rw[cV];cases hs:(s.length:Int) !=16 with|true=>rfl|false=>?_
 cases ha:dD a 0 96 with|false=>rfl|true=>?_
 have h1:=de.1 ha;have h2:s.length=16:=by simp at hs;omega
 obtain⟨a,rfl⟩:=a4 h1.1;simp only[af,ab,au,cA,ax];refine cp (λi=>(((LY s a i:Nat):Int),(i:Int))) 32 (by omega) (λi nx hi=>?_) (λnx=>?_);have hw:=DJ s a i (by omega);have hb:=yi s (a+i);simp only[la];rw[aj (by omega),ae,wrap64 (n:=(a:Int)+(i:Int)) (by omega) (by omega),show(a:Int)+(i:Int)=((a+i:Nat):Int) by omega,M8 s (a+i) (by omega) (by omega),ab,wrap64 (n:=(i:Int)+1) (by omega) (by omega)];rw[wrap64 (n:=2*((LY s a i:Nat):Int)) (by omega) (by omega),wrap64 (by omega) (by omega),LY];congr 1;simp only[la];rw[ah (by omega)];rfl
def xg (s v:Bytes):Nat→Nat
 |0=>0
 |i+1=>if BG v i=1 then xg s v i^^^LY s i 32 else xg s v i
theorem CC (s v:Bytes):∀i,xg s v i<4294967296
 |0=>by simp[xg]
 |i+1=>by have:=CC s v i;rw[xg];split;exact ue this (DJ s i 32 (by omega));exact this
def tf (s v:Bytes):Int:=bif ((s.length:Int) !=16)||decide ((v.length:Int)>12) then-1 else((xg s v (8*v.length):Nat):Int)
theorem PN (s v:Bytes):ow s v=some (tf s v):=by
 unfold ow tf;cases hs:(s.length:Int) !=16 with|true=>rfl|false=>?_
 cases hv:decide ((v.length:Int)>12)with|true=>rfl|false=>?_
 have h2:s.length=16:=by simp at hs;omega
 have h3:v.length≤12:=by simp at hv;omega
 simp only[af,ab,cA];refine cp (λi=>(((xg s v i:Nat):Int),(i:Int))) (8*v.length) (by omega) (λi nx hi=>?_) (λnx=>?_);have hw:=DJ s i 32 (by omega);have hh:=CC s v i;have hb:=yi v i;have eW:J3 s (i:Int)=((LY s i 32:Nat):Int):=by unfold J3;rw[hs,de.2 (show(0:Int)≤(i:Int)∧(i:Int)≤96 by omega)];rfl
 simp only[kU];rw[wrap64 (n:=8*(v.length:Int)) (by omega) (by omega),aj (by omega),ae,MJ v i (by omega) (by omega),ab,SE,ab,eW,Np _ _ (by omega) (by omega),wrap64 (n:=(i:Int)+1) (by omega) (by omega),ew (Nat.lt_trans (ue hh hw) (by omega)),xg];by_cases h1:BG v i=1;rw[h1,az rfl];rfl;rw[ar h1,show(((BG v i:Nat):Int)==1)=false from by simp;omega];rfl;simp only[kU];rw[wrap64 (n:=8*(v.length:Int)) (by omega) (by omega),ah (by omega)];rfl
theorem Qz (s v:Bytes):pe s v=some (tf s v):=by
 unfold pe tf;cases hs:(s.length:Int) !=16 with|true=>rfl|false=>?_
 cases hv:decide ((v.length:Int)>12)with|true=>rfl|false=>?_
 have h2:s.length=16:=by simp at hs;omega
 have h3:v.length≤12:=by simp at hv;omega
 simp only[af,ab,cA];refine cp (λi=>(((xg s v i:Nat):Int),(i:Int))) (8*v.length) (by omega) (λi nx hi=>?_) (λnx=>?_);have hw:=DJ s i 32 (by omega);have hh:=CC s v i;have hb:=yi v i;have eW:J3 s (i:Int)=((LY s i 32:Nat):Int):=by unfold J3;rw[hs,de.2 (show(0:Int)≤(i:Int)∧(i:Int)≤96 by omega)];rfl
 simp only[k9];rw[wrap64 (n:=8*(v.length:Int)) (by omega) (by omega),aj (by omega),ae,M8 v i (by omega) (by omega),ab,Ta,ab,eW,Np _ _ (by omega) (by omega),wrap64 (n:=(i:Int)+1) (by omega) (by omega),ew (Nat.lt_trans (ue hh hw) (by omega)),xg];by_cases h1:BG v i=1;rw[h1,az rfl];rfl;rw[ar h1,show(((BG v i:Nat):Int)==1)=false from by simp;omega];rfl;simp only[k9];rw[wrap64 (n:=8*(v.length:Int)) (by omega) (by omega),ah (by omega)];rfl
def qR (f:Int×Int×Int×Int×Int):Bytes:=((gR f.2.1++gR f.2.2.1)++dh f.2.2.2.1)++dh f.2.2.2.2
theorem KP (f:Int×Int×Int×Int×Int):ox f=some (qR f):=by have:=dy f.2.1;have:=dy f.2.2.1;have:=bp f.2.2.2.1;have:=bp f.2.2.2.2;simp only[ox,xN,pA,ab];rw[aN (by omega),aN (by simp only[ak];omega),aN (by simp only[ak];omega)];rfl
theorem LD (f:Int×Int×Int×Int×Int):pg f=some (qR f):=by have:=dy f.2.1;have:=dy f.2.2.1;have:=bp f.2.2.2.1;have:=bp f.2.2.2.2;simp only[pg,nR,jV,ab];rw[aN (by omega),aN (by simp only[ak];omega),aN (by simp only[ak];omega)];rfl
theorem Gw (s:Bytes)(f:Int×Int×Int×Int×Int):pT s f=some (tf s (qR f)):=by simp only[pT,KP,PN,ab]
theorem G6 (s:Bytes)(f:Int×Int×Int×Int×Int):qi s f=some (tf s (qR f)):=by simp only[qi,LD,Qz,ab]
def sk (s:eQ)(f:Int×Int×Int×Int×Int):Int:=bif ((s.2.length:Int)==0)||decide (tf s.1 (qR f)<0) then-1 else Int.tmod (tf s.1 (qR f)) (s.2.length:Int)
theorem NN (s:eQ)(f:Int×Int×Int×Int×Int):rA s f=some (sk s f):=by
 unfold rA sk;rw[Gw,ab];cases h0:(s.2.length:Int)==0 with|true=>rfl|false=>?_
 cases decide (tf s.1 (qR f)<0)with|true=>rfl|false=>?_
 simp only[af,ab,cA];rw[ar (by simpa using h0)]
theorem OB (s:eQ)(f:Int×Int×Int×Int×Int):rO s f=some (sk s f):=by
 unfold rO sk;rw[G6,ab];cases h0:(s.2.length:Int)==0 with|true=>rfl|false=>?_
 cases decide (tf s.1 (qR f)<0)with|true=>rfl|false=>?_
 simp only[af,ab,cA];rw[ar (by simpa using h0)]
theorem Eu (s:eQ)(f:Int×Int×Int×Int×Int)(h:¬sk s f<0):∃n:Nat,sk s f=(n:Int)∧n<s.2.length:=by
 unfold sk at h⊢;cases hc:((s.2.length:Int)==0)||decide (tf s.1 (qR f)<0)with
 |true=>rw[hc]at h;simp at h
 |false=>
  rw[hc]at h;simp only[Bool.or_eq_false_iff,cW,cx]at hc;simp only[af]at h⊢;have h1:0≤tf s.1 (qR f):=by omega
  rw[Int.tmod_eq_emod_of_nonneg h1]at h⊢;have:=Int.emod_lt_of_pos (tf s.1 (qR f)) (show(0:Int)<s.2.length by omega);obtain⟨n,hn⟩:=a4 (show 0≤tf s.1 (qR f)%(s.2.length:Int) by omega);exact⟨n,hn,by omega⟩
def zc (s:eQ)(q:Int)(f:Int×Int×Int×Int×Int):Int:=bif !qq s q||decide (sk s f<0) then-1 else s.2.getD (sk s f).toNat 0
theorem IP (s:eQ)(q:Int)(f:Int×Int×Int×Int×Int)(h:s.2.length≤1000000000):l7 s q f=some (zc s q f):=by
 unfold l7 zc;rw[NN,ab,CJ s q h,ab];cases qq s q with|false=>rfl|true=>?_
 have hin:=Eu s f;cases hd:decide (sk s f<0)with|true=>rfl|false=>?_
 obtain⟨n,hn,hl⟩:=hin (of_decide_eq_false hd);simp only[au,af,ab,cA,hn,aZ hl,ax,bF hl]
theorem JL (s:eQ)(q:Int)(f:Int×Int×Int×Int×Int)(h:s.2.length≤1000000000):mD s q f=some (zc s q f):=by
 unfold mD zc;rw[OB,ab,xX s q h,ab];cases qq s q with|false=>rfl|true=>?_
 have hin:=Eu s f;cases hd:decide (sk s f<0)with|true=>rfl|false=>?_
 obtain⟨n,hn,hl⟩:=hin (of_decide_eq_false hd);simp only[au,af,ab,cA,hn,aZ hl,ax,bF hl]
theorem Fg (t:List Slot)(f:Int×Int×Int×Int×Int)(h:∀j,j<8→kB (dM t j) f=false):∀n k,walk t f n k= -1
 |0,_=>rfl
 |n+1,k=>by unfold walk;rw[h _ (zn f k),Fg t f h n (k+1)];split<;>rfl
theorem Au (f:Int×Int×Int×Int×Int):∀(t:List Slot)(m:Int),(∀s∈t,kB s f=false)→qQ f t m= -1
 |[],_,_=>rfl
 |s::r,m,h=>by unfold qQ;rw[h s (by simp)];exact Au f r (m+1) (λx hx=>h x (by simp[hx]))
theorem KG (t:List Slot)(f:Int×Int×Int×Int×Int)(h:mQ t=true):qQ f t 0=walk t f 8 0:=by simp only[mQ,ai,aS,a7,c6]at h;obtain⟨h8,hs⟩:=h;by_cases hex:∃j,j<t.length∧kB (dM t j) f=true;obtain⟨j,hj,hu,e⟩:=vP f t 0 hex;have:=hs j (by omega);simp only[kJ,ai,bZ,aJ,aS]at this;simp only[kB,ai,aS,aY]at hu;rcases this.2 with g|g;rw[hu.1]at g;simp at g;rw[hu.2]at g;rw[show((0:Int))=((0:Nat):Int) from rfl,e,g];omega;have hn:∀j,j<t.length→kB (dM t j) f=false:=λj hj=>Bool.eq_false_iff.2 λhu=>hex ⟨j,hj,hu⟩;rw[Fg t f (λj hj=>hn j (by omega)),Au];intro s hs';obtain⟨j,hj,rfl⟩:=List.getElem_of_mem hs';have:=hn j hj;rwa[sg hj]at this
def findF (t:List Slot)(f:Int×Int×Int×Int×Int):Int:=bif mQ t then walk t f 8 0 else-1
theorem Gv (t:List Slot)(f:Int×Int×Int×Int×Int)(h:t.length≤1000000000):pQ t f=some (findF t f):=by
 unfold pQ findF;rw[EI,ab];cases ht:mQ t with|false=>rfl|true=>?_
 simp only[au,af,ae,IL t f h,ab,KG t f ht]
theorem G5 (t:List Slot)(f:Int×Int×Int×Int×Int):qf t f=some (findF t f):=by
 unfold qf findF;rw[E5,ab];cases ht:mQ t with|false=>rfl|true=>?_
 have h8:t.length=8:=by simp only[mQ,ai,aS]at ht;exact ht.1
 simp only[au,af,ae,JE t f h8,ab]
theorem Nn (t:List Slot)(f:Int×Int×Int×Int×Int):∀n k,walk t f n k= -1∨∃m:Nat,walk t f n k=(m:Int)∧m<8
 |0,_=> .inl rfl
 |n+1,k=>by unfold walk;split;exact .inl rfl;split;exact .inr ⟨_,rfl,zn f k⟩;exact Nn t f n (k+1)
theorem Ij (t:List Slot)(f:Int×Int×Int×Int×Int)(h:findF t f≥0):∃m:Nat,findF t f=(m:Int)∧m<t.length:=by
 unfold findF at h⊢;cases ht:mQ t with
 |false=>rw[ht]at h;simp at h
 |true=>
  rw[ht]at h;simp only[ae]at h⊢;have h8:t.length=8:=by simp only[mQ,ai,aS]at ht;exact ht.1
  rcases Nn t f 8 0 with g|⟨m,g,hm⟩;omega;exact⟨m,g,by omega⟩
theorem OV (x:Int)(k:Nat)(hk:k≤64):aw x%(2^k:Int)=x%(2^k:Int):=by
 obtain⟨c,hc⟩:∃c:Int,(18446744073709551616:Int)=2^k*c:=⟨2^(64-k),by rw[←Int.pow_add,show k+(64-k)=64 by omega];rfl⟩
 have:aw x=x∨∃q:Int,aw x=x+18446744073709551616*q:=by
  right;simp only[aw,eR,IntKind.wrap,IntKind.bits,IntKind.signed];simp;have h1:x=x%18446744073709551616+18446744073709551616*(x/18446744073709551616):=by omega
  split;exact⟨-(x/18446744073709551616)-1,by omega⟩;exact⟨-(x/18446744073709551616),by omega⟩
 rcases this with h|⟨q,h⟩;rw[h];rw[h,hc,Int.mul_assoc,Int.add_mul_emod_self_left]
theorem O9 (x:Int)(k:Nat)(hk:k<63):((BitVec.ofInt (IntKind.bits .i64) x&&&BitVec.ofInt (IntKind.bits .i64) (2^k-1)).toNat:Int)=x%2^k:=by
 have h2:(2:Int)^k≤2^62:=by have:(2:Nat)^k≤2^62:=Nat.pow_le_pow_right (by omega) (by omega);exact_mod_cast this
 have h0:(1:Int)≤2^k:=by have:1≤(2:Nat)^k:=Nat.one_le_two_pow;exact_mod_cast this
 have hm:(BitVec.ofInt (IntKind.bits .i64) (2^k-1)).toNat=2^k-1:=by
  show(BitVec.ofInt 64 (2^k-1)).toNat=2^k-1;rw[BitVec.toNat_ofInt,Int.emod_eq_of_lt (by omega) (by omega)];have:((2:Int)^k-1)=((2^k-1:Nat):Int):=by have:1≤(2:Nat)^k:=Nat.one_le_two_pow;push_cast [this];rfl
  rw[this];rfl
 rw[BitVec.toNat_and,hm,Nat.and_two_pow_sub_one_eq_mod];show(((BitVec.ofInt 64 x).toNat%2^k:Nat):Int)=x%2^k;rw[BitVec.toNat_ofInt];have hx:0≤x%18446744073709551616:=by omega
 have e:(((x%18446744073709551616).toNat%2^k:Nat):Int)=(x%18446744073709551616)%2^k:=by push_cast;rw[Int.toNat_of_nonneg hx]
 refine e.trans ?_;exact Int.emod_emod_of_dvd x ⟨2^(64-k),by rw[←Int.pow_add,show k+(64-k)=64 by omega];rfl⟩
theorem N9 (x n:Int)(h0:0<n)(h1:n≤4611686018427387904):jC x n=some (x%n):=by
 unfold jC;have:=Int.emod_nonneg x (show n≠0 by omega);have:=Int.emod_lt_of_pos x h0;have hn:(n.natAbs:Int)=n:=by omega
 rw[ar (by omega),Int.tmod_eq_emod];split;rw[ah (by omega)];simp;rw[aj (by omega),wrap64 (by omega) (by omega)];simp only[ae,hn];congr 1;omega
theorem Ap (l:List Int)(h:l.length≤1000000000):mY l=some l:=by unfold mY;rw[aN (by simp;omega)];rfl
def xV (s:cC):Bool:=dD s.2.1 0 65535&&(dD s.2.2.1 0 65535&&(!decide ((List.length s.2.2.2.2.2.2.2:Int)>320)&&
 (bif s.1==17 then(s.2.2.2.1==0)&&((s.2.2.2.2.1==0)&&((s.2.2.2.2.2.1==0)&&(s.2.2.2.2.2.2.1==0)))
  else(s.1==6)&&(dD s.2.2.2.1 0 4294967295&&(dD s.2.2.2.2.1 0 4294967295&&(dD s.2.2.2.2.2.1 0 31&&dD s.2.2.2.2.2.2.1 0 65535))))))
theorem Na (s:cC):lP s=some (xV s):=by simp only[lP,cV,ab,bl,cF,cT,cN,Bool.not_or,dY,Bool.and_assoc,xV]
theorem MM (s:cC):lx s=some (xV s):=by simp only[lx,dK,ab,bl,cF,cT,cN,Bool.not_or,dY,Bool.and_assoc,xV];by_cases h:s.1=17;rw[h];rfl;rw[show(s.1==17)=false from by simpa using h];cases s.1==6<;>rfl
def Cv (f:Int):Bool:=(f==16)||(f==17)||(f==24)||(f==25)
theorem KI (f:Int)(h:dD f 0 31=true):(aw (BitVec.toNat (BitVec.ofInt (IntKind.bits .i64) f&&&~~~ BitVec.ofInt (IntKind.bits .i64) 9))==16)=Cv f:=by
 have key:∀k:Fin 32,(aw (BitVec.toNat (BitVec.ofInt (IntKind.bits .i64) (k.val:Int)&&&~~~ BitVec.ofInt (IntKind.bits .i64) 9))==16)=Cv (k.val:Int):=by decide
 rw[de]at h;have:=key ⟨f.toNat,by omega⟩;rwa[show((f.toNat:Nat):Int)=f by omega]at this
theorem KH (f:Int)(h:dD f 0 31=true):oG f=some (Cv f):=by
 have key:∀k:Fin 32,((aw (BitVec.toNat (BitVec.ofInt (IntKind.bits .i64) (k.val:Int)&&&BitVec.ofInt (IntKind.bits .i64) 16)) !=0)&&(aw (BitVec.toNat (BitVec.ofInt (IntKind.bits .i64) (k.val:Int)&&&~~~ BitVec.ofInt (IntKind.bits .i64) 25))==0))=Cv (k.val:Int):=by decide
 rw[de]at h;have:=key ⟨f.toNat,by omega⟩;rw[show((f.toNat:Nat):Int)=f by omega]at this;simp only[oG,bl,ab,cF];rw[this]
theorem E2 {s:cC}(h:xV s=true)(h6:(s.1==6)=true):dD s.2.2.2.2.2.1 0 31=true:=by
 have:s.1=6:=by simpa using h6
 unfold xV at h;rw[this]at h;simp only[ai]at h;have h:=h.2.2.2;simp at h;exact h.2.2.1
def vx (p:aC):Bool:=dD p.1 0 281474976710655&&(dD p.2.1 0 281474976710655&&(dD p.2.2.1 (-1) 4095&&(dD p.2.2.2.1 0 255&&(dD p.2.2.2.2.2.1 0 255&&(dD p.2.2.2.2.1 0 65535&&(dD p.2.2.2.2.2.2.1 0 4294967295&&(dD p.2.2.2.2.2.2.2.1 0 4294967295&&xV p.2.2.2.2.2.2.2.2)))))))
def dA (p:aC):Bool:=vx p&&(decide ((List.length p.2.2.2.2.2.2.2.2.2.2.2.2.2.2.2:Int)≤128)||(p.2.2.2.2.2.2.2.2.1==6)&&Cv p.2.2.2.2.2.2.2.2.2.2.2.2.2.1)
theorem CE {p:aC}(h:vx p=true):xV p.2.2.2.2.2.2.2.2=true:=by unfold vx at h;simp only[ai]at h;exact h.2.2.2.2.2.2.2.2
theorem mn (p:aC):eD p=some (dA p):=by unfold eD dA;simp only[cV,Na,ab,bl,cF,cT,cN,Bool.not_or,dY];rw[show(dD p.1 0 281474976710655&&(dD p.2.1 0 281474976710655&&(dD p.2.2.1 (-1) 4095&&(dD p.2.2.2.1 0 255&&(dD p.2.2.2.2.2.1 0 255&&(dD p.2.2.2.2.1 0 65535&&(dD p.2.2.2.2.2.2.1 0 4294967295&&(dD p.2.2.2.2.2.2.2.1 0 4294967295&&xV p.2.2.2.2.2.2.2.2))))))))=vx p from rfl];cases hh:vx p with|false=>rfl|true=>cases h6:p.2.2.2.2.2.2.2.2.1==6 with|false=>simp|true=>rw[KI _ (E2 (CE hh) h6)];simp[Bool.or_comm]
theorem lS (p:aC):eB p=some (dA p):=by
 unfold eB dA;simp only[dK,MM,ab];have e:∀X:Option Bool,(cond (dD p.1 0 281474976710655) (cond (dD p.2.1 0 281474976710655) (cond (dD p.2.2.1 (-1) 4095) (cond (dD p.2.2.2.1 0 255) (cond (dD p.2.2.2.2.2.1 0 255) (cond (dD p.2.2.2.2.1 0 65535) (cond (dD p.2.2.2.2.2.2.1 0 4294967295) (cond (dD p.2.2.2.2.2.2.2.1 0 4294967295) (cond (xV p.2.2.2.2.2.2.2.2) X (some false)) (some false)) (some false)) (some false)) (some false)) (some false)) (some false)) (some false)) (some false))=cond (vx p) X (some false):=by
  intro X;unfold vx;cases dD p.1 0 281474976710655 with|false=>rfl|true=>?_
  cases dD p.2.1 0 281474976710655 with|false=>rfl|true=>?_
  cases dD p.2.2.1 (-1) 4095 with|false=>rfl|true=>?_
  cases dD p.2.2.2.1 0 255 with|false=>rfl|true=>?_
  cases dD p.2.2.2.2.2.1 0 255 with|false=>rfl|true=>?_
  cases dD p.2.2.2.2.1 0 65535 with|false=>rfl|true=>?_
  cases dD p.2.2.2.2.2.2.1 0 4294967295 with|false=>rfl|true=>?_
  cases dD p.2.2.2.2.2.2.2.1 0 4294967295<;>rfl
 rw[e];cases hh:vx p with|false=>rfl|true=>cases h6:p.2.2.2.2.2.2.2.2.1==6 with|false=>simp[bl]|true=>rw[KH _ (E2 (CE hh) h6)];simp only[ae,ab,bl,cT,bn]
def hasB (l:List Int)(v:Int):Bool:=l.any (·==v)
theorem yw {l:List Int}{v:Int}:hasB l v=true↔v∈l:=by simp only[hasB,List.any_eq_true,aS];constructor;rintro⟨x,hx,rfl⟩;exact hx;intro h;exact⟨v,h,rfl⟩
theorem tH (l:List Int)(v:Int)(h:l.length≤1000000000):eJ l v=some (hasB l v):=by
 unfold eJ hasB;rw[Ht (hit:=some true) (fin:=some false) (λx:Int=>x==v) l (by omega) (λi hi nx=>?hs) (λnx=>?hf)]
 case hs=>
  simp only[pt]
  rw[aj (by omega),aZ hi,wrap64 (by omega) (by omega)];rfl
 case hf=>
  simp only[pt]
  rw[ah (by omega)];rfl
 cases l.any (λx=>x==v)<;>rfl
theorem rq (l:List Int)(v:Int)(h:l.length≤1000000000):dW l v=some (hasB l v):=tH l v h
def ins (v:Int):List Int→List Int
 |[]=>[v]
 |x::l=>bif decide (v<x) then v::x::l else x::ins v l
theorem Bk (v:Int):∀l,(ins v l).length=l.length+1
 |[]=>rfl
 |x::l=>by rw[ins];cases decide (v<x)with|true=>rfl|false=>simp only[af,bE,Bk v l]
theorem MT (v x:Int):∀l,x∈ins v l↔x=v∨x∈l
 |[]=>by simp[ins]
 |y::l=>by rw[ins];cases decide (v<y)with|true=>simp|false=>simp only[af,bu,MT v x l];constructor<;>(rintro(h|h|h)<;>simp[h])
theorem KW (v:Int):∀l:List Int,v∉l→l.take (l.findIdx (λx=> !decide (x<v)))++[v]++l.drop (l.findIdx (λx=> !decide (x<v)))=ins v l
 |[],_=>rfl
 |x::l,h=>by rw[ins,List.findIdx_cons];have hx:v≠x:=λe=>h (by simp[e]);have hl:v∉l:=λe=>h (by simp[e]);by_cases c:x<v;rw[aj c,ah (show¬v<x by omega)];have:=KW v l hl;simpa using this;rw[ah c,aj (show v<x by omega)];rfl
def qO (l:List Int)(v:Int):List Int:=bif hasB l v then l else ins v l
theorem yg (l:List Int)(v:Int):(qO l v).length≤l.length+1:=by unfold qO;cases hasB l v with|true=>simp|false=>simp only[af,Bk];omega
theorem P6 {l:List Int}{v x:Int}(h:x∈l):x∈qO l v:=by unfold qO;cases hasB l v with|true=>exact h|false=>exact(MT v x l).2 (.inr h)
theorem Nt {l:List Int}{v:Int}(h:v∈l):qO l v=l:=by unfold qO;rw[yw.2 h];rfl
theorem uC:∀(vs l:List Int),(vs.foldl qO l).length≤l.length+vs.length
 |[],l=>by simp
 |v::vs,l=>by have:=uC vs (qO l v);have:=yg l v;simp only[cv,bE];omega
theorem zP:∀(vs:List Int){l:List Int}{x:Int},x∈l→x∈vs.foldl qO l
 |[],_,_,h=>h
 |v::vs,l,x,h=>zP vs (l:=qO l v) (P6 h)
theorem Il {α R:Type}(p:α→Bool)(k:Int→Option R)(l:List α):(match l.findIdx? p with|some i=>k (i:Int)|none=>k (l.length:Int))=k (l.findIdx p:Int):=by cases h:l.findIdx? p with|none=>rw[List.findIdx?_eq_none_iff_findIdx_eq]at h;rw[h]|some i=>rw[List.findIdx?_eq_some_iff_findIdx_eq]at h;rw[h.2]
theorem Du {α:Type}(l:List α)(j:Nat)(h:j≤l.length):sub l 0 (j:Int)=some (l.take j):=by unfold sub;rw[az (by omega)];simp
theorem JR {α:Type}(l:List α)(j:Nat)(h:j≤l.length):sub l (j:Int) (l.length:Int)=some (l.drop j):=by unfold sub;rw[az (by omega)];simp
theorem E6 (a vs:List Int)(h:a.length+vs.length≤1000000000):nm a vs=some (vs.foldl qO a):=by
 unfold nm;rw[aN (by simp only[dj];omega)];rw[a9];have:=pa (T:=jA (λ(y10:List Int) (_:Int)=>some y10) vs) vs (λ(s:List Int) i=>(s,(i:Int))) (λi s=>s.length≤a.length+i) (λv s=> .ok (qO s v)) (λs=>some s) (by omega) (λi hi s nx hI=>?hs) (λi hi s s' hI hg=>?hn) (λs nx hI=>?hf) a (by simp)
 case hs=>
  simp only[jA]
  rw[aj (by omega),aZ hi,wrap64 (n:=(i:Int)+1) (by omega) (by omega)]
  simp only[ae,ab,tH s vs[i] (by omega)]
  unfold qO
  cases hh:hasB s vs[i]with
  |true=>rfl
  |false=>
   have hm:vs[i]∉s:=λe=>by rw[yw.2 e]at hh;cases hh
   simp only[af]
   rw[wG (hit:=λy6=>aa (sub s 0 y6) λx7=>room (List.length ([]:List Int)+List.length x7) (room (List.length (([]:List Int)++x7)+List.length ([vs[i]])) (aa (sub s y6 (s.length:Int)) λx9=>room (List.length ((([]:List Int)++x7)++([vs[i]]))+List.length x9) (nx (((([]:List Int)++x7)++([vs[i]]))++x9,(i:Int)+1)))))
    (fin:=aa (sub s 0 (s.length:Int)) λx7=>room (List.length ([]:List Int)+List.length x7) (room (List.length (([]:List Int)++x7)+List.length ([vs[i]])) (aa (sub s (s.length:Int) (s.length:Int)) λx9=>room (List.length ((([]:List Int)++x7)++([vs[i]]))+List.length x9) (nx (((([]:List Int)++x7)++([vs[i]]))++x9,(i:Int)+1)))))
    (λx=> !decide (x<vs[i])) s (by omega) (λj hj nx'=>?hs2) (λnx'=>?hf2)]
   case hs2=>
    simp only[mH]
    rw[aj (by omega),aZ hj,aZ hi,wrap64 (n:=(j:Int)+1) (by omega) (by omega)]
    simp only[ae,ab]
    cases decide (s[j]<vs[i])<;>rfl
   case hf2=>
    simp only[mH]
    rw[ah (by omega)];rfl
   refine Eq.trans (Il (λx=> !decide (x<vs[i])) (λy6=>aa (sub s 0 y6) λx7=>room (List.length ([]:List Int)+List.length x7) (room (List.length (([]:List Int)++x7)+List.length ([vs[i]])) (aa (sub s y6 (s.length:Int)) λx9=>room (List.length ((([]:List Int)++x7)++([vs[i]]))+List.length x9) (nx (((([]:List Int)++x7)++([vs[i]]))++x9,(i:Int)+1))))) s) ?_
   have hle:s.findIdx (λx=> !decide (x<vs[i]))≤s.length:=List.findIdx_le_length
   have e:=KW vs[i] s hm
   generalize s.findIdx (λx=> !decide (x<vs[i]))=j at*
   rw[Du s j hle,JR s j hle]
   simp only[ab,a9]
   rw[aN (by simp;omega),aN (by simp;omega),aN (by simp;omega),e];rfl
 case hn=>
  cases hg
  have:=yg s vs[i]
  omega
 case hf=>
  simp only[jA]
  rw[ah (by omega)];rfl
 rw[u6]at this;exact this
theorem Gs (l:List Int)(v:Int)(h:l.length≤1000000000):fN l v=some (ins v l):=by
 unfold fN
 have hgo:∀(l:List Int)(acc:List Int)(d:Bool),acc.length+l.length+(bif d then 0 else 1)≤1073741824→
  td (λ(x:Int) (s:List Int×Bool) (k:List Int×Bool→Option (List Int))=>cond (cond (!s.2) (decide (v<x)) false) (room (List.length s.1+List.length ([v])) (room (List.length (s.1++([v]))+List.length ([x])) (k ((s.1++([v]))++([x]),true)))) (room (List.length s.1+List.length ([x])) (k (s.1++([x]),s.2))))
   (λs=>cond (!s.2) (room (List.length s.1+List.length ([v])) (some (s.1++([v])))) (some s.1)) l (acc,d)=some (acc++bif d then l else ins v l):=by
  intro l
  induction l with
  |nil=>
   intro acc d hl
   rw[td]
   simp only[dj]at hl
   cases d with
   |true=>simp
   |false=>
    simp only[bq,ae,af]at hl⊢
    rw[aN (by simp;omega)];rfl
  |cons x l ih=>
   intro acc d hl
   simp only[bE]at hl
   rw[td]
   cases d with
   |true=>
    simp only[au,af,ae]at hl⊢
    rw[aN (by simp;omega),ih _ _ (by simp;omega)]
    simp
   |false=>
    simp only[bq,ae,af]at hl⊢
    rw[ins]
    cases decide (v<x)with
    |true=>
     simp only[ae]
     rw[aN (by simp;omega),aN (by simp;omega)]
     rw[ih _ _ (by simp;omega)];simp
    |false=>
     simp only[af]
     rw[aN (by simp;omega),ih _ _ (by simp;omega)]
     simp
 have hfu:=fj;have key:=um (T:=gA (λ(y3:List Int) (y4:Bool) (_:Int)=>cond (!y4) (room (List.length y3+List.length ([v])) (some (y3++([v])))) (some y3)) v l (l.length:Int)) l (λ(s:List Int×Bool) i=>(s.1,s.2,(i:Int))) (λ(x:Int) (s:List Int×Bool) (k:List Int×Bool→Option (List Int))=>cond (cond (!s.2) (decide (v<x)) false) (room (List.length s.1+List.length ([v])) (room (List.length (s.1++([v]))+List.length ([x])) (k ((s.1++([v]))++([x]),true)))) (room (List.length s.1+List.length ([x])) (k (s.1++([x]),s.2)))) (λs=>cond (!s.2) (room (List.length s.1+List.length ([v])) (some (s.1++([v])))) (some s.1)) (λi hi s nx=>by simp only[gA];rw[aj (by omega),aZ hi,wrap64 (n:=(i:Int)+1) (by omega) (by omega)];simp only[ae,ab,bl];rfl) (λs nx=>by simp only[gA];rw[ah (by omega)];rfl) fuel 0 (([]:List Int),false) (by omega) (by omega);rw[c5,hgo l [] false (by simp;omega)]at key;exact key
def gM:Port:=(0,[],0,false)
def Bo (p:Port):Bool:=c8 (p.1,false,p.2.1)&&hasB p.2.1 p.2.2.1
def yM (l:List Port)(i:Nat):Bool:=Bo (l.getD i gM)&&(List.range i).all (λj=> !((j !=0)&&((l.getD j gM).1==(l.getD i gM).1)))
def eE (l:List Port):Bool:=dD (l.length:Int) 1 8&&(List.range l.length).all (yM l)
theorem Lv (i:Nat)(q:Nat→Bool):(List.range (i-1)).all (λj=> !(q (j+1)))=(List.range i).all (λj=> !((j !=0)&&q j)):=by
 rw[bK,a7,a7];simp only[c6];constructor;intro h j hj;cases j with|zero=>rfl|succ j=>have:=h j (by omega);simpa using this
 intro h j hj;have:=h (j+1) (by omega);simpa using this
theorem wW (l:List Port)(h:l.length≤1000000000)(hv:∀p∈l,p.2.1.length≤1000000000):hZ l=some (eE l):=by
 unfold hZ eE;rw[fH (hit:=some false) (fin:=some true) (yM l) l.length (by omega) (λi nx hi=>?hs) (λnx=>?hf)]
 case hs=>
  have hvi:=hv _ (aD hi)
  simp only[nC]
  rw[aj (by omega),aZ hi,wrap64 (by omega) (by omega)]
  simp only[ae,ab,lN (l[i].1,false,l[i].2.1) hvi,tH _ _ hvi]
  have e1:(1:Int)=(((0:Nat)+1:Nat):Int):=rfl
  rw[e1,Eh (hit:=some false) (fin:=nx ((i:Int)+1)) (λj=>((j+1:Nat):Int)) (λj=> !((l.getD (j+1) gM).1==l[i].1)) (i-1) (by omega) (λj nx' hj hp=>?hs2) (λhp nx'=>?hf2)]
  case hs2=>
   have hjl:j+1<l.length:=by omega
   simp only[nD]
   rw[aj (by omega),aZ hjl,aZ hi,wrap64 (by omega) (by omega)]
   simp only[ae,ab,bF hjl,dY];rfl
  case hf2=>
   simp only[nD]
   rw[ah (by omega)];rfl
  rw[Lv i (λj=>(l.getD j gM).1==l[i].1)]
  simp only[yM,Bo,bF hi]
  cases c8 (l[i].1,false,l[i].2.1)<;>cases hasB l[i].2.1 l[i].2.2.1<;>cases (List.range i).all (λj=> !((j !=0)&&((l.getD j gM).1==l[i].1)))<;>rfl
 case hf=>
  simp only[nC]
  rw[ah (by omega)];rfl
 simp only[cV,ab];cases dD (l.length:Int) 1 8<;>cases (List.range l.length).all (yM l)<;>rfl
def uH (p:Nat→Bool):List Nat→Int
 |[]=> -1
 |j::r=>bif p j then(j:Int) else uH p r
theorem Im (p:Nat→Bool):∀n s i,s≤i→i<s+n→p i=true→(uH p (List.range' s n)==(i:Int))=(List.range' s (i-s)).all (λj=> !(p j))
 |0,s,i,h1,h2,_=>by omega
 |n+1,s,i,h1,h2,hp=>by
  rw[List.range'_succ,uH];rcases bc s i with hlt|hge;obtain⟨k,hk⟩:∃k,i-s=k+1:=⟨i-s-1,by omega⟩
  rw[hk,List.range'_succ,bg];cases hps:p s with
  |true=>
   simp only[ae,au,cD];have:¬(s:Int)=(i:Int):=by omega
   simpa using this
  |false=>simp only[af,bq,bn];rw[Im p n (s+1) i (by omega) (by omega) hp,show i-(s+1)=k by omega]
  have:s=i:=by omega
  subst this;rw[hp,dr];simp
theorem De {R:Type}(p:Nat→Bool)(hit:Nat→Option R)(fin:Option R)(k:Int→Option R)(h1:∀j:Nat,hit j=k (j:Int))(h2:fin=k (-1)):∀l:List Nat,Dc (λ(j:Nat) (s:Unit)=>bif p j then .error (hit j) else .ok ()) (λ_=>fin) l ()=k (uH p l)
 |[]=>h2
 |j::l=>by rw[Dc,uH];cases p j with|true=>exact h1 j|false=>exact De p hit fin k h1 h2 l
theorem IS (l:List Port)(a:Int)(h:l.length≤1000000000):m6 l a=some (uH (λj=>(j !=0)&&((l.getD j gM).1==a)) (List.range' 0 l.length)):=by
 unfold m6;have:=pa (T:=ja (λ(_:Int)=>some (-1)) (λ(y4:Int) (_:Int)=>some y4) a 0 l (l.length:Int)) (List.range' 0 l.length) (λ(_:Unit) i=>(i:Int)) (λ_ _=>True) (λ(j:Nat) (s:Unit)=>bif (j !=0)&&((l.getD j gM).1==a) then .error (some (j:Int)) else .ok ()) (λ_=>some (-1)) (by simp;omega) (λi hi s nx _=>?hs) (λ_ _ _ _ _ _=>trivial) (λs nx _=>?hf) () trivial
 case hs=>
  have hil:i<l.length:=by simpa using hi
  have e:(List.range' 0 l.length)[i]=i:=by simp
  rw[e]
  simp only[ja]
  rw[aj (by omega),aZ hil,wrap64 (by omega) (by omega)]
  simp only[ae,ab,bF hil,bl,cF]
  have e2:((i:Int) !=0)=(i !=0):=by rw[bK];simp
  rw[e2]
  cases (i !=0)&&(l[i].1==a)<;>rfl
 case hf=>
  simp only[ja]
  rw[ah (by simp)];rfl
 rw[De (λj=>(j !=0)&&((l.getD j gM).1==a)) _ _ (λx=>some x) (λ_=>rfl) rfl]at this;exact this
theorem wM (l:List Port)(h:l.length≤1000000000)(hv:∀p∈l,p.2.1.length≤1000000000):g4 l=some (eE l):=by
 unfold g4 eE;rw[fH (hit:=some false) (fin:=some true) (yM l) l.length (by omega) (λi nx hi=>?hs) (λnx=>?hf)]
 case hs=>
  have hvi:=hv _ (aD hi)
  simp only[ns]
  rw[aj (by omega),aZ hi,wrap64 (by omega) (by omega)]
  simp only[ae,ab,tR,lu (l[i].1,false,l[i].2.1) hvi,rq _ _ hvi,IS l _ h,bl,bne]
  have e2:((i:Int)==0)=(i==0):=by rw[bK];simp
  rw[e2]
  simp only[yM,Bo,bF hi]
  cases h0:i==0 with
  |true=>
   have:i=0:=by simpa using h0
   subst this
   cases c8 (l[0].1,false,l[0].2.1)<;>cases hasB l[0].2.1 l[0].2.2.1<;>rfl
  |false=>
   have hne:(i !=0)=true:=by simp only[bne,h0,bq]
   have fa:=Im (λj=>(j !=0)&&((l.getD j gM).1==l[i].1)) l.length 0 i (by omega) (by omega) (by simp only[hne,bF hi,bn,dI])
   rw[Nat.sub_zero,←List.range_eq_range' (n:=i)]at fa
   simp only[bne]at fa⊢
   rw[fa]
   cases c8 (l[i].1,false,l[i].2.1)<;>cases hasB l[i].2.1 l[i].2.2.1<;>cases (List.range i).all (λj=> !((!(j==0))&&((l.getD j gM).1==l[i].1)))<;>rfl
 case hf=>
  simp only[ns]
  rw[ah (by omega)];rfl
 simp only[dK,ab];cases dD (l.length:Int) 1 8<;>cases (List.range l.length).all (yM l)<;>rfl
def jE (m:aR):Bool:=c8 m.1&&(dD m.2.1 0 1000000000000&&dD m.2.2.2 0 1000000000000)
theorem JH (m:aR)(h:m.1.2.2.length≤1000000000):lO m=some (jE m):=by simp only[lO,lN _ h,cV,ab,bl,cF,jE]
theorem II (m:aR)(h:m.1.2.2.length≤1000000000):lv m=some (jE m):=by simp only[lv,lu _ h,dK,ab,bl,cF,jE]
theorem ur {m:aR}(h:jE m=true):m.1.2.2.length≤8:=by unfold jE c8 at h;simp only[ai,aY]at h;omega
def GP (m:aR):Port:=(m.1.1,m.1.2.2.foldl qO [0],0,true)
def xt (s:List Int×List Port)(m:aR):List Int×List Port:=(m.1.2.2.foldl qO s.1,s.2++[GP m])
def tD (ms:List aR):List Port:=(0,(ms.foldl xt ([0],[])).1,0,false)::(ms.foldl xt ([0],[])).2
def dx (ms:List aR):List Port×Bool:=bif dD (ms.length:Int) 1 3&&(ms.all jE&&eE (tD ms)) then(tD ms,true) else([],false)
theorem Dd {α σ R:Type}(p:α→Bool)(f:σ→α→σ)(r:Option R)(fin:σ→Option R):∀(l:List α)(s:σ),Dc (λx s=>bif p x then .ok (f s x) else .error r) fin l s=bif l.all p then fin (l.foldl f s) else r
 |[],s=>rfl
 |x::l,s=>by rw[Dc,bg,cv];cases p x with|false=>rfl|true=>simp only[ae,bn];exact Dd p f r fin l (f s x)
def Hp (i:Nat)(s:List Int×List Port):Prop:=s.1.length≤1+9*i∧s.2.length=i∧∀p∈s.2,p.2.1.length≤9
theorem Hp.port {i:Nat}{s:List Int×List Port}(h:Hp i s){m:aR}(hm:jE m=true)(U:List Int)(hU:U.length≤s.1.length+9):Hp (i+1) (U,s.2++[GP m]):=by have hl:=ur hm;have:=uC m.1.2.2 [0];refine⟨?_,?_,?_⟩;have:=h.1;simp only;omega;have:=h.2.1;simp;omega;intro p hp;rcases aq.1 hp with hp|hp;exact h.2.2 p hp;simp only[cP]at hp;subst hp;simp only[GP,bz]at this⊢;omega
theorem wb {i:Nat}{s:List Int×List Port}(h:Hp i s)(hi:i≤3):((0,s.1,0,false)::s.2:List Port).length≤1000000000∧∀p∈((0,s.1,0,false)::s.2:List Port),p.2.1.length≤1000000000:=by have h1:=h.1;have h2:=h.2.1;refine⟨by simp only[bE];omega,λp hp=>?_⟩;rcases bu.1 hp with rfl|hp;simp only;omega;have:=h.2.2 p hp;omega
theorem qI (ms:List aR)(h:∀m∈ms,m.1.2.2.length≤1000000000):jY ms=some (dx ms):=by
 unfold jY dx;simp only[cV,ab];cases hn:dD (ms.length:Int) 1 3 with
 |false=>rfl
 |true=>
  have hn':=de.1 hn;simp only[au,af,bn];have:=pa (T:=kx (λ(y12:List Port) (_:Int)=>aa (hZ y12) λr14=>cond (!r14) (some (([]:List Port),false)) (some (y12,true))) (λ(y15:List Port) (y16:Bool) (_:List Port) (_:Int)=>some (y15,y16)) ms ([]:List Port) false) ms (λ(s:List Int×List Port) i=>((0,s.1,0,false)::s.2,(i:Int))) Hp (λm s=>bif jE m then .ok (xt s m) else .error (some (([]:List Port),false))) (λs=>some (bif eE ((0,s.1,0,false)::s.2) then((0,s.1,0,false)::s.2,true) else([],false))) (by omega) (λi hi s nx hI=>?hs) (λi hi s s' hI hg=>?hn) (λs nx hI=>?hf) ([0],[]) ⟨by simp,rfl,by simp⟩
  case hs=>
   simp only[kx]
   have hm:=h _ (aD hi)
   rw[aj (by omega),aZ hi,wrap64 (n:=(i:Int)+1) (by omega) (by omega)]
   simp only[ae,ab,JH _ hm]
   cases hmb:jE ms[i]with
   |false=>rfl
   |true=>
    have hl:=ur hmb
    have hU:=hI.1
    have hP:=hI.2.1
    have e0:idx ((0,s.1,0,false)::s.2:List Port) 0=some (0,s.1,0,false):=rfl
    simp only[au,af,ae,e0,ab]
    rw[E6 s.1 _ (by omega),E6 [0] _ (by simp;omega)]
    simp only[ab]
    rw[aN (by simp;omega)]
    rfl
  case hn=>
   cases hmb:jE ms[i]with
   |false=>rw[hmb]at hg;cases hg
   |true=>
    rw[hmb]at hg
    cases hg
    have:=uC ms[i].1.2.2 s.1
    have:=ur hmb
    exact hI.port hmb _ (by omega)
  case hf=>
   simp only[kx]
   rw[ah (by omega)]
   have hb:=wb hI (by omega)
   simp only[af,wW _ hb.1 hb.2,ab]
   cases eE ((0,s.1,0,false)::s.2)<;>rfl
  rw[Dd]at this;refine Eq.trans this ?_;unfold tD;cases ms.all jE<;>rfl
def E8 (s:List Int×List Port)(m:aR):List Int×List Port:=(([0]++m.1.2.2).foldl qO s.1,s.2++[GP m])
theorem QF {s:List Int×List Port}{m:aR}(h:(0:Int)∈s.1):E8 s m=xt s m:=by unfold E8 xt;rw[List.foldl_append];simp only[cv,List.foldl_nil,Nt h]
theorem Dq:∀(ms:List aR)(s:List Int×List Port),(0:Int)∈s.1→ms.foldl E8 s=ms.foldl xt s
 |[],_,_=>rfl
 |m::ms,s,h=>by rw[cv,cv,QF h];exact Dq ms _ (zP _ h)
theorem JP (ms:List aR)(h:ms≠[]):ms.foldl E8 ([],[])=ms.foldl xt ([0],[]):=by cases ms with|nil=>exact absurd rfl h|cons m ms=>rw[cv,cv];have e:E8 ([],[]) m=xt ([0],[]) m:=rfl;rw[e];exact Dq ms _ (zP _ (by simp))
theorem NP {R:Type}(k0:List Int→List Int→Int→Option R)(k:List Int→List Int→Option R)(hk:∀a b i,k0 a b i=k a b)(v2:List Port)(v3:Bool)(v4:List Port)(v18:List aR)(v19 v20:Int)(b7:aR)(vs all:List Int)(h:all.length+vs.length≤1000000000): aV (gq k0 v2 v3 v4 v18 v19 v20 vs (vs.length:Int) b7) fuel (all,([]:List Int),0)=k (vs.foldl qO all) (vs.foldl qO []):=by
 have:=pa (T:=gq k0 v2 v3 v4 v18 v19 v20 vs (vs.length:Int) b7) vs (λ(s:List Int×List Int) i=>(s.1,s.2,(i:Int))) (λi s=>s.1.length≤all.length+i∧s.2.length≤i) (λv s=> .ok (qO s.1 v,qO s.2 v)) (λs=>k s.1 s.2) (by omega) (λi hi s nx hI=>?hs) (λi hi s s' hI hg=>?hn) (λs nx hI=>?hf) (all,[]) ⟨by simp,by simp⟩
 case hs=>
  simp only[gq]
  rw[aj (by omega),aZ hi,wrap64 (n:=(i:Int)+1) (by omega) (by omega)]
  simp only[ae,ab,rq s.2 vs[i] (by omega),rq s.1 vs[i] (by omega),Gs s.2 vs[i] (by omega),Gs s.1 vs[i] (by omega),qO]
  cases hasB s.2 vs[i]<;>cases hasB s.1 vs[i]<;>rfl
 case hn=>
  cases hg
  have:=yg s.1 vs[i]
  have:=yg s.2 vs[i]
  have h1:=hI.1
  have h2:=hI.2
  exact⟨by simp only;omega,by simp only;omega⟩
 case hf=>
  simp only[gq]
  rw[ah (by omega)]
  simp only[af,hk]
 rw[u6]at this;refine Eq.trans this ?_;have e:∀(l:List Int)(s:List Int×List Int),l.foldl (λs v=>(qO s.1 v,qO s.2 v)) s=(l.foldl qO s.1,l.foldl qO s.2):=by intro l;induction l with|nil=>intro s;rfl|cons x l ih=>intro s;rw[cv,ih];rfl
 rw[e]
theorem ti (ms:List aR)(h:∀m∈ms,m.1.2.2.length≤1000000000):jM ms=some (dx ms):=by
 unfold jM dx;simp only[dK,ab];cases hn:dD (ms.length:Int) 1 3 with
 |false=>rfl
 |true=>
  have hn':=de.1 hn;simp only[au,af,bn];have:=pa (T:=kl (λ(y14:List Port) (y15:List Int) (_:Int)=>aa (idx y14 0) λx17=>aa (idx y14 0) λx18=>aa (g4 (List.set y14 (Int.toNat 0) (x18.1,y15,x18.2.2))) λr19=>cond (!r19) (some (([]:List Port),false)) (some (List.set y14 (Int.toNat 0) (x18.1,y15,x18.2.2),true))) (λ(y20:List Port) (y21:Bool) (_:List Port) (_:List Int) (_:Int)=>some (y20,y21)) ([]:List Port) false ms (ms.length:Int)) ms (λ(s:List Int×List Port) i=>((0,[],0,false)::s.2,s.1,(i:Int))) Hp (λm s=>bif jE m then .ok (E8 s m) else .error (some (([]:List Port),false))) (λs=>some (bif eE ((0,s.1,0,false)::s.2) then((0,s.1,0,false)::s.2,true) else([],false))) (by omega) (λi hi s nx hI=>?hs) (λi hi s s' hI hg=>?hn) (λs nx hI=>?hf) ([],[]) ⟨by simp,rfl,by simp⟩
  case hs=>
   simp only[kl]
   have hm:=h _ (aD hi)
   rw[aj (by omega),aZ hi,wrap64 (n:=(i:Int)+1) (by omega) (by omega)]
   simp only[ae,ab,II _ hm]
   cases hmb:jE ms[i]with
   |false=>rfl
   |true=>
    have hl:=ur hmb
    have hU:=hI.1
    have hP:=hI.2.1
    simp only[au,af,ae]
    rw[aN (by simp;omega)]
    refine(NP _ (λa b=>room (List.length ((0,[],0,false)::s.2:List Port)+List.length ([(ms[i].1.1,b,0,true)]:List Port)) (nx (((0,[],0,false)::s.2)++([(ms[i].1.1,b,0,true)]),a,(i:Int)+1))) (λ_ _ _=>rfl) _ _ _ _ _ _ _ ([0]++ms[i].1.2.2) s.1 (by simp only[ak,bz];omega)).trans ?_
    rw[aN (by simp;omega)]
    rfl
  case hn=>
   cases hmb:jE ms[i]with
   |false=>rw[hmb]at hg;cases hg
   |true=>
    rw[hmb]at hg
    cases hg
    have hu:=uC ([0]++ms[i].1.2.2) s.1
    have hl:=ur hmb
    simp only[ak,bz]at hu
    exact hI.port hmb _ (by omega)
  case hf=>
   simp only[kl]
   rw[ah (by omega)]
   have hb:=wb hI (by omega)
   have e0:idx ((0,[],0,false)::s.2:List Port) 0=some (0,[],0,false):=rfl
   have e1:List.set ((0,[],0,false)::s.2:List Port) (Int.toNat 0) (0,s.1,0,false)=(0,s.1,0,false)::s.2:=rfl
   simp only[af,e0,ab,e1,wM _ hb.1 hb.2]
   cases eE ((0,s.1,0,false)::s.2)<;>rfl
  rw[Dd,JP ms (by rintro rfl;simp at hn')]at this;refine Eq.trans this ?_;unfold tD;cases ms.all jE<;>rfl
def sj (f:Filter)(p:aC):Bool:=c8 f&&(((p.1==f.1)||((p.1==281474976710655)||f.2.1))&&((p.2.2.1== -1)||hasB f.2.2 p.2.2.1))
theorem IA (f:Filter)(p:aC)(h:f.2.2.length≤1000000000):rr f p=some (sj f p):=by simp only[rr,lu f h,rq f.2.2 _ h,ab,sj];cases c8 f<;>cases p.1==f.1<;>cases p.1==281474976710655<;>cases f.2.1<;>cases p.2.2.1== -1<;>rfl
theorem Jz (f:Filter)(p:aC)(h:f.2.2.length≤1000000000):rL f p=some (sj f p):=by simp only[rL,lN f h,tH f.2.2 _ h,ab,sj];cases c8 f<;>cases p.1==f.1<;>cases p.1==281474976710655<;>cases f.2.1<;>cases p.2.2.1== -1<;>rfl
def preB (a b n:Int):Bool:=Int.fdiv a (2^(min (Int.toNat (aw (32-n))) (IntKind.bits .i64)))==Int.fdiv b (2^(min (Int.toNat (aw (32-n))) (IntKind.bits .i64)))
theorem E0 {r:dF}(h:uz r=true):0≤r.2.2.2.1∧r.2.2.2.1≤32:=by rw[←de];unfold uz at h;simp only[ia,cV,ab,bl]at h;cases hp:dD r.2.2.2.1 0 32 with|true=>rfl|false=>rw[hp]at h;revert h;cases dD r.1 0 1000<;>cases r.2.1 !=0<;>cases r.2.1 !=6<;>cases r.2.1 !=17<;>cases dD r.2.2.1 0 4294967295<;>simp
def Pg (r:dF)(p:aC):Bool:=preB r.2.2.1 p.2.2.2.2.2.2.1 r.2.2.2.1&&(dD p.2.2.2.2.2.2.2.2.2.2.1 r.2.2.2.2.1 r.2.2.2.2.2.1&&((r.2.2.2.2.2.2.1== -2)||(r.2.2.2.2.2.2.1==p.2.2.1)))
def vZ (r:dF)(p:aC):Bool:=uz r&&(dA p&&(((r.2.1==0)||(r.2.1==p.2.2.2.2.2.2.2.2.1))&&Pg r p))
theorem Sz (a b n:Int)(h0:0≤n)(h1:n≤32):ko a b n=some (preB a b n):=by unfold ko preB;rw[ar (by rw[wrap64 (n:=32-n) (by omega) (by omega)];omega),ar (by rw[wrap64 (n:=32-n) (by omega) (by omega)];omega)]
theorem NR (r:dF)(p:aC):lY r p=some (vZ r p):=by
 unfold lY vZ;rw[PU,ab];cases hr:uz r with|false=>rfl|true=>?_
 have hp:=E0 hr;simp only[lS,Sz _ _ _ hp.1 hp.2,dK,ab,Pg];cases dA p<;>cases r.2.1==0<;>cases r.2.1==p.2.2.2.2.2.2.2.2.1<;>cases preB r.2.2.1 p.2.2.2.2.2.2.1 r.2.2.2.1<;>cases dD p.2.2.2.2.2.2.2.2.2.2.1 r.2.2.2.2.1 r.2.2.2.2.2.1<;>cases r.2.2.2.2.2.2.1== -2<;>rfl
theorem OE (r:dF)(p:aC):my r p=some (vZ r p):=by
 unfold my vZ;rw[Dl,ab];cases hr:uz r with|false=>rfl|true=>?_
 have hp:=E0 hr;have hw:¬aw (32-r.2.2.2.1)<0:=by rw[wrap64 (n:=32-r.2.2.2.1) (by omega) (by omega)];omega
 simp only[mn,re,ar hw,cV,ab,Pg];rw[show(Int.fdiv r.2.2.1 (2^(min (Int.toNat (aw (32-r.2.2.2.1))) (IntKind.bits .i64)))==Int.fdiv p.2.2.2.2.2.2.1 (2^(min (Int.toNat (aw (32-r.2.2.2.1))) (IntKind.bits .i64))))=preB r.2.2.1 p.2.2.2.2.2.2.1 r.2.2.2.1 from rfl];cases dA p<;>cases r.2.1==0<;>cases r.2.1==p.2.2.2.2.2.2.2.2.1<;>cases preB r.2.2.1 p.2.2.2.2.2.2.1 r.2.2.2.1<;>cases dD p.2.2.2.2.2.2.2.2.2.2.1 r.2.2.2.2.1 r.2.2.2.2.2.1<;>cases r.2.2.2.2.2.2.1== -2<;>rfl
def AF:dF:=(0,0,0,0,0,0,0,0,0)
def rf (l:List dF)(p:aC):Nat→Int
 |0=> -1
 |i+1=>bif vZ (l.getD i AF) p&&(decide (rf l p i<0)||decide ((l.getD i AF).1<(l.getD (rf l p i).toNat AF).1)) then(i:Int) else rf l p i
theorem BD (l:List dF)(p:aC):∀i,rf l p i= -1∨∃n:Nat,rf l p i=(n:Int)∧n<i
 |0=> .inl rfl
 |i+1=>by rw[rf];cases vZ (l.getD i AF) p&&(decide (rf l p i<0)||decide ((l.getD i AF).1<(l.getD (rf l p i).toNat AF).1))with|true=>exact .inr ⟨i,rfl,by omega⟩|false=>rcases BD l p i with h|⟨n,h,hn⟩;exact .inl h;exact .inr ⟨n,h,by omega⟩
theorem Ej {R:Type}(l:List dF)(p:aC)(i:Nat)(hi:i<l.length)(nx:Int×Int→Option R): (aa (cond (vZ l[i] p) (cond (decide (rf l p i<0)) (some true) (aa (idx l (rf l p i)) λx4=>some (decide (l[i].1<x4.1)))) (some false)) λq5=>cond q5 (nx ((i:Int),((i+1:Nat):Int))) (nx (rf l p i,((i+1:Nat):Int))))=nx (rf l p (i+1),((i+1:Nat):Int)):=by
 rw[rf,bF hi];cases vZ l[i] p with|false=>rfl|true=>?_
 rcases BD l p i with h|⟨n,h,hn⟩;rw[h];rfl;have hl:n<l.length:=by omega
 rw[h,ah (show¬(n:Int)<0 by omega),aZ hl];simp only[ae,af,ab,ax,bF hl,bn,cZ];cases decide (l[i].1<l[n].1)<;>rfl
def vw (l:List dF)(p:aC):Int:=bif sX l then rf l p l.length else-1
theorem Ik (l:List dF)(p:aC)(h:vw l p≥0):∃n:Nat,vw l p=(n:Int)∧n<l.length:=by unfold vw at h⊢;cases hr:sX l with|false=>rw[hr]at h;simp at h|true=>rw[hr]at h;simp only[ae]at h⊢;rcases BD l p l.length with g|g;omega;exact g
theorem NO (l:List dF)(p:aC)(h:l.length≤1000000000):pR l p=some (vw l p):=by
 unfold pR vw;rw[EH l h,ab];cases sX l with|false=>rfl|true=>?_
 simp only[au,af,ae];refine cp (λi=>(rf l p i,(i:Int))) l.length (by omega) (λi nx hi=>?_) (λnx=>?_);simp only[lV];rw[aj (by omega),aZ hi,wrap64 (n:=(i:Int)+1) (by omega) (by omega)];simp only[ae,ab,NR];exact Ej l p i hi nx;simp only[lV];rw[ah (by omega)];rfl
theorem OC (l:List dF)(p:aC)(h:l.length≤1000000000):qg l p=some (vw l p):=by
 have hfu:=fj;unfold qg vw;cases hr:sX l with
 |false=>
  obtain⟨f,hf⟩:∃f,fuel=f+1:=⟨fuel-1,by omega⟩
  rw[hf,aV];simp only[ju,wX l h,hr,ab];cases decide ((0:Int)<(l.length:Int))<;>rfl
 |true=>simp only[ae];refine cp (λi=>(rf l p i,(i:Int))) l.length (by omega) (λi nx hi=>?_) (λnx=>?_);simp only[ju,wX l h,hr];rw[aj (by omega),aZ hi,wrap64 (n:=(i:Int)+1) (by omega) (by omega)];simp only[ae,ab,OE];exact Ej l p i hi nx;simp only[ju];rw[ah (by omega)];rfl
def kO (p:aC):Int×Int×Int×Int×Int:=(p.2.2.2.2.2.2.2.2.1,p.2.2.2.2.2.2.1,p.2.2.2.2.2.2.2.1,p.2.2.2.2.2.2.2.2.2.1,p.2.2.2.2.2.2.2.2.2.2.1)
theorem IH (p:aC):qv p=some (kO p):=rfl
theorem JF (p:aC):qJ p=some (kO p):=rfl
def adA:Slot:=(0,(0,0,0,0,0),0)
def ya (s:dm)(q:Int)(p:aC):Int:=
 bif !n0 s q|| !dA p then-1 else
 bif decide (vw s.1 p≥0) then(bif (s.1.getD (vw s.1 p).toNat AF).2.2.2.2.2.2.2.1==1 then-1 else(s.1.getD (vw s.1 p).toNat AF).2.2.2.2.2.2.2.2) else
 bif decide (findF s.2.1 (kO p)≥0) then(s.2.1.getD (findF s.2.1 (kO p)).toNat adA).2.2 else zc s.2.2 q (kO p)
theorem NX (s:dm)(q:Int)(p:aC)(h1:s.1.length≤1000000000)(h2:s.2.1.length≤1000000000)(h3:s.2.2.2.length≤1000000000):l8 s q p=some (ya s q p):=by
 unfold l8 ya;rw[yz s q h1 h2 h3,ab,lS,ab];cases n0 s q with|false=>rfl|true=>?_
 cases dA p with|false=>rfl|true=>?_
 simp only[au,af,ab,cA,NO s.1 p h1,IH,Gv s.2.1 _ h2,IP s.2.2 q _ h3];cases hd:decide (vw s.1 p≥0)with
 |true=>obtain⟨n,hn,hl⟩:=Ik s.1 p (eH hd);simp only[ae,hn,aZ hl,ab,ax,bF hl];cases s.1[n].2.2.2.2.2.2.2.1==1<;>rfl
 |false=>
  simp only[af];cases hd2:decide (findF s.2.1 (kO p)≥0)with
  |true=>obtain⟨n,hn,hl⟩:=Ij s.2.1 (kO p) (eH hd2);simp only[ae,hn,aZ hl,ab,ax,bF hl]
  |false=>rfl
theorem OK (s:dm)(q:Int)(p:aC)(h1:s.1.length≤1000000000)(h2:s.2.1.length≤1000000000)(h3:s.2.2.2.length≤1000000000):mE s q p=some (ya s q p):=by
 unfold mE ya;rw[yZ s q h1 h2 h3,ab,mn,ab];cases n0 s q with|false=>rfl|true=>?_
 cases dA p with|false=>rfl|true=>?_
 simp only[au,af,ab,cA,OC s.1 p h1,JF,G5 s.2.1 _,JL s.2.2 q _ h3];cases hd:decide (vw s.1 p≥0)with
 |true=>obtain⟨n,hn,hl⟩:=Ik s.1 p (eH hd);simp only[ae,hn,aZ hl,ab,ax,bF hl];cases s.1[n].2.2.2.2.2.2.2.1==1<;>rfl
 |false=>
  simp only[af];cases hd2:decide (findF s.2.1 (kO p)≥0)with
  |true=>obtain⟨n,hn,hl⟩:=Ij s.2.1 (kO p) (eH hd2);simp only[ae,hn,aZ hl,ab,ax,bF hl]
  |false=>rfl
def Ns (a b:Int):Int:=(hK a b).getD 0
theorem Bs (a b:Int):hK a b=some (Ns a b):=by
 unfold Ns;have:∃x,hK a b=some x:=by simp only[hK,cV,ab];cases dD a 0 65535<;>cases dD b 0 65535<;>cases decide (aw (a+b)>65535)<;>exact⟨_,rfl⟩
 obtain⟨x,hx⟩:=this;rw[hx];rfl
theorem IB (a b:Int):ru a b=some (Ns a b):=Bs a b
theorem R7 {a b:Int}(h:0≤a∧a≤65535)(k:0≤b∧b≤65535):0≤Ns a b∧Ns a b≤65535:=by have e:=Bs a b;simp only[hK,cV,ab,de.2 h,de.2 k,au,af]at e;rw[wrap64 (n:=a+b) (by omega) (by omega)]at e;by_cases hc:a+b>65535;rw[aj hc,ae,wrap64 (by omega) (by omega)]at e;rw[←cw e];omega;rw[ah hc,af]at e;rw[←cw e];omega
def sw (s:Bytes):Nat→Int
 |0=>0
 |j+1=>Ns (sw s j) ((bT s (2*j)*256+bT s (2*j+1):Nat):Int)
theorem QG (s:Bytes):∀j,0≤sw s j∧sw s j≤65535
 |0=>by simp[sw]
 |j+1=>by have b0:=dk s (2*j);have b1:=dk s (2*j+1);exact R7 (QG s j) (by omega)
theorem BL {s:Bytes}{i:Nat}(h:s.length≤i):bT s i=0:=by unfold bT;rw[List.getD_eq_getElem?_getD,List.getElem?_eq_none h];rfl
theorem S9 (s:Bytes)(h:s.length≤1000000000):qp s=some (sw s ((s.length+1)/2)):=by
 unfold qp;refine cp (λj=>(sw s j,((2*j:Nat):Int))) ((s.length+1)/2) (by omega) (λj nx hj=>?_) (λnx=>?_);have b0:=dk s (2*j);have b1:=dk s (2*j+1);obtain⟨x,hx,ex⟩:=ki (s:=s) (i:=2*j) (by omega);simp only[mG];rw[aj (by omega),ae,hx,ab,ar (by omega),wrap64 (n:=((2*j:Nat):Int)+1) (by omega) (by omega),wrap64 (n:=((2*j:Nat):Int)+2) (by omega) (by omega),ex,ew (by omega)];have e8:min (Int.toNat 8) (IntKind.bits .i64)=8:=rfl;have en:((2*j:Nat):Int)+2=((2*(j+1):Nat):Int):=by omega
 rw[e8,wrap64 (n:=((bT s (2*j):Nat):Int)*2^8) (by omega) (by omega)];by_cases hc:2*j+1<s.length;obtain⟨y,hy,ey⟩:=ki (s:=s) (i:=2*j+1) hc;rw[aj (by omega),ae,show((2*j:Nat):Int)+1=((2*j+1:Nat):Int) by omega,hy,ab,ey,ew (n:=bT s (2*j+1)) (by omega),wrap64 (by omega) (by omega),Bs,ab,en,show((bT s (2*j):Nat):Int)*2^8+((bT s (2*j+1):Nat):Int)=((bT s (2*j)*256+bT s (2*j+1):Nat):Int) by omega];rfl;have hz:=BL (s:=s) (i:=2*j+1) (by omega);rw[ah (by omega),af,Bs,ab,en,show((bT s (2*j):Nat):Int)*2^8=((bT s (2*j)*256+bT s (2*j+1):Nat):Int) by rw[hz];omega];rfl;simp only[mG];rw[ah (by omega)];rfl
theorem SB (s:Bytes)(h:s.length≤1000000000):p4 s=some (sw s ((s.length+1)/2)):=by
 unfold p4;refine cp (λj=>(sw s j,((2*j:Nat):Int))) ((s.length+1)/2) (by omega) (λj nx hj=>?_) (λnx=>?_);have b0:=dk s (2*j);have b1:=dk s (2*j+1);obtain⟨x,hx,ex⟩:=ki (s:=s) (i:=2*j) (by omega);simp only[ma];rw[aj (by omega),ae,hx,ab,ar (by omega),wrap64 (n:=((2*j:Nat):Int)+1) (by omega) (by omega),wrap64 (n:=((2*j:Nat):Int)+2) (by omega) (by omega),ex,ew (by omega)];have e8:min (Int.toNat 8) (IntKind.bits .i64)=8:=rfl;have en:((2*j:Nat):Int)+2=((2*(j+1):Nat):Int):=by omega
 rw[e8,show((bT s (2*j):Nat):Int)*2^8=((2^8*bT s (2*j):Nat):Int) by omega,ew (n:=2^8*bT s (2*j)) (by omega)];by_cases hc:2*j+1<s.length;obtain⟨y,hy,ey⟩:=ki (s:=s) (i:=2*j+1) hc;rw[aj (by omega),ae,show((2*j:Nat):Int)+1=((2*j+1:Nat):Int) by omega,hy,ab,ey,ew (n:=bT s (2*j+1)) (by omega),xS (bT s (2*j)) 8 (bT s (2*j+1)) (by omega) (by omega),IB,ab,en,show 2^8*bT s (2*j)+bT s (2*j+1)=bT s (2*j)*256+bT s (2*j+1) by omega];rfl;have hz:=BL (s:=s) (i:=2*j+1) (by omega);rw[ah (by omega),af,IB,ab,en,show((2^8*bT s (2*j):Nat):Int)=((bT s (2*j)*256+bT s (2*j+1):Nat):Int) by rw[hz];omega];rfl;simp only[ma];rw[ah (by omega)];rfl
def Ks (s:Bytes):Int:=65535-sw s ((s.length+1)/2)
theorem G1 (s:Bytes)(h:s.length≤1000000000):kL s=some (Ks s):=by have:=QG s ((s.length+1)/2);simp only[kL,S9 s h,ab];rw[wrap64 (by omega) (by omega)];rfl
theorem MK (s:Bytes)(h:s.length≤1000000000):mV s=some (Ks s):=by have:=QG s ((s.length+1)/2);simp only[mV,SB s h,ab];rw[wrap64 (by omega) (by omega)];rfl
def AU (s:Bytes)(a:Int)(p:Bytes):Bytes:=bif dz s a (p.length:Int) then(s.take a.toNat++p)++s.drop (a.toNat+p.length) else s
theorem Jp (s:Bytes)(a:Int)(p:Bytes):(AU s a p).length=s.length:=by unfold AU;cases hw:dz s a (p.length:Int)with|false=>rfl|true=>simp only[dz,aY]at hw;simp only[ae,ak,bt,bN];omega
theorem Jr (s:Bytes)(a:Int)(p:Bytes)(h:s.length≤1000000000)(hw:dz s a (p.length:Int)=true): (aa (sub s 0 a) λx2=>room (List.length x2+List.length p) (aa (sub s (aw (a+((List.length p:Int)))) ((List.length s:Int))) λx3=>room (List.length (x2++p)+List.length x3) (some ((x2++p)++x3))))=some (AU s a p):=by
 have hw':=hw;simp only[dz,aY]at hw';obtain⟨n,rfl⟩:=a4 hw'.1;have e1:sub s 0 (n:Int)=some (s.take n):=by unfold sub;rw[az (by omega)];rfl
 have e2:sub s (((n+p.length:Nat):Int)) (s.length:Int)=some (s.drop (n+p.length)):=by unfold sub;rw[az (by omega),ax,ax,bJ]
 rw[e1,wrap64 (by omega) (by omega),show(n:Int)+(p.length:Int)=((n+p.length:Nat):Int) by omega,e2,ab,aN (by simp only[bt];omega),ab,aN (by simp only[ak,bt,bN];omega)];unfold AU;rw[hw];rfl
theorem G9 (s:Bytes)(a:Int)(p:Bytes)(h:s.length≤1000000000):gn s a p=some (AU s a p):=by unfold gn;rw[wj s a _ h (by omega),ab];cases hw:dz s a (p.length:Int)with|false=>simp only[bq,ae,AU,hw,af]|true=>exact Jr s a p h hw
theorem Gz (s:Bytes)(a:Int)(p:Bytes)(h:s.length≤1000000000)(hp:p.length≤1000000000):kF s a p=some (AU s a p):=by
 unfold kF;rw[wrap64 (n:=(s.length:Int)-(p.length:Int)) (by omega) (by omega)];cases hw:dz s a (p.length:Int)with
 |true=>have hw':=hw;simp only[dz,aY]at hw';rw[ah (show¬a<0 by omega),ah (show¬a>(s.length:Int)-(p.length:Int) by omega)];exact Jr s a p h hw
 |false=>
  have hp:AU s a p=s:=by unfold AU;rw[hw];rfl
  rw[hp];simp only[dz,cx]at hw;by_cases h0:a<0;rw[aj h0];rfl;rw[ah h0,aj (show a>(s.length:Int)-(p.length:Int) by omega)];rfl
def XT (x y:Int):Bytes:=bytesOf [x,y]
theorem Fu (x y:Int):(XT x y).length=2:=rfl
def u3 (a b k n:Int):Bool:=dD a 0 4294967295&&(dD b 0 4294967295&&(dD k 0 255&&dD n 0 65535))
def sU (a b k n:Int):Bytes:=((gR a++gR b)++XT 0 (eR k))++dh n
theorem EX (a b k n:Int):(sU a b k n).length≤12:=by have:=dy a;have:=dy b;have:=bp n;simp only[sU,ak,Fu];omega
theorem xW (a b k n:Int):h9 a b k n=some (bif u3 a b k n then(sU a b k n,true) else([],false)):=by
 have:=dy a;have:=dy b;have:=bp n;unfold h9 u3;simp only[cV,ab,nR,jV];cases dD a 0 4294967295 with|false=>rfl|true=>?_
 cases dD b 0 4294967295 with|false=>rfl|true=>?_
 cases dD k 0 255 with|false=>rfl|true=>?_
 cases dD n 0 65535 with|false=>rfl|true=>?_
 simp only[au,af,cf,ae,ab];have e:(bytesOf [0,eR k]).length=2:=rfl;rw[aN (by omega),aN (by simp only[ak,e];omega),aN (by simp only[ak,e];omega)];rfl
theorem KS (a b k n:Int):oz a b k n=some (bif u3 a b k n then(sU a b k n,true) else([],false)):=xW a b k n
def bare (g:cC):Bytes:=bif g.1==6 then
    (((((dh g.2.1++dh g.2.2.1)++gR g.2.2.2.1)++gR g.2.2.2.2.1)++XT 80 (eR g.2.2.2.2.2.1))++dh g.2.2.2.2.2.2.1)++gR 0++g.2.2.2.2.2.2.2
 else(((dh g.2.1++dh g.2.2.1)++dh (8+(g.2.2.2.2.2.2.2.length:Int)))++dh 0)++g.2.2.2.2.2.2.2
theorem Fs (g:cC):(bare g).length≤20+g.2.2.2.2.2.2.2.length:=by have:=bp g.2.1;have:=bp g.2.2.1;have:=dy g.2.2.2.1;have:=dy g.2.2.2.2.1;have:=bp g.2.2.2.2.2.2.1;have:=dy 0;have:=bp 0;have:=bp (8+(g.2.2.2.2.2.2.2.length:Int));unfold bare;cases g.1==6<;>simp only[ae,af,ak,Fu]<;>omega
theorem OT:dh 0++dh 0=gR 0:=by rfl
theorem PL (g:cC)(h:g.2.2.2.2.2.2.2.length≤1000000):md g=some (bare g):=by have:=bp g.2.1;have:=bp g.2.2.1;have:=dy g.2.2.2.1;have:=dy g.2.2.2.2.1;have:=bp g.2.2.2.2.2.2.1;have:=bp 0;have:=bp (8+(g.2.2.2.2.2.2.2.length:Int));have e:∀x,(bytesOf [80,eR x]).length=2:=λ_=>rfl;unfold md bare;rw[wrap64 (n:=8+(g.2.2.2.2.2.2.2.length:Int)) (by omega) (by omega)];simp only[pA,xN,ab];rw[aN (by omega)];cases g.1==6 with|true=>simp only[ae];rw[aN (by simp only[ak,e];omega),aN (by simp only[ak,e];omega),aN (by simp only[ak,e];omega),aN (by simp only[ak,e];omega),aN (by simp only[ak,e];omega),aN (by simp only[ak,e];omega),aN (by simp only[ak,e];omega)];rw[←OT];simp only[XT,aF]|false=>simp only[af];rw[aN (by simp only[ak];omega),aN (by simp only[ak];omega),aN (by simp only[ak];omega)]
def Ng (a b:Int)(g:cC):Int:=bif (Ks (sU a b g.1 ((bare g).length:Int)++bare g)==0)&&(g.1==17) then 65535 else Ks (sU a b g.1 ((bare g).length:Int)++bare g)
def M3 (a b:Int)(g:cC):Bytes:=AU (bare g) (bif g.1==6 then 16 else 6) (dh (Ng a b g))
def Dh (a b:Int)(g:cC):Bool:=xV g&&u3 a b g.1 ((bare g).length:Int)
def tY (a b:Int)(g:cC):Bytes×Bool:=bif Dh a b g then(M3 a b g,true) else([],false)
theorem yT {g:cC}(h:xV g=true):g.2.2.2.2.2.2.2.length≤320:=by simp only[xV,ai,aJ,cx]at h;omega
theorem wh (a b:Int)(g:cC):fL a b g=some (tY a b g):=by
 unfold fL tY Dh;rw[Na,ab];cases hg:xV g with|false=>rfl|true=>?_
 have hb:=yT hg;have hl:=Fs g;have hp:=EX a b g.1 ((bare g).length:Int);have:=bp g.2.1;have:=bp g.2.2.1;have:=dy g.2.2.2.1;have:=dy g.2.2.2.2.1;have:=bp g.2.2.2.2.2.2.1;have:=dy 0;have:=bp 0;have:=bp (8+(g.2.2.2.2.2.2.2.length:Int));have e:∀x,(bytesOf [80,eR x]).length=2:=λ_=>rfl;rw[wrap64 (n:=8+(g.2.2.2.2.2.2.2.length:Int)) (by omega) (by omega)];simp only[jV,nR,ab,au,af,bn];rw[aN (by omega)];cases h6:g.1==6 with
 |true=>
  have hbare:bare g=(((((dh g.2.1++dh g.2.2.1)++gR g.2.2.2.1)++gR g.2.2.2.2.1)++bytesOf [80,eR g.2.2.2.2.2.1])++dh g.2.2.2.2.2.2.1)++gR 0++g.2.2.2.2.2.2.2:=by unfold bare;rw[h6];rfl
  simp only[ae];rw[aN (by simp only[ak,e];omega),aN (by simp only[ak,e];omega),aN (by simp only[ak,e];omega),aN (by simp only[ak,e];omega),aN (by simp only[ak,e];omega),aN (by simp only[ak,e];omega),←hbare,xW,ab];cases u3 a b g.1 ((bare g).length:Int)with|false=>rfl|true=>?_
  simp only[ae,au,af];rw[aN (by omega),G1 _ (by simp only[ak];omega)];simp only[ab,bl,G9 _ _ _ (show(bare g).length≤1000000000 by omega),M3,Ng,h6,ae,cF];cases (Ks (sU a b g.1 ((bare g).length:Int)++bare g)==0)&&(g.1==17)<;>rfl
 |false=>
  have hbare:bare g=(((dh g.2.1++dh g.2.2.1)++dh (8+(g.2.2.2.2.2.2.2.length:Int)))++dh 0)++g.2.2.2.2.2.2.2:=by unfold bare;rw[h6];rfl
  simp only[af];rw[aN (by simp only[ak];omega),aN (by simp only[ak];omega),aN (by simp only[ak];omega),←hbare,xW,ab];cases u3 a b g.1 ((bare g).length:Int)with|false=>rfl|true=>?_
  simp only[ae,au,af];rw[aN (by omega),G1 _ (by simp only[ak];omega)];simp only[ab,bl,G9 _ _ _ (show(bare g).length≤1000000000 by omega),M3,Ng,h6,af,cF];cases (Ks (sU a b g.1 ((bare g).length:Int)++bare g)==0)&&(g.1==17)<;>rfl
theorem vT (a b:Int)(g:cC):fJ a b g=some (tY a b g):=by
 unfold fJ tY Dh;rw[MM,ab];cases hg:xV g with|false=>rfl|true=>?_
 have hb:=yT hg;have hl:=Fs g;have hp:=EX a b g.1 ((bare g).length:Int);have hsp:m7 g.1=some (bif g.1==6 then 16 else 6):=by unfold m7;rw[bl]
 have w1:=bp 65535;have w2:=bp (Ks (sU a b g.1 ((bare g).length:Int)++bare g));simp only[PL g (by omega),KS,ab,au,af,bn];cases u3 a b g.1 ((bare g).length:Int)with|false=>rfl|true=>?_
 simp only[ae,au,af];rw[aN (by omega),MK _ (by simp only[ak];omega)];simp only[ab,bl,hsp,pA,Gz _ _ _ (show(bare g).length≤1000000000 by omega) (show(dh 65535).length≤1000000000 by omega),Gz _ _ _ (show(bare g).length≤1000000000 by omega) (show(dh (Ks (sU a b g.1 ((bare g).length:Int)++bare g))).length≤1000000000 by omega),M3,Ng,cF];rw[Bool.and_comm];cases (Ks (sU a b g.1 ((bare g).length:Int)++bare g)==0)&&(g.1==17)<;>rfl
theorem S4 (a b:Int)(g:cC):(tY a b g).1.length≤340:=by unfold tY;cases h:Dh a b g with|false=>exact dv _|true=>simp only[Dh,ai]at h;have:=yT h.1;have:=Fs g;show(AU _ _ _).length≤340;rw[Jp];omega
def K0 (d:Ip):Bool:=dD d.1 0 255&&(dD d.2.2.1 0 255&&(dD d.2.2.2.1 0 255&&(dD d.2.1 0 65535&&(dD d.2.2.2.2.1 0 4294967295&&(dD d.2.2.2.2.2.1 0 4294967295&&decide ((d.2.2.2.2.2.2.length:Int)≤380))))))
theorem JG (d:Ip):wY d=some (K0 d):=by simp only[wY,cV,ab,bl,cF,K0]
theorem PT (d:Ip):zI d=some (K0 d):=JG d
def CN (d:Ip):Bytes:=((((((XT 69 (eR d.1)++dh (20+(d.2.2.2.2.2.2.length:Int)))++dh d.2.1)++dh 16384)++XT (eR d.2.2.1) (eR d.2.2.2.1))++dh 0)++gR d.2.2.2.2.1)++gR d.2.2.2.2.2.1
theorem CO (d:Ip):(CN d).length≤20:=by have:=bp (20+(d.2.2.2.2.2.2.length:Int));have:=bp d.2.1;have:=bp 16384;have:=bp 0;have:=dy d.2.2.2.2.1;have:=dy d.2.2.2.2.2.1;simp only[CN,ak,Fu];omega
def CM (d:Ip):Bytes:=AU (CN d) 10 (dh (Ks (CN d)))
theorem LF (d:Ip):qk d=some (bif K0 d then(CM d,true) else([],false)):=by
 unfold qk;rw[JG,ab];cases hd:K0 d with|false=>rfl|true=>?_
 have hn:(d.2.2.2.2.2.2.length:Int)≤380:=by simp only[K0,ai,aY]at hd;omega
 have:=bp (20+(d.2.2.2.2.2.2.length:Int));have:=bp d.2.1;have:=bp 16384;have:=bp 0;have:=dy d.2.2.2.2.1;have:=dy d.2.2.2.2.2.1;have hl:=CO d;have e:∀x y,(bytesOf [x,y]).length=2:=λ_ _=>rfl;rw[wrap64 (n:=20+(d.2.2.2.2.2.2.length:Int)) (by omega) (by omega)];simp only[jV,nR,ab,au,af,ae];rw[aN (by simp only[ak,e];omega),aN (by simp only[ak,e];omega),aN (by simp only[ak,e];omega),aN (by simp only[ak,e];omega),aN (by simp only[ak,e];omega),aN (by simp only[ak,e];omega),aN (by simp only[ak,e];omega)];have hp:((((((bytesOf [69,eR d.1]++dh (20+(d.2.2.2.2.2.2.length:Int)))++dh d.2.1)++dh 16384)++bytesOf [eR d.2.2.1,eR d.2.2.2.1])++dh 0)++gR d.2.2.2.2.1)++gR d.2.2.2.2.2.1=CN d:=rfl;rw[hp,G1 _ (by omega),ab,G9 _ _ _ (by omega)];rfl
theorem KQ (d:Ip):pV d=some (bif K0 d then(CM d,true) else([],false)):=by
 unfold pV;rw[PT,ab];cases hd:K0 d with|false=>rfl|true=>?_
 have hn:(d.2.2.2.2.2.2.length:Int)≤380:=by simp only[K0,ai,aY]at hd;omega
 have:=bp (20+(d.2.2.2.2.2.2.length:Int));have:=bp d.2.1;have:=bp 16384;have:=bp 0;have:=dy d.2.2.2.2.1;have:=dy d.2.2.2.2.2.1;have hl:=CO d;have hw:=bp (Ks (CN d));have e:∀x y,(bytesOf [x,y]).length=2:=λ_ _=>rfl;rw[wrap64 (n:=20+(d.2.2.2.2.2.2.length:Int)) (by omega) (by omega)];simp only[pA,xN,ab,au,af,ae];rw[aN (by simp only[ak,e];omega),aN (by simp only[ak,e];omega),aN (by simp only[ak,e];omega),aN (by simp only[ak,e];omega),aN (by simp only[ak,e];omega),aN (by simp only[ak,e];omega),aN (by simp only[ak,e];omega)];have hp:((((((bytesOf [69,eR d.1]++dh (20+(d.2.2.2.2.2.2.length:Int)))++dh d.2.1)++dh 16384)++bytesOf [eR d.2.2.1,eR d.2.2.2.1])++dh 0)++gR d.2.2.2.2.1)++gR d.2.2.2.2.2.1=CN d:=rfl;rw[hp,MK _ (by omega),ab,Gz _ _ _ (by omega) (by omega)];rfl
def J6 (d:Ip):Bytes×Bool:=bif K0 d then(CM d++d.2.2.2.2.2.2,true) else([],false)
theorem zK (d:Ip):(CM d).length≤20:=by unfold CM;rw[Jp];exact CO d
theorem QB (d:Ip):pb d=some (J6 d):=by
 unfold pb J6;rw[LF,ab];cases hd:K0 d with|false=>rfl|true=>?_
 have hn:(d.2.2.2.2.2.2.length:Int)≤380:=by simp only[K0,ai,aY]at hd;omega
 have:=zK d;simp only[ae,au,af];rw[aN (by omega)]
theorem PR (d:Ip):ou d=some (J6 d):=by
 unfold ou J6;rw[KQ,ab];cases hd:K0 d with|false=>rfl|true=>?_
 have hn:(d.2.2.2.2.2.2.length:Int)≤380:=by simp only[K0,ai,aY]at hd;omega
 have:=zK d;simp only[ae,au,af];rw[aN (by omega)]
def J4 (n:Nat):Bytes:=bytesOf (List.replicate n (0:Int))
theorem Al (n:Nat):(J4 n).length=n:=by simp[J4,bytesOf]
theorem QC (n:Nat)(h:n≤1000000000):rR (n:Int) 0=some (J4 n):=by unfold rR;rw[az (by omega),aN (by rw[ax];omega),ax];refine cp (λi=>(List.replicate n (0:Int),(i:Int))) n (by omega) (λi nx hi=>?_) (λnx=>?_);simp only[nI];rw[aj (by omega),aZ (by simpa using hi),wrap64 (by omega) (by omega)];simp only[ae,ab,ax,List.set_replicate_self];rfl;simp only[nI];rw[ah (by omega)];rfl
theorem SA (n:Nat)(h:n≤1000000000):tk 0 (n:Int)=some (J4 n):=by unfold tk;rw[az (by omega),aN (by rw[ax];omega),ax];refine cp (λi=>(List.replicate n (0:Int),(i:Int))) n (by omega) (λi nx hi=>?_) (λnx=>?_);simp only[oE];rw[aj (by simp;omega),aZ (by simpa using hi),wrap64 (by omega) (by omega)];simp only[ae,ab,ax,List.set_replicate_self];rfl;simp only[oE];rw[ah (by simp)];rfl
def pad (s:Bytes):Bytes:=if s.length<46 then s++J4 (46-s.length) else s
theorem MX (s:Bytes):(pad s).length=max 46 s.length:=by unfold pad;split;simp only[ak,Al];omega;omega
theorem S8 (s:Bytes)(h:s.length≤1000000000):rP s=some (pad s):=by unfold rP pad;by_cases hc:s.length<46;rw[aj (by omega),az hc,wrap64 (by omega) (by omega),show(46:Int)-(s.length:Int)=((46-s.length:Nat):Int) by omega,QC _ (by omega)];simp only[ae,ab];rw[aN (by rw[Al];omega)];rw[ah (by omega),ar hc];rfl
theorem Sy (s:Bytes)(h:s.length≤1000000000):rC s=some (pad s):=by unfold rC pad;by_cases hc:s.length<46;rw[ah (by omega),az hc,wrap64 (by omega) (by omega),show(46:Int)-(s.length:Int)=((46-s.length:Nat):Int) by omega,SA _ (by omega)];simp only[af,ab];rw[aN (by rw[Al];omega)];rw[aj (by omega),ar hc];rfl
def tQ (e:DL):Bool:=dD e.1 0 281474976710655&&(dD e.2.1 0 281474976710655&&(dD e.2.2.1 (-1) 4095&&(dD e.2.2.2.1 1536 65535&&((e.2.2.2.1 !=33024)&&dD (e.2.2.2.2.length:Int) 46 400))))
theorem Af (e:DL):pF e=some (tQ e):=by simp only[pF,cV,ab,bl,cF,tQ]
theorem EE (e:DL):sv e=some (tQ e):=Af e
def TB (a:Int):Bytes:=(fS a).getD []
theorem tI (a:Int):fS a=some (TB a)∧(TB a).length≤6:=by
 have h:∃x,fS a=some x∧x.length≤6:=by unfold fS;rw[ar (by omega)];simp only[jV,nR,ab];have h1:=bp (Int.fdiv a (2^(min (Int.toNat 32) (IntKind.bits .i64))));have h2:=dy (aw (BitVec.toNat (BitVec.ofInt (IntKind.bits .i64) a&&&BitVec.ofInt (IntKind.bits .i64) 4294967295)));rw[aN (by omega)];exact⟨_,rfl,by simp only[ak];omega⟩
 obtain⟨x,hx,hl⟩:=h;unfold TB;rw[hx];exact⟨rfl,hl⟩
theorem Sw (a:Int):p5 a=some (TB a):=(tI a).1
def Ie (e:DL):Bytes:=(bif decide (e.2.2.1≥0) then(((TB e.1++TB e.2.1)++dh 33024)++dh e.2.2.1) else TB e.1++TB e.2.1)++dh e.2.2.2.1++e.2.2.2.2
theorem PB (e:DL):(Ie e).length≤18+e.2.2.2.2.length:=by have:=(tI e.1).2;have:=(tI e.2.1).2;have:=bp 33024;have:=bp e.2.2.1;have:=bp e.2.2.2.1;unfold Ie;cases decide (e.2.2.1≥0)<;>simp only[ae,af,ak]<;>omega
def KD (e:DL):Bytes×Bool:=bif tQ e then(Ie e,true) else([],false)
theorem S6 (e:DL):qc e=some (KD e):=by
 unfold qc KD;rw[Af,ab];cases he:tQ e with|false=>rfl|true=>?_
 have hn:(e.2.2.2.2.length:Int)≤400:=by simp only[tQ,ai,de]at he;omega
 have:=(tI e.1).2;have:=(tI e.2.1).2;have:=bp 33024;have:=bp e.2.2.1;have:=bp e.2.2.2.1;simp only[(tI _).1,jV,ab,au,af,ae,Ie];rw[aN (by omega)];cases decide (e.2.2.1≥0)with|true=>simp only[ae];rw[aN (by simp only[ak];omega),aN (by simp only[ak];omega),aN (by simp only[ak];omega),aN (by simp only[ak];omega)]|false=>simp only[af];rw[aN (by simp only[ak];omega),aN (by simp only[ak];omega)]
theorem Sv (e:DL):pN e=some (KD e):=by
 unfold pN KD;rw[EE,ab];cases he:tQ e with|false=>rfl|true=>?_
 have hn:(e.2.2.2.2.length:Int)≤400:=by simp only[tQ,ai,de]at he;omega
 have:=(tI e.1).2;have:=(tI e.2.1).2;have:=bp 33024;have:=bp e.2.2.1;have:=bp e.2.2.2.1;simp only[Sw,pA,ab,au,af,ae,Ie];rw[aN (by omega)];cases decide (e.2.2.1≥0)with|true=>simp only[ae];rw[aN (by omega),aN (by simp only[ak];omega),aN (by simp only[ak];omega),aN (by simp only[ak];omega)];simp only[aF]|false=>simp only[af];rw[aN (by simp only[ak];omega),aN (by simp only[ak];omega)]
def S3 (p:aC):Bytes×Bool:=tY p.2.2.2.2.2.2.1 p.2.2.2.2.2.2.2.1 p.2.2.2.2.2.2.2.2
def R5 (p:aC):Bytes×Bool:=J6 (p.2.2.2.1,p.2.2.2.2.1,p.2.2.2.2.2.1,p.2.2.2.2.2.2.2.2.1,p.2.2.2.2.2.2.1,p.2.2.2.2.2.2.2.1,(S3 p).1)
def U4 (p:aC):Bytes×Bool:=KD (p.1,p.2.1,p.2.2.1,2048,pad (R5 p).1)
def nP (p:aC):Bytes×Bool:=bif dA p then U4 p else([],false)
theorem GB (p:aC):(R5 p).1.length≤360:=by have h1:=S4 p.2.2.2.2.2.2.1 p.2.2.2.2.2.2.2.1 p.2.2.2.2.2.2.2.2;unfold R5 J6;cases K0 (p.2.2.2.1,p.2.2.2.2.1,p.2.2.2.2.2.1,p.2.2.2.2.2.2.2.2.1,p.2.2.2.2.2.2.1,p.2.2.2.2.2.2.2.1,(S3 p).1)with|false=>exact dv _|true=>have h2:=zK (p.2.2.2.1,p.2.2.2.2.1,p.2.2.2.2.2.1,p.2.2.2.2.2.2.2.2.1,p.2.2.2.2.2.2.1,p.2.2.2.2.2.2.2.1,(S3 p).1);have h3:(S3 p).1.length≤340:=h1;simp only[ae,ak];omega
theorem E4 (p:aC):kv p=some (nP p):=by have hl:=GB p;unfold kv nP;simp only[mn,wh,QB,ab];rw[show(J6 (p.2.2.2.1,p.2.2.2.2.1,p.2.2.2.2.2.1,p.2.2.2.2.2.2.2.2.1,p.2.2.2.2.2.2.1,p.2.2.2.2.2.2.2.1,(tY p.2.2.2.2.2.2.1 p.2.2.2.2.2.2.2.1 p.2.2.2.2.2.2.2.2).1))=R5 p from rfl,S8 _ (by omega),ab,S6];cases dA p<;>rfl
theorem EG (p:aC):kk p=some (nP p):=by have hl:=GB p;unfold kk nP;simp only[lS,vT,PR,ab];rw[show(J6 (p.2.2.2.1,p.2.2.2.2.1,p.2.2.2.2.2.1,p.2.2.2.2.2.2.2.2.1,p.2.2.2.2.2.2.1,p.2.2.2.2.2.2.2.1,(tY p.2.2.2.2.2.2.1 p.2.2.2.2.2.2.2.1 p.2.2.2.2.2.2.2.2).1))=R5 p from rfl,Sy _ (by omega),ab,Sv];cases dA p<;>rfl
theorem NL {p:aC}(h:dA p=true):(nP p).2=true:=by
 have hl:=GB p;have hh:vx p=true:=by simp only[dA,ai]at h;exact h.1
 have hp:=MX (R5 p).1;unfold nP U4 KD;rw[h,ae];have:tQ (p.1,p.2.1,p.2.2.1,2048,pad (R5 p).1)=true:=by simp only[vx,ai]at hh;simp only[tQ,ai];refine⟨hh.1,hh.2.1,hh.2.2.1,by decide,by decide,de.2 ?_⟩;omega
 rw[this];rfl
theorem zC (p:aC):(nP p).1.length≤378:=by have hl:=GB p;have hp:=MX (R5 p).1;unfold nP U4 KD;cases dA p with|false=>exact dv _|true=>cases tQ (p.1,p.2.1,p.2.2.1,2048,pad (R5 p).1)with|false=>exact dv _|true=>have:=PB (p.1,p.2.1,p.2.2.1,2048,pad (R5 p).1);simp only[ae]at this⊢;omega
def fcs (c:Int):Bytes:=bytesOf [eR c,eR (Int.fdiv c (2^(min (Int.toNat 8) (IntKind.bits .i64)))),eR (Int.fdiv c (2^(min (Int.toNat 16) (IntKind.bits .i64)))),eR (Int.fdiv c (2^(min (Int.toNat 24) (IntKind.bits .i64))))]
def rZ (s:Bytes):Bytes:=s++fcs (Ph s)
theorem Sq (c:Int):(fcs c).length=4:=rfl
theorem M9 (s:Bytes)(h:s.length≤1000000000):po s=some (rZ s):=by unfold po;rw[S5 s h,ab,ar (by omega),ar (by omega),ar (by omega)];exact aN (by show s.length+4≤_;omega)
theorem ML (s:Bytes)(h:s.length≤1000000000):oB s=some (rZ s):=by unfold oB;rw[Su s h,ab,ar (by omega),ar (by omega),ar (by omega)];exact aN (by show s.length+4≤_;omega)
def dS (p:aC):Bool:=dA p&&decide ((p.2.2.2.2.2.2.2.2.2.2.2.2.2.2.2.length:Int)≤128)
theorem vd (p:aC):iu p=some (dS p):=by simp only[iu,mn,ab,bl,cF,dS]
theorem uJ (p:aC):il p=some (dS p):=by simp only[il,lS,ab,bl,cF,dS]
def oo (p:aC):Bytes×Bool:=bif dS p then(rZ (nP p).1,true) else([],false)
theorem E3 (p:aC):ku p=some (oo p):=by have hl:=zC p;simp only[ku,vd,E4,M9 _ (show(nP p).1.length≤1000000000 by omega),ab,oo];cases dS p<;>rfl
theorem EF (p:aC):kj p=some (oo p):=by
 have hl:=zC p;simp only[kj,uJ,EG,ML _ (show(nP p).1.length≤1000000000 by omega),ab,oo];cases hp:dS p with
 |false=>rfl
 |true=>
  have:dA p=true:=by simp only[dS,ai]at hp;exact hp.1
  rw[NL this];rfl
theorem wJ (p:aC):(oo p).1.length≤382:=by have hl:=zC p;unfold oo;cases dS p with|false=>exact dv _|true=>simp only[ae,rZ,ak,Sq];omega
def C6 (p:aC)(z:Int)(k:Nat):aC:=
 (p.1,p.2.1,p.2.2.1,p.2.2.2.1,Int.tmod (aw (p.2.2.2.2.1+(k:Int))) 65536,p.2.2.2.2.2.1,p.2.2.2.2.2.2.1,p.2.2.2.2.2.2.2.1,p.2.2.2.2.2.2.2.2.1,p.2.2.2.2.2.2.2.2.2.1,p.2.2.2.2.2.2.2.2.2.2.1,
   Int.tmod (aw (p.2.2.2.2.2.2.2.2.2.2.2.1+((k:Int)*z))) 4294967296,p.2.2.2.2.2.2.2.2.2.2.2.2.1,
   (bif decide (((k:Int)+1)*z<(p.2.2.2.2.2.2.2.2.2.2.2.2.2.2.2.length:Int)) then aw (BitVec.toNat (BitVec.ofInt (IntKind.bits .i64) p.2.2.2.2.2.2.2.2.2.2.2.2.2.1&&&~~~ BitVec.ofInt (IntKind.bits .i64) 9)) else p.2.2.2.2.2.2.2.2.2.2.2.2.2.1),
   p.2.2.2.2.2.2.2.2.2.2.2.2.2.2.1,(p.2.2.2.2.2.2.2.2.2.2.2.2.2.2.2.take (min ((k+1)*z.toNat) p.2.2.2.2.2.2.2.2.2.2.2.2.2.2.2.length)).drop (k*z.toNat))
def fK (n z:Nat):Nat:=(n+z-1)/z
def ua (p:aC)(z:Int):List aC:=bif dA p&&dD z 1 128 then
    (bif (p.2.2.2.2.2.2.2.2.1 !=6)||decide ((p.2.2.2.2.2.2.2.2.2.2.2.2.2.2.2.length:Int)≤z) then [p] else(List.range (fK p.2.2.2.2.2.2.2.2.2.2.2.2.2.2.2.length z.toNat)).map (C6 p z)) else []
theorem zX {n z k:Nat}(hz:0<z):k<fK n z↔k*z<n:=by unfold fK;rw[Nat.lt_div_iff_mul_lt hz];omega
theorem vj {p:aC}(h:dA p=true):p.2.2.2.2.2.2.2.2.2.2.2.2.2.2.2.length≤320:=by
 have hh:vx p=true:=by simp only[dA,ai]at h;exact h.1
 exact yT (CE hh)
theorem E7 {b:Bytes}{k z:Nat}(hk:k*z<b.length)(hb:b.length≤320):sub b ((k*z:Nat):Int) ((min ((k+1)*z) b.length:Nat):Int)=some ((b.take (min ((k+1)*z) b.length)).drop (k*z)):=by have:k*z≤(k+1)*z:=bf _ (by omega);unfold sub;rw[az (by omega),ax,ax]
theorem OJ (p:aC)(z:Int):vg p z=some (ua p z):=by
 unfold vg ua;simp only[mn,cV,ab];cases hs:dA p with|false=>rfl|true=>?_
 cases hz:dD z 1 128 with|false=>rfl|true=>?_
 have hz':=de.1 hz;have hb:=vj hs;simp only[au,af,cf,ae,ab,bl,cT];cases hq:(p.2.2.2.2.2.2.2.2.1 !=6)||decide ((p.2.2.2.2.2.2.2.2.2.2.2.2.2.2.2.length:Int)≤z)with
 |true=>simp only[ae,room,dj,bz,a9];rfl
 |false=>
  simp only[af];obtain⟨m,rfl⟩:=a4 (show 0≤z by omega);have hN:∀k,k<fK p.2.2.2.2.2.2.2.2.2.2.2.2.2.2.2.length m↔k*m<p.2.2.2.2.2.2.2.2.2.2.2.2.2.2.2.length:=λk=>zX (by omega);have hcap:fK p.2.2.2.2.2.2.2.2.2.2.2.2.2.2.2.length m≤320:=by rcases bc 320 (fK p.2.2.2.2.2.2.2.2.2.2.2.2.2.2.2.length m)with h|h;have:=(hN 320).1 h;have:320*1≤320*m:=Nat.mul_le_mul_left _ (by omega);omega;exact h
  refine cp (λk=>((List.range k).map (C6 p (m:Int)),(k:Int))) (fK p.2.2.2.2.2.2.2.2.2.2.2.2.2.2.2.length m) (by omega) (λk nx hk=>?_) (λnx=>?_);have hkm:=(hN k).1 hk;have hk1:(k+1)*m=k*m+m:=by rw[bm,cJ]
  have e1:(k:Int)*(m:Int)=((k*m:Nat):Int):=by push_cast;rfl
  have e2:((k:Int)+1)*(m:Int)=(((k+1)*m:Nat):Int):=by push_cast;rfl
  simp only[qo];rw[wrap64 (n:=(k:Int)+1) (by omega) (by omega),e1,e2,ew (n:=k*m) (by omega),ew (n:=(k+1)*m) (by omega),aj (by omega),ae];have e3:(if(((k+1)*m:Nat):Int)<(p.2.2.2.2.2.2.2.2.2.2.2.2.2.2.2.length:Int) then(((k+1)*m:Nat):Int) else(p.2.2.2.2.2.2.2.2.2.2.2.2.2.2.2.length:Int))=((min ((k+1)*m) p.2.2.2.2.2.2.2.2.2.2.2.2.2.2.2.length:Nat):Int):=by split<;>omega
  rw[e3,E7 hkm hb,ab,ar (by omega),ar (by omega)];rw[List.range_succ,List.map_append,List.map_singleton];simp only[C6,e1,e2,ax];cases decide ((((k+1)*m:Nat):Int)<(p.2.2.2.2.2.2.2.2.2.2.2.2.2.2.2.length:Int))with|true=>simp only[ae];rw[aN (by simp;omega)];rfl|false=>simp only[af];rw[aN (by simp;omega)];rfl
  have hkm:¬fK p.2.2.2.2.2.2.2.2.2.2.2.2.2.2.2.length m*m<p.2.2.2.2.2.2.2.2.2.2.2.2.2.2.2.length:=λh=>absurd ((hN _).2 h) (iM _);have hub:fK p.2.2.2.2.2.2.2.2.2.2.2.2.2.2.2.length m*m≤320*128:=Nat.mul_le_mul hcap (by omega);have e1:((fK p.2.2.2.2.2.2.2.2.2.2.2.2.2.2.2.length m:Nat):Int)*(m:Int)=((fK p.2.2.2.2.2.2.2.2.2.2.2.2.2.2.2.length m*m:Nat):Int):=by push_cast;rfl
  simp only[qo];rw[e1,ew (by omega),ah (by omega)];rfl
theorem NW (p:aC)(z:Int):uL p z=some (ua p z):=by
 unfold uL ua;simp only[lS,dK,ab];cases hs:dA p with|false=>rfl|true=>?_
 cases hz:dD z 1 128 with|false=>rfl|true=>?_
 have hz':=de.1 hz;have hb:=vj hs;simp only[au,af,cf,ae,ab,bl,cT];cases hq:(p.2.2.2.2.2.2.2.2.1 !=6)||decide ((p.2.2.2.2.2.2.2.2.2.2.2.2.2.2.2.length:Int)≤z)with
 |true=>rfl
 |false=>
  simp only[af];obtain⟨m,rfl⟩:=a4 (show 0≤z by omega);have hN:∀k,k<fK p.2.2.2.2.2.2.2.2.2.2.2.2.2.2.2.length m↔k*m<p.2.2.2.2.2.2.2.2.2.2.2.2.2.2.2.length:=λk=>zX (by omega);have hcap:fK p.2.2.2.2.2.2.2.2.2.2.2.2.2.2.2.length m≤320:=by rcases bc 320 (fK p.2.2.2.2.2.2.2.2.2.2.2.2.2.2.2.length m)with h|h;have:=(hN 320).1 h;have:320*1≤320*m:=Nat.mul_le_mul_left _ (by omega);omega;exact h
  refine cp (λk=>((List.range k).map (C6 p (m:Int)),(k:Int))) (fK p.2.2.2.2.2.2.2.2.2.2.2.2.2.2.2.length m) (by omega) (λk nx hk=>?_) (λnx=>?_);have hkm:=(hN k).1 hk;have hk1:(k+1)*m=k*m+m:=by rw[bm,cJ]
  have e1:(k:Int)*(m:Int)=((k*m:Nat):Int):=by push_cast;rfl
  have e2:((k:Int)+1)*(m:Int)=(((k+1)*m:Nat):Int):=by push_cast;rfl
  have hsub:=E7 hkm hb;simp only[pY];rw[wrap64 (n:=(k:Int)+1) (by omega) (by omega),e1,e2,ew (n:=k*m) (by omega),ew (n:=(k+1)*m) (by omega),aj (by omega),ae];rw[List.range_succ,List.map_append,List.map_singleton];simp only[C6,e1,e2,ax];by_cases hc:(((k+1)*m:Nat):Int)<(p.2.2.2.2.2.2.2.2.2.2.2.2.2.2.2.length:Int);rw[aj hc];rw[show min ((k+1)*m) p.2.2.2.2.2.2.2.2.2.2.2.2.2.2.2.length=(k+1)*m by omega]at hsub⊢;simp only[ae];rw[hsub,ab,ar (by omega),ar (by omega),aN (by simp;omega)];rfl;rw[ah hc];rw[show min ((k+1)*m) p.2.2.2.2.2.2.2.2.2.2.2.2.2.2.2.length=p.2.2.2.2.2.2.2.2.2.2.2.2.2.2.2.length by omega]at hsub⊢;simp only[af];rw[hsub,ab,ar (by omega),ar (by omega),aN (by simp;omega)];rfl;have hkm:¬fK p.2.2.2.2.2.2.2.2.2.2.2.2.2.2.2.length m*m<p.2.2.2.2.2.2.2.2.2.2.2.2.2.2.2.length:=λh=>absurd ((hN _).2 h) (iM _);have hub:fK p.2.2.2.2.2.2.2.2.2.2.2.2.2.2.2.length m*m≤320*128:=Nat.mul_le_mul hcap (by omega);have e1:((fK p.2.2.2.2.2.2.2.2.2.2.2.2.2.2.2.length m:Nat):Int)*(m:Int)=((fK p.2.2.2.2.2.2.2.2.2.2.2.2.2.2.2.length m*m:Nat):Int):=by push_cast;rfl
  simp only[pY];rw[e1,ew (by omega),ah (by omega)];rfl
theorem xZ (p:aC)(z:Int):(ua p z).length≤320:=by
 unfold ua;cases hs:dA p&&dD z 1 128 with|false=>exact dv _|true=>?_
 simp only[ai,de]at hs;have hb:=vj hs.1;cases (p.2.2.2.2.2.2.2.2.1 !=6)||decide ((p.2.2.2.2.2.2.2.2.2.2.2.2.2.2.2.length:Int)≤z)with|true=>simp only[ae,bz];omega|false=>simp only[ae,af,ch,List.length_range];rcases bc 320 (fK p.2.2.2.2.2.2.2.2.2.2.2.2.2.2.2.length z.toNat)with h|h;have:=(zX (by omega)).1 h;have:320*1≤320*z.toNat:=Nat.mul_le_mul_left _ (by omega);omega;exact h
def BA (acc:List Bytes)(p:aC):List Bytes:=bif (oo p).2 then acc++[(oo p).1] else acc
theorem BB (acc:List Bytes)(p:aC):(BA acc p).length≤acc.length+1:=by unfold BA;cases (oo p).2<;>simp
def wK (l:List aC):List Bytes:=l.foldl BA []
theorem Av:∀(l:List aC)(acc:List Bytes),(l.foldl BA acc).length≤acc.length+l.length
 |[],acc=>by simp
 |p::l,acc=>by have:=Av l (BA acc p);have:=BB acc p;simp only[cv,bE];omega
theorem xf:∀(l:List aC)(acc:List Bytes),(∀x∈acc,x.length≤382)→∀x∈l.foldl BA acc,x.length≤382
 |[],acc,h=>h
 |p::l,acc,h=>by rw[cv];refine xf l _ (λx hx=>?_);unfold BA at hx;cases hf:(oo p).2 with|false=>rw[hf]at hx;exact h x hx|true=>rw[hf]at hx;simp only[ae,aq,cP]at hx;rcases hx with hx|hx;exact h x hx;rw[hx];exact wJ p
theorem LB (l:List aC)(h:l.length≤1000000000):qh l=some (wK l):=by
 unfold qh wK;have:=pa (T:=jv (λ(y3:List Bytes) (_:Int)=>some y3) l) l (λ(s:List Bytes) i=>(s,(i:Int))) (λi s=>s.length≤i) (λp s=> .ok (BA s p)) (λs=>some s) (by omega) (λi hi s nx hI=>?hs) (λi hi s s' hI hg=>?hn) (λs nx hI=>?hf) [] (by simp)
 case hs=>
  simp only[jv]
  rw[aj (by omega),aZ hi,wrap64 (n:=(i:Int)+1) (by omega) (by omega)]
  simp only[ae,ab,E3,BA]
  rw[aN (by simp;omega)]
  cases (oo l[i]).2<;>rfl
 case hn=>cases hg;have:=BB s l[i];omega
 case hf=>
  simp only[jv]
  rw[ah (by omega)];rfl
 rw[u6]at this;exact this
theorem KN (l:List aC)(h:l.length≤1000000000):pS l=some (wK l):=by
 unfold pS wK;have:=pa (T:=iU (λ(y3:List Bytes) (_:Int)=>some y3) l (l.length:Int)) l (λ(s:List Bytes) i=>(s,(i:Int))) (λi s=>s.length≤i) (λp s=> .ok (BA s p)) (λs=>some s) (by omega) (λi hi s nx hI=>?hs) (λi hi s s' hI hg=>?hn) (λs nx hI=>?hf) [] (by simp)
 case hs=>
  simp only[iU]
  rw[aj (by omega),aZ hi,wrap64 (n:=(i:Int)+1) (by omega) (by omega)]
  simp only[ae,ab,EF,BA]
  rw[aN (by simp;omega)]
  cases (oo l[i]).2<;>rfl
 case hn=>cases hg;have:=BB s l[i];omega
 case hf=>
  simp only[iU]
  rw[ah (by omega)];rfl
 rw[u6]at this;exact this
def yV (p:aC)(z:Int):List Bytes:=wK (ua p z)
theorem QD (p:aC)(z:Int):nG p z=some (yV p z):=by have:=xZ p z;simp only[nG,OJ,LB _ (show(ua p z).length≤1000000000 by omega),ab];rfl
theorem PV (p:aC)(z:Int):nt p z=some (yV p z):=by have:=xZ p z;simp only[nt,NW,KN _ (show(ua p z).length≤1000000000 by omega),ab];rfl
theorem Ab (p:aC)(z:Int):(yV p z).length≤320∧∀x∈yV p z,x.length≤382:=by have:=xZ p z;have:=Av (ua p z) [];exact⟨by unfold yV wK;simp only[dj]at this;omega,xf _ [] (by simp)⟩
theorem yt {s:Bytes}{a:Int}(h0:0≤a)(h:a+2≤(s.length:Int)):0≤cE s a∧cE s a≤65535:=by have h1:=dk s a.toNat;have h2:=dk s (a.toNat+1);unfold cE dz;rw[aj ⟨h0,h⟩];simp only[ae];omega
theorem yu {s:Bytes}{a:Int}(h0:0≤a)(h:a+4≤(s.length:Int)):0≤iw s a∧iw s a≤4294967295:=by have h1:=dk s a.toNat;have h2:=dk s (a.toNat+1);have h3:=dk s (a.toNat+2);have h4:=dk s (a.toNat+3);unfold iw dz;rw[aj ⟨h0,h⟩];simp only[ae];omega
theorem P3 {x y:Int}(hx:0≤x∧x≤65535)(hy:0≤y∧y≤4294967295):aw (BitVec.toNat (BitVec.ofInt (IntKind.bits .i64) (aw (x*2^(min (Int.toNat 32) (IntKind.bits .i64))))|||BitVec.ofInt (IntKind.bits .i64) y))=x*4294967296+y:=by have e:(2:Int)^(min (Int.toNat 32) (IntKind.bits .i64))=4294967296:=rfl;obtain⟨x,rfl⟩:=a4 hx.1;obtain⟨y,rfl⟩:=a4 hy.1;rw[e,wrap64 (n:=(x:Int)*4294967296) (by omega) (by omega),show(x:Int)*4294967296=((2^32*x:Nat):Int) by omega,xS x 32 y (by omega) (by omega)];omega
theorem MR {x y:Int}(hx:0≤x∧x≤65535)(hy:0≤y∧y≤4294967295):aw (aw (x*2^(min (Int.toNat 32) (IntKind.bits .i64)))+y)=x*4294967296+y:=by have e:(2:Int)^(min (Int.toNat 32) (IntKind.bits .i64))=4294967296:=rfl;rw[e,wrap64 (n:=x*4294967296) (by omega) (by omega),wrap64 (by omega) (by omega)]
theorem Bt {α:Type}{l:List α}{n:Int}(h0:0≤n)(h1:n≤(l.length:Int)):sub l 0 n=some (l.take n.toNat):=by unfold sub;rw[az (by omega)];simp
theorem qs {α:Type}{l:List α}(k:Nat)(h:k≤l.length){a:Int}(ha:a=(k:Int)):sub l a (l.length:Int)=some (l.drop k):=by unfold sub;rw[az (by omega)];subst ha;simp
theorem Nf {α:Type}{l:List α}(k:Nat){a n:Int}(ha:a=(k:Int))(h0:a≤n)(h1:n≤(l.length:Int)):sub l a n=some ((l.take n.toNat).drop k):=by unfold sub;rw[az (by omega)];subst ha;simp
def ij (s:Bytes):Bytes×Bool:=bif decide ((s.length:Int)<4) then([],false) else bif rZ (s.take ((s.length:Int)-4).toNat)==s then(s.take ((s.length:Int)-4).toNat,true) else([],false)
theorem LA (s:Bytes)(h:s.length≤1000000000):qd s=some (ij s):=by unfold qd ij;rw[wrap64 (n:=(s.length:Int)-4) (by omega) (by omega)];by_cases h4:(s.length:Int)<4;rw[aj h4];rfl;rw[ah h4,Bt (by omega) (by omega)];simp only[af,ab,M9 _ (show(s.take ((s.length:Int)-4).toNat).length≤1000000000 by rw[bt];omega)];cases rZ (s.take ((s.length:Int)-4).toNat)==s<;>rfl
theorem KM (s:Bytes)(h:s.length≤1000000000):pO s=some (ij s):=by unfold pO ij;rw[wrap64 (n:=(s.length:Int)-4) (by omega) (by omega)];by_cases h4:(s.length:Int)<4;rw[aj (show(s.length:Int)-4<0 by omega),aj h4];rfl;rw[ah (show¬(s.length:Int)-4<0 by omega),ah h4,Bt (by omega) (by omega)];simp only[af,ab,ML _ (show(s.take ((s.length:Int)-4).toNat).length≤1000000000 by rw[bt];omega)];cases rZ (s.take ((s.length:Int)-4).toNat)==s<;>rfl
def PA:DL:=(0,0,0,0,([]:Bytes))
def MQ (s:Bytes)(a:Int):Int:=cE s a*4294967296+iw s (a+2)
def H6 (s:Bytes):DL:=(MQ s 0,MQ s 6,cE s 14,cE s 16,s.drop 18)
def xd (s:Bytes):DL:=(MQ s 0,MQ s 6, -1,cE s 12,s.drop 14)
def lL (s:Bytes):DL×Bool:=bif decide ((s.length:Int)<18) then(PA,false) else
 bif cE s 12==33024 then(bif tQ (H6 s) then(H6 s,true) else(PA,false)) else bif tQ (xd s) then(xd s,true) else(PA,false)
theorem G7 (s:Bytes)(h:s.length≤1000000000):ql s=some (lL s):=by unfold ql lL;by_cases h8:(s.length:Int)<18;rw[aj h8];rfl;rw[ah h8];simp only[af,uA s _ h,Ag s _ h,ab];rw[ar (by omega),ar (by omega),qs (l:=s) 14 (by omega) (show(14:Int)=((14:Nat):Int) from rfl),ab,qs (l:=s) 18 (by omega) (show(18:Int)=((18:Nat):Int) from rfl)];rw[MR (yt (s:=s) (a:=0) (by omega) (by omega)) (yu (s:=s) (a:=2) (by omega) (by omega)),MR (yt (s:=s) (a:=6) (by omega) (by omega)) (yu (s:=s) (a:=8) (by omega) (by omega))];simp only[ab,Af];rw[show((cE s 0*4294967296+iw s 2,cE s 6*4294967296+iw s 8,cE s 14,cE s 16,s.drop 18):DL)=H6 s from rfl,show((cE s 0*4294967296+iw s 2,cE s 6*4294967296+iw s 8, -1,cE s 12,s.drop 14):DL)=xd s from rfl];cases cE s 12==33024<;>cases tQ (H6 s)<;>cases tQ (xd s)<;>rfl
theorem Gx (s:Bytes)(h:s.length≤1000000000):pW s=some (lL s):=by
 unfold pW lL;by_cases h4:(s.length:Int)<14;rw[aj h4,aj (show(s.length:Int)<18 by omega)];rfl;rw[ah h4];simp only[af,zE s _ h,zF s _ h,ab];rw[ar (by omega),ar (by omega),qs (l:=s) 14 (by omega) (show(14:Int)=((14:Nat):Int) from rfl),ab];rw[P3 (yt (s:=s) (a:=0) (by omega) (by omega)) (yu (s:=s) (a:=2) (by omega) (by omega)),P3 (yt (s:=s) (a:=6) (by omega) (by omega)) (yu (s:=s) (a:=8) (by omega) (by omega))];simp only[ab,EE];rw[show((cE s 0*4294967296+iw s 2,cE s 6*4294967296+iw s 8, -1,cE s 12,s.drop 14):DL)=xd s from rfl];by_cases h8:(s.length:Int)<18;have hB:tQ (xd s)=false:=by
  unfold tQ xd;have:dD ((s.drop 14).length:Int) 46 400=false:=by rw[Bool.eq_false_iff,ne_eq,de,bN];omega
  simp only[this,eK]
 rw[aj h8,ah (show¬(s.length:Int)≥18 by omega),hB];cases cE s 12==33024<;>rfl;rw[ah h8,aj (show(s.length:Int)≥18 by omega),qs (l:=s) 18 (by omega) (show(18:Int)=((18:Nat):Int) from rfl)];simp only[ab];rw[show((cE s 0*4294967296+iw s 2,cE s 6*4294967296+iw s 8,cE s 14,cE s 16,s.drop 18):DL)=H6 s from rfl];cases cE s 12==33024<;>cases tQ (H6 s)<;>cases tQ (xd s)<;>rfl
def ip0:Ip:=(0,0,0,0,0,0,([]:Bytes))
def yE (s:Bytes):Ip:=((bT s 1:Int),cE s 4,(bT s 8:Int),(bT s 9:Int),iw s 12,iw s 16,(s.take (cE s 2).toNat).drop 20)
def rK (s:Bytes):Ip×Bool:=bif decide ((s.length:Int)<20)||(decide (cE s 2<20)||decide (cE s 2>(s.length:Int))) then(ip0,false) else
 bif (J6 (yE s)).2&&((J6 (yE s)).1==s.take (cE s 2).toNat) then(yE s,true) else(ip0,false)
theorem JI (s:Bytes)(h:s.length≤1000000000):rQ s=some (rK s):=by
 unfold rQ rK;simp only[uA s _ h,Ag s _ h,ab];by_cases h1:(s.length:Int)<20;rw[aj h1];rfl;by_cases h2:cE s 2<20;rw[ah h1,aj h2];rfl;by_cases h3:cE s 2>(s.length:Int);rw[ah h1,ah h2,aj h3];rfl;rw[ah h1,ah h2,ah h3];have b1:=jH (s[1]'(by omega));have b8:=jH (s[8]'(by omega));have b9:=jH (s[9]'(by omega));have i1:idx s 1=some (s[1]'(by omega)):=aZ (i:=1) (by omega);have i8:idx s 8=some (s[8]'(by omega)):=aZ (i:=8) (by omega);have i9:idx s 9=some (s[9]'(by omega)):=aZ (i:=9) (by omega);simp only[af,ab,cA,i1,i8,i9];rw[Nf (l:=s) 20 (show(20:Int)=((20:Nat):Int) from rfl) (by omega) (by omega),Bt (by omega) (by omega),ew (n:=(s[1]'(by omega)).toNat) (by omega),ew (n:=(s[8]'(by omega)).toNat) (by omega),ew (n:=(s[9]'(by omega)).toNat) (by omega)];have e:(((s[1]'(by omega)).toNat:Int),cE s 4,((s[8]'(by omega)).toNat:Int),((s[9]'(by omega)).toNat:Int),iw s 12,iw s 16,(s.take (cE s 2).toNat).drop 20)=yE s:=by simp only[yE,bT,bF (show 1<s.length by omega),bF (show 8<s.length by omega),bF (show 9<s.length by omega)]
 simp only[ab,e,QB];cases (J6 (yE s)).2<;>cases (J6 (yE s)).1==s.take (cE s 2).toNat<;>rfl
theorem IJ (s:Bytes)(h:s.length≤1000000000):rD s=some (rK s):=by
 unfold rD rK;simp only[zE s _ h,zF s _ h,ab];by_cases h1:(s.length:Int)<20;rw[aj h1];rfl;by_cases h2:cE s 2<20;rw[ah h1,aj h2];rfl;by_cases h3:cE s 2>(s.length:Int);rw[ah h1,ah h2,aj h3];rfl;rw[ah h1,ah h2,ah h3];have b1:=jH (s[1]'(by omega));have b8:=jH (s[8]'(by omega));have b9:=jH (s[9]'(by omega));have i1:idx s 1=some (s[1]'(by omega)):=aZ (i:=1) (by omega);have i8:idx s 8=some (s[8]'(by omega)):=aZ (i:=8) (by omega);have i9:idx s 9=some (s[9]'(by omega)):=aZ (i:=9) (by omega);simp only[af,ab,cA,i1,i8,i9];rw[Nf (l:=s) 20 (show(20:Int)=((20:Nat):Int) from rfl) (by omega) (by omega),Bt (by omega) (by omega),ew (n:=(s[1]'(by omega)).toNat) (by omega),ew (n:=(s[8]'(by omega)).toNat) (by omega),ew (n:=(s[9]'(by omega)).toNat) (by omega)];have e:(((s[1]'(by omega)).toNat:Int),cE s 4,((s[8]'(by omega)).toNat:Int),((s[9]'(by omega)).toNat:Int),iw s 12,iw s 16,(s.take (cE s 2).toNat).drop 20)=yE s:=by simp only[yE,bT,bF (show 1<s.length by omega),bF (show 8<s.length by omega),bF (show 9<s.length by omega)]
 simp only[ab,e,PR];cases (J6 (yE s)).2<;>cases (J6 (yE s)).1==s.take (cE s 2).toNat<;>rfl
def XN:cC:=(0,0,0,0,0,0,0,([]:Bytes))
def Di (k:Int)(s:Bytes):cC:=(k,cE s 0,cE s 2,iw s 4,iw s 8,(bT s 13:Int),cE s 14,s.drop 20)
def GZ (k:Int)(s:Bytes):cC:=(k,cE s 0,cE s 2,0,0,0,0,s.drop 8)
def sT (a b k:Int)(s:Bytes):cC×Bool:=
 bif (k==6)&&decide ((s.length:Int)≥20) then(bif (tY a b (Di k s)).2&&((tY a b (Di k s)).1==s) then(Di k s,true) else(XN,false)) else
 bif (k==17)&&decide ((s.length:Int)≥8) then(bif (tY a b (GZ k s)).2&&((tY a b (GZ k s)).1==s) then(GZ k s,true) else(XN,false)) else(XN,false)
theorem G8 (a b k:Int)(s:Bytes)(h:s.length≤1000000000):lb a b k s=some (sT a b k s):=by
 unfold lb sT;simp only[uA s _ h,Ag s _ h,ab];rw[show(aa (cond (k==6) (some (decide ((s.length:Int)≥20))) (some false)):(Bool→Option (cC×Bool))→Option (cC×Bool))=λK=>K ((k==6)&&decide ((s.length:Int)≥20)) from by funext K;cases k==6<;>rfl];rw[show(aa (cond (k==17) (some (decide ((s.length:Int)≥8))) (some false)):(Bool→Option (cC×Bool))→Option (cC×Bool))=λK=>K ((k==17)&&decide ((s.length:Int)≥8)) from by funext K;cases k==17<;>rfl];simp only;cases h1:(k==6)&&decide ((s.length:Int)≥20)with
 |true=>
  simp only[ai,aY]at h1;have bb:=jH (s[13]'(by omega));have i:idx s 13=some (s[13]'(by omega)):=aZ (i:=13) (by omega);have e:(k,cE s 0,cE s 2,iw s 4,iw s 8,((s[13]'(by omega)).toNat:Int),cE s 14,s.drop 20)=Di k s:=by simp only[Di,bT,bF (show 13<s.length by omega)]
  simp only[ae,i,ab];rw[qs (l:=s) 20 (by omega) (show(20:Int)=((20:Nat):Int) from rfl),ew (n:=(s[13]'(by omega)).toNat) (by omega)];simp only[ab,e,wh];cases (tY a b (Di k s)).2<;>cases (tY a b (Di k s)).1==s<;>rfl
 |false=>simp only[af];cases h2:(k==17)&&decide ((s.length:Int)≥8)with|false=>rfl|true=>simp only[ai,aY]at h2;rw[qs (l:=s) 8 (by omega) (show(8:Int)=((8:Nat):Int) from rfl)];simp only[ae,ab,show((k,cE s 0,cE s 2,0,0,0,0,s.drop 8):cC)=GZ k s from rfl,wh];cases (tY a b (GZ k s)).2<;>cases (tY a b (GZ k s)).1==s<;>rfl
theorem Gy (a b k:Int)(s:Bytes)(h:s.length≤1000000000):kW a b k s=some (sT a b k s):=by
 unfold kW sT;simp only[zE s _ h,zF s _ h,ab];rw[show(aa (cond (k==6) (some (decide ((s.length:Int)≥20))) (some false)):(Bool→Option (cC×Bool))→Option (cC×Bool))=λK=>K ((k==6)&&decide ((s.length:Int)≥20)) from by funext K;cases k==6<;>rfl];rw[show(aa (cond (k==17) (some (decide ((s.length:Int)≥8))) (some false)):(Bool→Option (cC×Bool))→Option (cC×Bool))=λK=>K ((k==17)&&decide ((s.length:Int)≥8)) from by funext K;cases k==17<;>rfl];simp only;cases h1:(k==6)&&decide ((s.length:Int)≥20)with
 |true=>
  simp only[ai,aY]at h1;have bb:=jH (s[13]'(by omega));have i:idx s 13=some (s[13]'(by omega)):=aZ (i:=13) (by omega);have e:(k,cE s 0,cE s 2,iw s 4,iw s 8,((s[13]'(by omega)).toNat:Int),cE s 14,s.drop 20)=Di k s:=by simp only[Di,bT,bF (show 13<s.length by omega)]
  simp only[ae,i,ab];rw[qs (l:=s) 20 (by omega) (show(20:Int)=((20:Nat):Int) from rfl),ew (n:=(s[13]'(by omega)).toNat) (by omega)];simp only[ab,e,vT];cases (tY a b (Di k s)).2<;>cases (tY a b (Di k s)).1==s<;>rfl
 |false=>simp only[af];cases h2:(k==17)&&decide ((s.length:Int)≥8)with|false=>rfl|true=>simp only[ai,aY]at h2;rw[qs (l:=s) 8 (by omega) (show(8:Int)=((8:Nat):Int) from rfl)];simp only[ae,ab,show((k,cE s 0,cE s 2,0,0,0,0,s.drop 8):cC)=GZ k s from rfl,vT];cases (tY a b (GZ k s)).2<;>cases (tY a b (GZ k s)).1==s<;>rfl
def Qn:aC:=(0,0,0,0,0,0,0,0,0,0,0,0,0,0,0,([]:Bytes))
def ux (s:Bytes):aC×Int:=
 let e:=lL s
 bif !e.2||(e.1.2.2.2.1 !=2048) then(Qn,2) else
 let i:=rK e.1.2.2.2.2
 bif !i.2 then(Qn,3) else
 let g:=sT i.1.2.2.2.2.1 i.1.2.2.2.2.2.1 i.1.2.2.2.1 i.1.2.2.2.2.2.2
 bif !g.2 then(Qn,4) else
 bif !dA (e.1.1,e.1.2.1,e.1.2.2.1,i.1.1,i.1.2.1,i.1.2.2.1,i.1.2.2.2.2.1,i.1.2.2.2.2.2.1,g.1) then(Qn,5) else
 ((e.1.1,e.1.2.1,e.1.2.2.1,i.1.1,i.1.2.1,i.1.2.2.1,i.1.2.2.2.2.1,i.1.2.2.2.2.2.1,g.1),0)
theorem yL (s:Bytes):(lL s).1.2.2.2.2.length≤s.length:=by
 unfold lL;cases decide ((s.length:Int)<18)with|true=>simp[PA]|false=>?_
 cases cE s 12==33024<;>cases tQ (H6 s)<;>cases tQ (xd s)<;>simp[PA,H6,xd]
theorem AD (s:Bytes):(rK s).1.2.2.2.2.2.2.length≤s.length:=by
 unfold rK;cases decide ((s.length:Int)<20)||(decide (cE s 2<20)||decide (cE s 2>(s.length:Int)))with|true=>simp[ip0]|false=>?_
 cases (J6 (yE s)).2&&((J6 (yE s)).1==s.take (cE s 2).toNat)with|false=>simp[ip0]|true=>simp[yE];omega
theorem OG (s:Bytes)(h:s.length≤1000000000):pj s=some (ux s):=by
 have h1:=yL s;unfold pj ux;rw[G7 s h,ab];generalize lL s=e at h1⊢;have h2:=AD e.1.2.2.2.2;simp only;cases e.2 with|false=>rfl|true=>?_
 cases e.1.2.2.2.1 !=2048 with|true=>rfl|false=>?_
 simp only[au,af,ab,cA,JI _ (show e.1.2.2.2.2.length≤1000000000 by omega)];generalize rK e.1.2.2.2.2=i at h2⊢;cases i.2 with|false=>rfl|true=>?_
 simp only[au,af,ab,G8 _ _ _ _ (show i.1.2.2.2.2.2.2.length≤1000000000 by omega)];generalize sT i.1.2.2.2.2.1 i.1.2.2.2.2.2.1 i.1.2.2.2.1 i.1.2.2.2.2.2.2=g;cases g.2 with|false=>rfl|true=>?_
 simp only[au,af,ab,mn];cases dA (e.1.1,e.1.2.1,e.1.2.2.1,i.1.1,i.1.2.1,i.1.2.2.1,i.1.2.2.2.2.1,i.1.2.2.2.2.2.1,g.1)<;>rfl
theorem NT (s:Bytes)(h:s.length≤1000000000):oA s=some (ux s):=by
 have h1:=yL s;unfold oA ux;rw[Gx s h,ab];generalize lL s=e at h1⊢;have h2:=AD e.1.2.2.2.2;simp only;cases e.2 with|false=>rfl|true=>?_
 cases e.1.2.2.2.1 !=2048 with|true=>rfl|false=>?_
 simp only[au,af,ab,cA,IJ _ (show e.1.2.2.2.2.length≤1000000000 by omega)];generalize rK e.1.2.2.2.2=i at h2⊢;cases i.2 with|false=>rfl|true=>?_
 simp only[au,af,ab,Gy _ _ _ _ (show i.1.2.2.2.2.2.2.length≤1000000000 by omega)];generalize sT i.1.2.2.2.2.1 i.1.2.2.2.2.2.1 i.1.2.2.2.1 i.1.2.2.2.2.2.2=g;cases g.2 with|false=>rfl|true=>?_
 simp only[au,af,ab,lS];cases dA (e.1.1,e.1.2.1,e.1.2.2.1,i.1.1,i.1.2.1,i.1.2.2.1,i.1.2.2.2.2.1,i.1.2.2.2.2.2.1,g.1)<;>rfl
def dX (s:Bytes):aC×Int:=
 let c:=ij s
 bif !c.2 then(Qn,1) else
 let r:=ux c.1
 bif r.2 !=0 then(Qn,r.2) else
 bif !dS r.1 then(Qn,5) else(r.1,0)
theorem BM (s:Bytes):(ij s).1.length≤s.length:=by
 unfold ij;cases decide ((s.length:Int)<4)with|true=>simp|false=>?_
 cases rZ (s.take ((s.length:Int)-4).toNat)==s with|false=>simp|true=>simp;omega
theorem Ai (s:Bytes)(h:s.length≤1000000000):jy s=some (dX s):=by
 have h1:=BM s;unfold jy dX;rw[LA s h,ab];generalize ij s=c at h1⊢;simp only;cases c.2 with|false=>rfl|true=>?_
 simp only[au,af,ab,OG _ (show c.1.length≤1000000000 by omega)];generalize ux c.1=r;cases r.2 !=0 with|true=>rfl|false=>?_
 simp only[af,ab,vd];cases dS r.1<;>rfl
theorem zH (s:Bytes)(h:s.length≤1000000000):iY s=some (dX s):=by
 have h1:=BM s;unfold iY dX;rw[KM s h,ab];generalize ij s=c at h1⊢;simp only;cases c.2 with|false=>rfl|true=>?_
 simp only[au,af,ab,NT _ (show c.1.length≤1000000000 by omega)];generalize ux c.1=r;cases r.2 !=0 with|true=>rfl|false=>?_
 simp only[af,ab,uJ];cases dS r.1<;>rfl
def Bi {α:Type}(a b:α):Bool:= @decide (a=b) (Classical.propDecidable _)
theorem wD {α:Type}{a b:α}:Bi a b=true↔a=b:=by unfold Bi;exact @decide_eq_true_iff _ (Classical.propDecidable _)
theorem Gj {α:Type}{a b:α}{x:Bool}(h:x=true↔a=b):x=Bi a b:=by rw[bK,wD];exact h
theorem adK {α:Type}[BEq α][LawfulBEq α](a b:α):(a==b)=Bi a b:=Gj aS
theorem Pt {α β:Type}(a b:α)(c d:β):Bi (a,c) (b,d)=(Bi a b&&Bi c d):=by rw[bK];simp only[ai,wD,Prod.mk.injEq]
theorem H7 {α β:Type}(a b:α×β):Bi a b=(Bi a.1 b.1&&Bi a.2 b.2):=Pt a.1 b.1 a.2 b.2
theorem Pv {α:Type}{a b:α}(h:a=b):Bi a b=true:=wD.2 h
theorem NB {α:Type}{a b:α}(h:¬a=b):Bi a b=false:=by rw[Bool.eq_false_iff,ne_eq,wD];exact h
theorem Pz {α R:Type}{T:(Int→Option R)→Int→Option R}{fin hit:Option R}(p:α→α→Bool)(hp:∀x y,p x y=true↔x=y)(a b:List α)(hl:a.length=b.length)(h:a.length≤1000000000)(hs:∀i (hi:i<a.length) nx,T nx (i:Int)=cond (!(p a[i] (b[i]'(hl▸hi)))) hit (nx ((i+1:Nat):Int)))(hf:∀nx,T nx (a.length:Int)=fin): aV T fuel 0=cond (Bi a b) fin hit:=by
 have hq:∀i,i<a.length→i<b.length:=λi hi=>hl▸hi;rw[fH (fin:=fin) (hit:=hit) (λi=>Bi a[i]? b[i]?) a.length (by omega) ?hs hf]
 case hs=>
  intro i nx hi
  rw[hs i hi,List.getElem?_eq_getElem hi,List.getElem?_eq_getElem (hq i hi)]
  have:p a[i] (b[i]'(hq i hi))=Bi (some a[i]) (some (b[i]'(hq i hi))):=Gj (by rw[hp,aU])
  rw[this]
 congr 1;apply Gj;rw[a7];constructor;intro k;apply List.ext_getElem?;intro i;by_cases hi:i<a.length;exact wD.1 (k i (c6.2 hi));rw[List.getElem?_eq_none (by omega),List.getElem?_eq_none (by omega)];rintro rfl i _;exact Pv rfl
theorem Sp {α:Type}{T:(Int→Option Bool)→Int→Option Bool}(p:α→α→Bool)(hp:∀x y,p x y=true↔x=y)(a b:List α)(h:a.length≤1000000000)(hs:a.length=b.length→∀i (hi:i<a.length)(hi':i<b.length) nx,T nx (i:Int)=cond (!(p a[i] b[i])) (some false) (nx ((i+1:Nat):Int)))(hf:∀nx,T nx (a.length:Int)=some true): cond ((a.length:Int) !=(b.length:Int)) (some false) (aV T fuel 0)=some (Bi a b):=by by_cases hl:a.length=b.length;rw[Pz p hp a b hl h (λi hi nx=>hs hl i hi (hl▸hi) nx) hf];rw[show((a.length:Int) !=(b.length:Int))=false by simp[hl]];cases Bi a b<;>rfl;rw[NB (λe=>hl (by rw[e]))];rw[show((a.length:Int) !=(b.length:Int))=true by simp;omega];rfl
theorem PQ (a b:List Int)(h:a.length≤1000000000):mm a b=some (Bi a b):=by unfold mm;refine Sp (λx y=>x==y) (λx y=>aS) a b h (λhl i hi hi' nx=>?_) (λnx=>?_);simp only[iG];rw[aj (by omega),aZ hi,aZ hi',wrap64 (by omega) (by omega)];rfl;simp only[iG];rw[ah (by omega)];rfl
theorem yy (a b:Filter)(h:a.2.2.length≤1000000000):nw a b=some (Bi a b):=by simp only[nw,PQ _ _ h,ab,bl,cF,H7 a b,H7 a.2 b.2,adK]
theorem qT (l:List Bytes)(h:l.length≤1000000000):gv l=some l:=by simp only[gv,ga h,a9]
theorem iR (f:Filter)(h:f.2.2.length≤1000000000):c9 f=some f:=by simp only[c9,Ap _ h,ab]
theorem jr (f:Filter)(h:f.2.2.length≤1000000000):dQ f=some f:=by simp only[dQ,ga h,a9]
theorem vy (l:List Stream)(h:l.length≤1000000000):iZ l=some l:=by simp only[iZ,ga h,a9]
theorem DT (t:List Slot)(h:t.length≤1000000000):oC t=some t:=by simp only[oC,ga h,a9]
theorem CH (s:eQ)(h:s.2.length≤1000000000):nv s=some s:=by simp only[nv,Ap _ h,ab]
theorem DS (s:dm)(h1:s.1.length≤1000000000)(h2:s.2.1.length≤1000000000)(h3:s.2.2.2.length≤1000000000):k7 s=some s:=by simp only[k7,ga h1,DT _ h2,CH _ h3,ab,a9]
theorem D7 (t:List Slot)(h:t.length≤1000000000):rU t=some t:=by simp only[rU,ga h,a9]
theorem D6 (s:dm)(h1:s.1.length≤1000000000)(h2:s.2.1.length≤1000000000)(h3:s.2.2.2.length≤1000000000):rV s=some s:=by simp only[rV,ga h1,D7 _ h2,ga h3,ab,a9]
theorem yx (s:dR)(z:bG 1000000000 cz s):mZ s=some s:=by simp only[mZ,iR _ z.1.2.2.1,DS _ z.2.1.1.1 z.2.1.2.1.1 z.2.1.2.2.2.1,vy _ z.2.2.2.1.1,qT _ z.2.2.2.2.1,ab]
def adB:dR:=((0,false,([]:List Int)),(([]:List dF),([]:List Slot),([]:Bytes),([]:List Int)),0,([]:List Stream),([]:List Bytes))
noncomputable def wg (s:dR):Bool:=c8 s.1&&n0 s.2.1 s.2.2.1
theorem JK (s:dR)(h0:s.1.2.2.length≤1000000000)(h1:s.2.1.1.length≤1000000000)(h2:s.2.1.2.1.length≤1000000000)(h3:s.2.1.2.2.2.length≤1000000000):qK s=some (wg s):=by unfold qK wg;simp only[lN _ h0,yZ _ _ h1 h2 h3,ab,bl];cases c8 s.1<;>rfl
theorem IM (s:dR)(h0:s.1.2.2.length≤1000000000)(h1:s.2.1.1.length≤1000000000)(h2:s.2.1.2.1.length≤1000000000)(h3:s.2.1.2.2.2.length≤1000000000):qw s=some (wg s):=by unfold qw wg;simp only[lu _ h0,yz _ _ h1 h2 h3,ab,bl];cases c8 s.1<;>rfl
def R3 (f:Int×Int×Int×Int×Int)(s:Stream):Bool:=decide (s.1=f)
def Bb (l:List Stream)(f:Int×Int×Int×Int×Int):Int:=match l.findIdx? (R3 f)with|some i=>(i:Int)|none=> -1
theorem QE (l:List Stream)(f:Int×Int×Int×Int×Int)(h:l.length≤1000000000):mF l f=some (Bb l f):=by
 unfold mF Bb;rw[wG (p:=R3 f) (hit:=λi=>some i) (fin:=some (-1)) l (by omega) (λi hi nx=>?hs) (λnx=>?hf)]
 case hs=>
  simp only[iI]
  rw[aj (by omega),aZ hi,wrap64 (by omega) (by omega)]
  simp only[ae,ab,yr,R3];rfl
 case hf=>
  simp only[iI]
  rw[ah (by omega)];rfl
 cases l.findIdx? (R3 f)<;>rfl
theorem PW (l:List Stream)(f:Int×Int×Int×Int×Int)(h:l.length≤1000000000):l9 l f=some (Bb l f):=by
 unfold l9 Bb;rw[wG (p:=R3 f) (hit:=λi=>some i) (fin:=some (-1)) l (by omega) (λi hi nx=>?hs) (λnx=>?hf)]
 case hs=>
  simp only[iD]
  rw[aj (by omega),aZ hi,wrap64 (by omega) (by omega)]
  simp only[ae,ab,yr,R3];rfl
 case hf=>
  simp only[iD]
  rw[ah (by omega)];rfl
 cases l.findIdx? (R3 f)<;>rfl
def LN:Stream:=((0,0,0,0,0),0,([]:Bytes),false)
def body (p:aC):Bytes:=p.2.2.2.2.2.2.2.2.2.2.2.2.2.2.2
def udp (p:aC):Bytes:=dh ((body p).length:Int)++body p
def qP (p:aC)(b:Int):Bool:=aw (BitVec.toNat (BitVec.ofInt (IntKind.bits .i64) p.2.2.2.2.2.2.2.2.2.2.2.2.2.1&&&BitVec.ofInt (IntKind.bits .i64) b)) !=0
def lj (s:Stream)(p:aC):Int:=(s.2.1-p.2.2.2.2.2.2.2.2.2.2.2.1)%4294967296
def Tk (s:Stream)(p:aC):Stream:=(s.1,(s.2.1+((body p).length:Int)-lj s p)%4294967296,s.2.2.1++(body p).drop (lj s p).toNat,qP p 1)
def og (l:List Stream)(p:aC):List Stream:=
 bif !dA p then l else
 match l.findIdx? (R3 (kO p))with
 |none=>
  bif p.2.2.2.2.2.2.2.2.1==17 then l++[(kO p,0,udp p,false)] else
  bif qP p 2 then l++[(kO p,Int.tmod (aw (p.2.2.2.2.2.2.2.2.2.2.2.1+1)) 4294967296,([]:Bytes),false)] else l
 |some i=>
  bif p.2.2.2.2.2.2.2.2.1==17 then l.set i ((l.getD i LN).1,(l.getD i LN).2.1,(l.getD i LN).2.2.1++udp p,(l.getD i LN).2.2.2) else
  bif qP p 2 then l else
  bif (l.getD i LN).2.2.2||qP p 4 then l else
  bif decide (lj (l.getD i LN) p≤((body p).length:Int)) then l.set i (Tk (l.getD i LN) p) else l
theorem Hq (s:Stream)(p:aC):0≤lj s p∧lj s p<4294967296:=by unfold lj;omega
theorem Xm (x:Int):aw (BitVec.toNat (BitVec.ofInt (IntKind.bits .i64) x&&&BitVec.ofInt (IntKind.bits .i64) 4294967295))=x%4294967296:=by have:=O9 x 32 (by omega);rw[show((2:Int)^32-1)=4294967295 from rfl,show((2:Int)^32)=4294967296 from rfl]at this;rw[this,wrap64 (by omega) (by omega)]
theorem R2 (x:Int):aw x%4294967296=x%4294967296:=by have:=OV x 32 (by omega);rwa[show((2:Int)^32)=4294967296 from rfl]at this
theorem yW {α:Type}(l:List α)(x y:α):(l++[x]).set l.length y=l++[y]:=by rw[List.set_append_right _ _ (a5 _),dr,List.set_cons_zero]
theorem MI {α:Type}{l:List α}{i:Nat}(h:i<l.length)(x:α):idx (l.set i x) (i:Int)=some x:=by rw[wL,List.getElem?_set_self h]
theorem rp {α:Type}(l:List α)(x:α):idx (l++[x]) (l.length:Int)=some x:=by rw[wL,List.getElem?_append_right (a5 _),dr];rfl
theorem BH {p:aC}(h:dA p=true):(body p).length≤320:=vj h
theorem Gt (l:List Stream)(p:aC)(h:bG 900000000 (.sl bC) l):ov l p=some (og l p):=by
 have hl:l.length≤900000000:=h.1;unfold ov og;simp only[vy l (by omega),lS,ab,IH,PW l _ (show l.length≤1000000000 by omega),pA];cases hs:dA p with|false=>rfl|true=>?_
 have hb:=BH hs;have hw:=bp ((body p).length:Int);simp only[au,af];rw[show p.2.2.2.2.2.2.2.2.2.2.2.2.2.2.2=body p from rfl];cases hf:l.findIdx? (R3 (kO p))with
 |none=>
  have e1:Bb l (kO p)= -1:=by rw[Bb,hf]
  simp only[e1,show decide ((-1:Int)<0)=true from rfl,ae];cases p.2.2.2.2.2.2.2.2.1==17 with|true=>simp only[ae];rw[aN (by simp;omega),rp,ab];simp only;rw[aN (by omega),aN (by simp only[ak,dj];omega),ab,ax];simp only[ab,rp,yW,a9];rfl|false=>simp only[af];rw[show(aw (BitVec.toNat (BitVec.ofInt (IntKind.bits .i64) p.2.2.2.2.2.2.2.2.2.2.2.2.2.1&&&BitVec.ofInt (IntKind.bits .i64) 2)) !=0)=qP p 2 from rfl];cases qP p 2 with|true=>simp only[ae];rw[ar (by omega),aN (by simp;omega)]|false=>rfl
 |some i=>
  obtain⟨hi,_⟩:=List.findIdx?_eq_some_iff_getElem.1 hf;have hd:(l[i].2.2.1).length≤900000000:=(h.2 _ (aD hi)).2.2.1;have e1:Bb l (kO p)=(i:Int):=by rw[Bb,hf]
  simp only[e1,ah (show¬(i:Int)<0 by omega),af,aZ hi,ab,bF hi,ax];cases p.2.2.2.2.2.2.2.2.1==17 with
  |true=>simp only[ae];rw[aN (by omega),aN (by simp only[ak];omega)];rfl
  |false=>
   simp only[af];rw[show(aw (BitVec.toNat (BitVec.ofInt (IntKind.bits .i64) p.2.2.2.2.2.2.2.2.2.2.2.2.2.1&&&BitVec.ofInt (IntKind.bits .i64) 2)) !=0)=qP p 2 from rfl,show(aw (BitVec.toNat (BitVec.ofInt (IntKind.bits .i64) p.2.2.2.2.2.2.2.2.2.2.2.2.2.1&&&BitVec.ofInt (IntKind.bits .i64) 4)) !=0)=qP p 4 from rfl,show(aw (BitVec.toNat (BitVec.ofInt (IntKind.bits .i64) p.2.2.2.2.2.2.2.2.2.2.2.2.2.1&&&BitVec.ofInt (IntKind.bits .i64) 1)) !=0)=qP p 1 from rfl];cases qP p 2 with|true=>rfl|false=>?_
   simp only[af];rw[show(aa (cond l[i].2.2.2 (some true) (some (qP p 4))):(Bool→Option (List Stream))→Option (List Stream))=λK=>K (l[i].2.2.2||qP p 4) from by funext K;cases l[i].2.2.2<;>rfl];simp only;cases l[i].2.2.2||qP p 4 with|true=>rfl|false=>?_
   simp only[af,N9 _ 4294967296 (by omega) (by omega),ab,R2];rw[show(l[i].2.1-p.2.2.2.2.2.2.2.2.2.2.2.1)%4294967296=lj l[i] p from rfl];have ha:=Hq l[i] p;by_cases hq:lj l[i] p≤((body p).length:Int);rw[aj hq,qs (l:=body p) (lj l[i] p).toNat (by omega) (by omega)];simp only[ae,ab];rw[aN (by rw[bN];omega)];simp only[MI hi,ab,c7];refine congrArg some (congrArg (l.set i) ?_);simp only[Tk];rw[show(aw (l[i].2.1+((body p).length:Int))-lj l[i] p)%4294967296=(l[i].2.1+((body p).length:Int)-lj l[i] p)%4294967296 from by rw[Int.sub_emod,R2,←Int.sub_emod]];rw[ah hq];rfl
theorem G2 (l:List Stream)(p:aC)(h:bG 900000000 (.sl bC) l):pc l p=some (og l p):=by
 have hl:l.length≤900000000:=h.1;unfold pc og;rw[ga (by omega)];simp only[a9,mn,ab,JF,QE l _ (show l.length≤1000000000 by omega),jV];cases hs:dA p with|false=>rfl|true=>?_
 have hb:=BH hs;have hw:=bp ((body p).length:Int);simp only[au,af];rw[show p.2.2.2.2.2.2.2.2.2.2.2.2.2.2.2=body p from rfl];cases hf:l.findIdx? (R3 (kO p))with
 |none=>
  have e1:Bb l (kO p)= -1:=by rw[Bb,hf]
  simp only[e1,show decide ((-1:Int)<0)=true from rfl,ae];cases p.2.2.2.2.2.2.2.2.1==17 with|true=>simp only[ae];rw[aN (by simp;omega),rp,ab];simp only;rw[aN (by simp only[dj];omega),aN (by simp only[ak,dj];omega),ab,ax];simp only[ab,rp,yW,a9];rfl|false=>simp only[af];rw[show(aw (BitVec.toNat (BitVec.ofInt (IntKind.bits .i64) p.2.2.2.2.2.2.2.2.2.2.2.2.2.1&&&BitVec.ofInt (IntKind.bits .i64) 2)) !=0)=qP p 2 from rfl];cases qP p 2 with|true=>simp only[ae];rw[ar (by omega),aN (by simp;omega)]|false=>rfl
 |some i=>
  obtain⟨hi,_⟩:=List.findIdx?_eq_some_iff_getElem.1 hf;have hd:(l[i].2.2.1).length≤900000000:=(h.2 _ (aD hi)).2.2.1;have e1:Bb l (kO p)=(i:Int):=by rw[Bb,hf]
  simp only[e1,ah (show¬(i:Int)<0 by omega),af,aZ hi,ab,bF hi,ax];cases p.2.2.2.2.2.2.2.2.1==17 with
  |true=>simp only[ae];rw[aN (by omega),aN (by simp only[ak];omega),aF];rfl
  |false=>
   simp only[af];rw[show(aw (BitVec.toNat (BitVec.ofInt (IntKind.bits .i64) p.2.2.2.2.2.2.2.2.2.2.2.2.2.1&&&BitVec.ofInt (IntKind.bits .i64) 2)) !=0)=qP p 2 from rfl,show(aw (BitVec.toNat (BitVec.ofInt (IntKind.bits .i64) p.2.2.2.2.2.2.2.2.2.2.2.2.2.1&&&BitVec.ofInt (IntKind.bits .i64) 4)) !=0)=qP p 4 from rfl,show(aw (BitVec.toNat (BitVec.ofInt (IntKind.bits .i64) p.2.2.2.2.2.2.2.2.2.2.2.2.2.1&&&BitVec.ofInt (IntKind.bits .i64) 1)) !=0)=qP p 1 from rfl];cases qP p 2 with|true=>rfl|false=>?_
   simp only[af];rw[show(aa (cond l[i].2.2.2 (some true) (some (qP p 4))):(Bool→Option (List Stream))→Option (List Stream))=λK=>K (l[i].2.2.2||qP p 4) from by funext K;cases l[i].2.2.2<;>rfl];simp only;cases l[i].2.2.2||qP p 4 with|true=>rfl|false=>?_
   simp only[af,Xm,ab,R2];rw[show(l[i].2.1-p.2.2.2.2.2.2.2.2.2.2.2.1)%4294967296=lj l[i] p from rfl];have ha:=Hq l[i] p;by_cases hq:lj l[i] p≤((body p).length:Int);rw[aj hq,qs (l:=body p) (lj l[i] p).toNat (by omega) (by omega)];simp only[ae,ab];rw[aN (by rw[bN];omega)];simp only[MI hi,ab,c7,ar (show¬(4294967296:Nat)=0 by omega)];refine congrArg some (congrArg (l.set i) ?_);simp only[Tk];have e:Int.tmod (aw (aw (l[i].2.1%4294967296+((body p).length:Int))-lj l[i] p)) 4294967296=(l[i].2.1+((body p).length:Int)-lj l[i] p)%4294967296:=by rw[wrap64 (n:=l[i].2.1%4294967296+((body p).length:Int)) (by omega) (by omega),wrap64 (by omega) (by omega),Int.tmod_eq_emod_of_nonneg (by omega)];omega
   rw[e];rw[ah hq];rfl
theorem IE (l:List Stream)(p:aC)(h:bG 100000000 (.sl bC) l):ov l p=some (og l p):=Gt l p (h.mono (by omega))
theorem JC (l:List Stream)(p:aC)(h:bG 100000000 (.sl bC) l):pc l p=some (og l p):=G2 l p (h.mono (by omega))
theorem Gd {l:List Stream}{p:aC}{n:Nat}(h:bG n (.sl bC) l):bG (n+322) (.sl bC) (og l p):=by
 have h':bG (n+322) (.sl bC) l:=h.mono (by omega);unfold og;cases hs:dA p with|false=>exact h'|true=>?_
 have hb:=BH hs;have hw:=bp ((body p).length:Int);have hu:(udp p).length≤322:=by simp only[udp,ak];omega
 simp only[au,af];have app:∀x:Stream,x.2.2.1.length≤n+322→bG (n+322) (.sl bC) (l++[x]):=by intro x hx;refine⟨?_,λy hy=>?_⟩;have:l.length≤n:=h.1;simp only[ak,bz];omega;rcases aq.1 hy with g|g;exact h'.2 y g;rw[cP.1 g];exact⟨⟨trivial,trivial,trivial,trivial,trivial⟩,trivial,hx,trivial⟩
 have put:∀(i:Nat)(x:Stream),x.2.2.1.length≤n+322→bG (n+322) (.sl bC) (l.set i x):=by intro i x hx;refine⟨?_,λy hy=>?_⟩;show(l.set i x).length≤_;rw[aO];exact h'.1;rcases List.mem_or_eq_of_mem_set hy with g|rfl;exact h'.2 y g;exact⟨⟨trivial,trivial,trivial,trivial,trivial⟩,trivial,hx,trivial⟩
 split;cases p.2.2.2.2.2.2.2.2.1==17 with|true=>exact app _ (show(udp p).length≤_ by omega)|false=>cases qP p 2 with|true=>exact app _ (dv _)|false=>exact h'
 rename_i i hf;obtain⟨hi,_⟩:=List.findIdx?_eq_some_iff_getElem.1 hf;have hd:(l[i].2.2.1).length≤n:=(h.2 _ (aD hi)).2.2.1;simp only[bF hi];cases p.2.2.2.2.2.2.2.2.1==17 with
 |true=>exact put _ _ (by simp only[ak];omega)
 |false=>
  cases qP p 2 with|true=>exact h'|false=>?_
  cases l[i].2.2.2||qP p 4 with|true=>exact h'|false=>?_
  cases decide (lj l[i] p≤((body p).length:Int))with|false=>exact h'|true=>exact put _ _ (by simp only[Tk,ak,bN];omega)
theorem yY (s:dR)(z:bG 1000000000 cz s):pw s=some s:=by simp only[pw,jr _ z.1.2.2.1,D6 _ z.2.1.1.1 z.2.1.2.1.1 z.2.1.2.2.2.1,ga z.2.2.2.1.1,ga z.2.2.2.2.1,ab,a9]
def Hk (s:dR)(x:Bytes):Bool:=wg s&&(((dX x).2==0)&&(sj s.1 (dX x).1&&(ya s.2.1 s.2.2.1 (dX x).1 != -1)))
def sV (s:dR)(x:Bytes):dR:=bif Hk s x then(s.1,s.2.1,s.2.2.1,og s.2.2.2.1 (dX x).1,s.2.2.2.2) else s
theorem IK (s:dR)(x:Bytes)(z:bG 100000000 cz s)(h:x.length≤1000000000):l0 s x=some (sV s x):=by have z9:bG 1000000000 cz s:=z.mono (by omega);unfold l0 sV Hk;simp only[yx s z9,zH x h,IM s z9.1.2.2.1 z9.2.1.1.1 z9.2.1.2.1.1 z9.2.1.2.2.2.1,IA s.1 _ z9.1.2.2.1,NX s.2.1 _ _ z9.2.1.1.1 z9.2.1.2.1.1 z9.2.1.2.2.2.1,IE s.2.2.2.1 _ z.2.2.2.1,ab];cases wg s<;>cases (dX x).2==0<;>cases sj s.1 (dX x).1<;>cases ya s.2.1 s.2.2.1 (dX x).1 != -1<;>rfl
theorem JJ (s:dR)(x:Bytes)(z:bG 100000000 cz s)(h:x.length≤1000000000):mA s x=some (sV s x):=by have z9:bG 1000000000 cz s:=z.mono (by omega);unfold mA sV Hk;simp only[yY s z9,Ai x h,JK s z9.1.2.2.1 z9.2.1.1.1 z9.2.1.2.1.1 z9.2.1.2.2.2.1,Jz s.1 _ z9.1.2.2.1,OK s.2.1 _ _ z9.2.1.1.1 z9.2.1.2.1.1 z9.2.1.2.2.2.1,JC s.2.2.2.1 _ z.2.2.2.1,ab];cases wg s<;>cases (dX x).2==0<;>cases sj s.1 (dX x).1<;>cases ya s.2.1 s.2.2.1 (dX x).1 != -1<;>rfl
theorem GS {s:dR}{x:Bytes}{n:Nat}(z:bG n cz s):bG (n+322) cz (sV s x):=by have z':bG (n+322) cz s:=z.mono (by omega);unfold sV;cases Hk s x with|false=>exact z'|true=>exact⟨z'.1,z'.2.1,trivial,Gd z.2.2.2.1,z'.2.2.2.2⟩
def Sr:al:=(0,0,(0,0,0),false,0,0)
def np (b:Int×Int×Int):Bool:=dD b.1 0 10000&&(dD b.2.1 0 100000&&dD b.2.2 0 b.2.1)
def Cz (n:Int)(f:al):Bool:=dD f.1 0 7&&(dD f.2.1 1 (aw (n-1))&&(np f.2.2.1&&(dD f.2.2.2.2.1 0 1000000000000&&dD f.2.2.2.2.2 0 1000000000000)))
def PF (f g:al):Bool:=(g.1==f.1)||(g.2.1==f.2.1)
def U5 (l:List al)(n:Int)(i:Nat):Bool:=Cz n (l.getD i Sr)&&(List.range i).all (λj=> !(PF (l.getD i Sr) (l.getD j Sr)))
def eN (l:List al)(ps:List Port):Bool:=eE ps&&(List.range l.length).all (U5 l (ps.length:Int))
theorem u9 (b:Int×Int×Int):kK b=some (np b):=by simp only[kK,cV,ab,bl,cF,np]
theorem xL (b:Int×Int×Int):mU b=some (np b):=u9 b
theorem xq (l:List al)(ps:List Port)(h:l.length≤1000000000)(h1:ps.length≤1000000000)(h2:∀p∈ps,p.2.1.length≤1000000000):jw l ps=some (eN l ps):=by
 unfold jw eN;rw[fH (hit:=some false) (fin:=some true) (U5 l (ps.length:Int)) l.length (by omega) (λi nx hi=>?hs) (λnx=>?hf)]
 case hs=>
  simp only[iH]
  rw[aj (by omega),aZ hi,wrap64 (n:=(i:Int)+1) (by omega) (by omega)]
  simp only[ae,ab,cV,u9,bl,cT]
  rw[fH (hit:=some false) (fin:=nx ((i:Int)+1)) (λj=> !(PF l[i] (l.getD j Sr))) i (by omega) (λj nx' hj=>?hs2) (λnx'=>?hf2)]
  case hs2=>
   have hjl:j<l.length:=by omega
   simp only[hY]
   rw[aj (by omega),aZ hjl,wrap64 (n:=(j:Int)+1) (by omega) (by omega)]
   simp only[ae,ab,bl,cT,bF hjl,dY];rfl
  case hf2=>
   simp only[hY]
   rw[ah (by omega)];rfl
  simp only[U5,bF hi]
  rw[show(!dD l[i].1 0 7||(!dD l[i].2.1 1 (aw ((ps.length:Int)-1))||(!np l[i].2.2.1||(!dD l[i].2.2.2.2.1 0 1000000000000|| !dD l[i].2.2.2.2.2 0 1000000000000))))= !Cz (ps.length:Int) l[i] by unfold Cz;simp only[Bool.not_and]]
  cases Cz (ps.length:Int) l[i]<;>cases (List.range i).all (λj=> !(PF l[i] (l.getD j Sr)))<;>rfl
 case hf=>
  simp only[iH]
  rw[ah (by omega)];rfl
 simp only[wW ps h1 h2,ab];cases eE ps<;>cases (List.range l.length).all (U5 l (ps.length:Int))<;>rfl
theorem xj (l:List al)(ps:List Port)(h:l.length≤1000000000)(h1:ps.length≤1000000000)(h2:∀p∈ps,p.2.1.length≤1000000000):iV l ps=some (eN l ps):=by
 unfold iV eN;rw[fH (hit:=some false) (fin:=some true) (U5 l (ps.length:Int)) l.length (by omega) (λi nx hi=>?hs) (λnx=>?hf)]
 case hs=>
  simp only[iA]
  rw[aj (by omega),aZ hi,wrap64 (n:=(i:Int)+1) (by omega) (by omega),Du l i (by omega)]
  simp only[ae,ab,dK,xL,bl,cT]
  have hti:(l.take i).length=i:=by simp;omega
  rw[hti,fH (hit:=some false) (fin:=nx ((i:Int)+1)) (λj=> !(PF l[i] (l.getD j Sr))) i (by omega) (λj nx' hj=>?hs2) (λnx'=>?hf2)]
  case hs2=>
   have hjl:j<l.length:=by omega
   have hjt:j<(l.take i).length:=by omega
   simp only[iB]
   rw[aj (by omega),aZ hjt,wrap64 (n:=(j:Int)+1) (by omega) (by omega),List.getElem_take]
   simp only[ae,ab,bl,cT,bF hjl,dY];rfl
  case hf2=>
   simp only[iB]
   rw[ah (by omega)];rfl
  simp only[U5,bF hi]
  rw[show(!dD l[i].1 0 7||(!dD l[i].2.1 1 (aw ((ps.length:Int)-1))||(!np l[i].2.2.1||(!dD l[i].2.2.2.2.1 0 1000000000000|| !dD l[i].2.2.2.2.2 0 1000000000000))))= !Cz (ps.length:Int) l[i] by unfold Cz;simp only[Bool.not_and]]
  cases Cz (ps.length:Int) l[i]<;>cases (List.range i).all (λj=> !(PF l[i] (l.getD j Sr)))<;>rfl
 case hf=>
  simp only[iA]
  rw[ah (by omega)];rfl
 simp only[wM ps h1 h2,ab];cases eE ps<;>cases (List.range l.length).all (U5 l (ps.length:Int))<;>rfl
def tW (l:List al)(i:Nat):Bool:=((l.getD i Sr).1==(i:Int))&&((l.getD i Sr).2.1==(i:Int)+1)
theorem KR (l:List al)(h:l.length≤1000000000):oD l=some ((List.range l.length).all (tW l)):=by
 unfold oD;rw[fH (hit:=some false) (fin:=some true) (tW l) l.length (by omega) (λi nx hi=>?hs) (λnx=>?hf)]
 case hs=>
  simp only[k8]
  rw[aj (by omega),aZ hi,wrap64 (n:=(i:Int)+1) (by omega) (by omega)]
  simp only[ae,ab,bl,cT,bne,tW,bF hi]
  cases l[i].1==(i:Int)<;>cases l[i].2.1==(i:Int)+1<;>rfl
 case hf=>
  simp only[k8]
  rw[ah (by omega)];rfl
 cases (List.range l.length).all (tW l)<;>rfl
theorem G4 (a b:Filter)(h:a.2.2.length≤1000000000):nS a b=some (Bi a b):=yy a b h
theorem CB:∀(ms:List aR)(i:Nat)(s:List Int×List Port),Hp i s→ms.all jE=true→Hp (i+ms.length) (ms.foldl xt s)
 |[],i,s,h,_=>h
 |m::ms,i,s,h,hm=>by rw[bg,ai]at hm;have hu:=uC m.1.2.2 s.1;have hl:=ur hm.1;have:=CB ms (i+1) (xt s m) (h.port hm.1 _ (by omega)) hm.2;rw[cv,bE,show i+(ms.length+1)=i+1+ms.length by omega];exact this
theorem wU (ms:List aR):(dx ms).1.length≤1000000000∧∀p∈(dx ms).1,p.2.1.length≤1000000000:=by unfold dx;cases hc:dD (ms.length:Int) 1 3&&(ms.all jE&&eE (tD ms))with|false=>exact⟨by simp,by simp⟩|true=>simp only[ai,de]at hc;have:=CB ms 0 ([0],[]) ⟨by simp,rfl,by simp⟩ hc.2.1;rw[bH]at this;exact wb this (by omega)
def xK (w:aX)(i:Nat):Bool:=(w.1[i]?.all wg)&&Bi (w.1[i]?.map (·.1)) (w.2.2.2.1[i]?.map (·.1))
def xl (w:aX):Bool:=((w.1.length:Int)==(w.2.2.2.1.length:Int))&&(((w.2.1.length:Int)==(w.2.2.2.1.length:Int))&&((w.2.2.1.length:Int)==(w.2.2.2.1.length:Int)))
def ik (w:aX):Bool:=(dx w.2.2.2.1).2&&(xl w&&(eN w.2.2.1 (dx w.2.2.2.1).1&&((List.range w.1.length).all (xK w)&&(List.range w.1.length).all (tW w.2.2.1))))
structure Fk (w:aX):Prop where
 s0:w.1.length≤1000000000
 f0:w.2.2.1.length≤1000000000
 m:∀m∈w.2.2.2.1,m.1.2.2.length≤1000000000
 s1:∀s∈w.1,s.1.2.2.length≤1000000000
 s2:∀s∈w.1,s.2.1.1.length≤1000000000
 s3:∀s∈w.1,s.2.1.2.1.length≤1000000000
 s4:∀s∈w.1,s.2.1.2.2.2.length≤1000000000
theorem CS {w:aX}(h:xl w=true):w.1.length=w.2.2.2.1.length∧w.2.2.1.length=w.2.2.2.1.length:=by unfold xl at h;simp only[ai,aS]at h;omega
theorem ED {w:aX}(i:Nat)(hi:i<w.1.length)(hj:i<w.2.2.2.1.length):xK w i=(wg w.1[i]&&Bi w.1[i].1 w.2.2.2.1[i].1):=by unfold xK;rw[List.getElem?_eq_getElem hi,List.getElem?_eq_getElem hj];congr 1;apply Gj;rw[wD];simp
theorem Ah (w:aX)(z:Fk w):mu w=some (ik w):=by
 have hp:=wU w.2.2.2.1;unfold mu ik;simp only[qI _ z.m,xq _ _ z.f0 hp.1 hp.2,ab,bl,cT,bne];rw[show((!((w.1.length:Int)==(w.2.2.2.1.length:Int)))||((!((w.2.1.length:Int)==(w.2.2.2.1.length:Int)))||((!((w.2.2.1.length:Int)==(w.2.2.2.1.length:Int)))|| !eN w.2.2.1 (dx w.2.2.2.1).1)))= !(xl w&&eN w.2.2.1 (dx w.2.2.2.1).1) by unfold xl;simp only[Bool.not_and,Bool.or_assoc]];cases (dx w.2.2.2.1).2 with|false=>rfl|true=>?_
 cases hl:xl w with|false=>rfl|true=>?_
 cases eN w.2.2.1 (dx w.2.2.2.1).1 with|false=>rfl|true=>?_
 have hL:=CS hl;have h0:=z.s0;simp only[au,cZ,gp,af,bn];rw[fH (hit:=some false) (fin:=some true) (λi=>xK w i&&tW w.2.2.1 i) w.2.2.2.1.length (by omega) (λi nx hi=>?hs) (λnx=>?hf)]
 case hs=>
  have q1:i<w.1.length:=by omega
  have q2:i<w.2.2.1.length:=by omega
  have hm:=aD q1
  rw[ED i q1 hi]
  simp only[nB]
  rw[aj (by omega),aZ q1,aZ hi,aZ q2,wrap64 (n:=(i:Int)+1) (by omega) (by omega)]
  simp only[ae,ab,JK _ (z.s1 _ hm) (z.s2 _ hm) (z.s3 _ hm) (z.s4 _ hm),G4 _ _ (z.s1 _ hm),bl,cT,bne,tW,bF q2]
  cases wg w.1[i]<;>cases Bi w.1[i].1 w.2.2.2.1[i].1<;>cases w.2.2.1[i].1==(i:Int)<;>cases w.2.2.1[i].2.1==(i:Int)+1<;>rfl
 case hf=>
  simp only[nB]
  rw[ah (by omega)];rfl
 have e:∀(l:List Nat)(p q:Nat→Bool),l.all (λx=>p x&&q x)=(l.all p&&l.all q):=by intro l p q;induction l with|nil=>rfl|cons x l ih=>simp only[bg,ih];cases p x<;>cases q x<;>cases l.all p<;>rfl
 rw[e,←hL.1];cases (List.range w.1.length).all (xK w)<;>cases (List.range w.1.length).all (tW w.2.2.1)<;>rfl
theorem zG (w:aX)(z:Fk w):lW w=some (ik w):=by
 have hp:=wU w.2.2.2.1;unfold lW ik;simp only[ti _ z.m,xj _ _ z.f0 hp.1 hp.2,KR _ z.f0,ab,bl,cT,cF,bne];rw[show((!((w.1.length:Int)==(w.2.2.2.1.length:Int)))||((!((w.2.1.length:Int)==(w.2.2.2.1.length:Int)))|| !((w.2.2.1.length:Int)==(w.2.2.2.1.length:Int))))= !(xl w) by unfold xl;simp only[Bool.not_and]];cases (dx w.2.2.2.1).2 with|false=>rfl|true=>?_
 cases hl:xl w with|false=>rfl|true=>?_
 have hL:=CS hl;have h0:=z.s0;simp only[au,cZ,af,bn];rw[fH (hit:=some false) (fin:=some (eN w.2.2.1 (dx w.2.2.2.1).1&&(List.range w.2.2.1.length).all (tW w.2.2.1))) (xK w) w.1.length (by omega) (λi nx hi=>?hs) (λnx=>?hf)]
 case hs=>
  have q1:i<w.2.2.2.1.length:=by omega
  have hm:=aD hi
  rw[ED i hi q1]
  simp only[nr]
  rw[aj (by omega),aZ hi,aZ q1,wrap64 (n:=(i:Int)+1) (by omega) (by omega)]
  simp only[ae,ab,IM _ (z.s1 _ hm) (z.s2 _ hm) (z.s3 _ hm) (z.s4 _ hm),yy _ _ (z.s1 _ hm),bl,cT]
  cases wg w.1[i]<;>cases Bi w.1[i].1 w.2.2.2.1[i].1<;>rfl
 case hf=>
  simp only[nr]
  rw[ah (by omega)];rfl
 rw[hL.2,←hL.1];cases (List.range w.1.length).all (xK w)<;>cases (List.range w.1.length).all (tW w.2.2.1)<;>cases eN w.2.2.1 (dx w.2.2.2.1).1<;>rfl
theorem qS (m:aR)(h:m.1.2.2.length≤1000000000):gu m=some m:=by simp only[gu,iR _ h,ab]
theorem nA (m:aR)(h:m.1.2.2.length≤1000000000):kc m=some m:=by simp only[kc,jr _ h,ab]
theorem xi (l:List aR)(h:l.length≤1000000000)(hx:∀m∈l,m.1.2.2.length≤1000000000):ly l=some l:=by unfold ly;refine(cp (λi=>(l.take i,(i:Int))) l.length (by omega) (λi nx hi=>?_) (λnx=>?_));simp only[kZ];rw[aj (by omega),aZ hi,wrap64 (by omega) (by omega)];simp only[ae,ab,qS _ (hx _ (aD hi))];rw[aN (by simp;omega),←bB hi];rfl;simp only[kZ];rw[ah (by omega),bJ];rfl
theorem ot (l:List al)(h:l.length≤1000000000):eY l=some l:=by simp only[eY,ga h,a9]
end
end Go.Pu
