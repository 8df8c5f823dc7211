import Derived.Test.YthjhpjjgcfedbaaGreatDnData
import Derived.Test.YthjhpjjgcfedbaaGreatPure
import Derived.KernelRfl
namespace Go.Pu
open Go.Dn
set_option linter.unusedSimpArgs false
set_option linter.unusedVariables false
noncomputable section
/- Plain laws of the partial operations and of loops. -/
theorem wrap64 {n:Int}(h1: -9223372036854775808≤n)(h2:n≤9223372036854775807):au n=n:=by simp only[au,dB,IntKind.wrap,IntKind.bits,IntKind.signed];simp;omega
@[simp] theorem ae {α R:Type}(a:α)(k:α→Option R):ab (some a) k=k a:=rfl
@[simp] theorem MI {α R:Type}(k:α→Option R):ab none k=none:=rfl
@[simp] theorem qk {α R:Type}(c:Bool)(x y:α)(k:α→Option R):ab (cond c (some x) (some y)) k=k (cond c x y):=by cases c<;>rfl
theorem bk {α:Type}(c:Bool)(x y:α):cond c (some x) (some y)=some (cond c x y):=by cases c<;>rfl
theorem aN {R:Type}{n:Nat}{k:Option R}(h:n≤1073741824):room n k=k:=by simp[room,h]
theorem KJ {α:Type}(xs:List α)(i:Nat):idx xs (i:Int)=xs[i]?:=rfl
theorem cb {α:Type}{xs:List α}{i:Nat}(h:i<xs.length):idx xs (i:Int)=some xs[i]:=by rw[KJ];exact List.getElem?_eq_getElem h
def Mu {σ R:Type}(step:Nat→σ→(σ→Option R)→Option R)(fin:σ→Option R)(N:Nat):Nat→Nat→σ→Option R
 |0,_,s=>fin s
 |n+1,i,s=>step i s (λs'=>Mu step fin N n (i+1) s')
theorem s9 {X σ R:Type}{T:(X→Option R)→X→Option R}(N:Nat)(e:σ→Nat→X)(step:Nat→σ→(σ→Option R)→Option R)(fin:σ→Option R)(hs:∀i s nx,i<N→T nx (e s i)=step i s (λs'=>nx (e s' (i+1))))(hf:∀s nx,T nx (e s N)=fin s): ∀n i s,i≤N→N-i<n→bc T n (e s i)=Mu step fin N (N-i) i s:=by
 intro n;induction n with
 |zero=>intro i s _ h;omega
 |succ n ih=>
  intro i s hi hn;rw[bc];rcases aX i N with hlt|hge;rw[hs i s _ hlt,show N-i=(N-(i+1))+1 by omega,Mu];congr 1;funext s';exact ih (i+1) s' (by omega) (by omega);have:i=N:=by omega
  subst this;rw[hf,Nat.sub_self,Mu]
def qn {α σ R:Type}(step:α→σ→(σ→Option R)→Option R)(fin:σ→Option R):List α→σ→Option R
 |[],s=>fin s
 |x::xs,s=>step x s (qn step fin xs)
theorem ru {α X σ R:Type}{T:(X→Option R)→X→Option R}(xs:List α)(e:σ→Nat→X)(step:α→σ→(σ→Option R)→Option R)(fin:σ→Option R)(hs:∀i (h:i<xs.length) s nx,T nx (e s i)=step xs[i] s (λs'=>nx (e s' (i+1))))(hf:∀s nx,T nx (e s xs.length)=fin s): ∀n i s,i≤xs.length→xs.length-i<n→bc T n (e s i)=qn step fin (xs.drop i) s:=by
 intro n;induction n with
 |zero=>intro i s _ h;omega
 |succ n ih=>
  intro i s hi hn;rw[bc];rcases aX i xs.length with hlt|hge;rw[hs i hlt s _,bg hlt,qn];congr 1;funext s';exact ih (i+1) s' (by omega) (by omega);have:i=xs.length:=by omega
  subst this;rw[hf,List.drop_length,qn]
def De:(t:CT)→t.D→Nat
 | .int _,_=>0
 | .bool,_=>0
 | .str,s=>s.length
 | .sl e,xs=>xs.length+(xs.map (De e)).sum
 | .pair a b,x=>De a x.1+De b x.2
def n6 (n:Nat):(t:CT)→t.D→Prop
 | .int _,_=>True
 | .bool,_=>True
 | .str,s=>s.length≤n
 | .sl e,xs=>xs.length≤n∧∀x∈xs,n6 n e x
 | .pair a b,x=>n6 n a x.1∧n6 n b x.2
theorem wZ {α:Type}(f:α→Nat):∀(xs:List α)(x:α),x∈xs→f x≤(xs.map f).sum
 |y::ys,x,h=>by rcases bn.1 h with rfl|h;simp;have:=wZ f ys x h;simp;omega
theorem vH {n:Nat}:∀{t:CT}{x:t.D},De t x≤n→n6 n t x
 | .int _,_,_=>trivial
 | .bool,_,_=>trivial
 | .str,_,h=>h
 | .sl e,xs,h=>by simp only[De]at h;exact⟨by omega,λx hx=>vH (by have:=wZ (De e) xs x hx;omega)⟩
 | .pair a b,x,h=>by simp only[De]at h;exact⟨vH (by omega),vH (by omega)⟩
theorem n6.mono {n m:Nat}(h:n≤m):∀{t:CT}{x:t.D},n6 n t x→n6 m t x
 | .int _,_,_=>trivial
 | .bool,_,_=>trivial
 | .str,_,k=>bH k h
 | .sl _,_,k=>⟨bH k.1 h,λx hx=>n6.mono h (k.2 x hx)⟩
 | .pair _ _,_,k=>⟨n6.mono h k.1,n6.mono h k.2⟩
def HU:(t:CT)→t.D→Prop
 | .int k,n=>k.min≤n∧n≤k.max
 | .bool,_=>True
 | .str,s=>s.length≤9223372036854775807
 | .sl e,xs=>xs.length≤9223372036854775807∧∀x∈xs,HU e x
 | .pair a b,x=>HU a x.1∧HU b x.2
def iI (l n:Int):Int:=if n≤l then l-n else-1
def vI {α R:Type}(f:α→Int→Option Int)(k0:Int→Int→Option R)(k1:Int→Int→Int→Option R)(v0:List α)(nx:Int×Int→Option R)(x:Int×Int):Option R:=
 cond (decide (x.2<((List.length v0:Int)))) (
  ab (idx v0 x.2) λx1=>
  ab (f x1 x.1) λr2=>
  cond (decide (r2<0)) (
   k1 r2 (-1) x.2) (
   nx (r2,au (x.2+1)))) (
  k0 x.1 x.2)
noncomputable def AK {α:Type}(f:α→Int→Option Int)(a0:List α)(a1:Int):Option Int:=
 cond (decide ((au (a1-((List.length a0:Int))))<0)) (
  some (-1)) (
  bc (vI f (λy3 _=>some y3) (λ_ y6 _=>some y6) a0) fuel (au (a1-((List.length a0:Int))),0))
theorem E2 {α:Type}{f:α→Int→Option Int}{s:α→Nat}{a:List α}{l:Int}(h0:0≤l)(h1:l≤1048576)(hm:a.length≤9223372036854775807)(hf:∀x∈a,∀l:Int,0≤l→l≤1048576→∃r,f x l=some r∧((s x:Int)≤l→r=l-s x)∧(¬(s x:Int)≤l→r<0)):AK f a l=some (iI l ((a.length+(a.map s).sum:Nat):Int)):=by
 unfold AK;have hfu:=ek;rw[wrap64 (by omega) (by omega)];rcases Int.lt_or_le (l-a.length) 0 with hneg|hpos;rw[aj hneg];simp only[af,iI];rw[aq (by omega)];rw[ai (by omega)];simp only[al];have key:=ru (T:=vI f (λy3 _=>some y3) (λ_ y6 _=>some y6) a) a (λ(q:Int) i=>(q,(i:Int))) (λx q k=>ab (f x q) λr=>cond (decide (r<0)) (some (-1)) (k r)) (λq=>some q) (λi hi q nx=>by simp only[vI];rw[aj (by omega)];simp only[af,cb hi,ae];rw[wrap64 (by omega) (by omega)];rfl) (λq nx=>by simp only[vI];rw[ai (by omega)];rfl) fuel 0 (l-a.length) (by omega) (by omega);have e:((0:Nat):Int)=0:=rfl;rw[e,cK]at key;rw[key];have main:∀(b:List α)(q:Int),0≤q→q≤1048576→(∀x∈b,x∈a)→qn (λx q k=>ab (f x q) λr=>cond (decide (r<0)) (some (-1)) (k r)) (λq=>some q) b q=some (iI q ((b.map s).sum:Nat)):=by intro b;induction b with|nil=>intro q hq _ _;simp[qn,iI,hq]|cons x b ih=>intro q hq hq2 hb;obtain⟨r,hr,hr1,hr2⟩:=hf x (hb x (by simp)) q hq hq2;rw[qn,hr,ae];by_cases hle:(s x:Int)≤q;have:=hr1 hle;subst this;rw[ai (by omega)];simp only[al];rw[ih _ (by omega) (by omega) (λy hy=>hb y (by simp[hy]))];simp only[iI,bX,List.sum_cons];congr 1;split<;>split<;>omega;rw[aj (hr2 hle)];simp only[af,iI,bX,List.sum_cons];rw[aq (by omega)]
 rw[main a _ (by omega) (by omega) (λx h=>h)];simp only[iI];congr 1;split<;>split<;>omega
def zq (f:Int→Option Int)(n:Nat):Prop:=∀l:Int,0≤l→l≤1048576→f l=some (iI l n)
theorem zq.nil:zq (λl=>some l) 0:=λl h0 _=>by simp[iI,h0]
theorem zq.sub {f k:Int→Option Int}{n m:Nat}(hf:zq f n)(h:zq k m):zq (λl=>ab (f l) λr=>cond (decide (r<0)) (some (-1)) (k r)) (n+m):=by
 intro l h0 h1;simp only;rw[hf l h0 h1,ae];by_cases hl:(n:Int)≤l;have e:iI l n=l-n:=by simp[iI,hl]
 rw[e,ai (by omega)];simp only[al];rw[h _ (by omega) (by omega)];simp only[iI];congr 1;split<;>split<;>omega;have e:iI l n= -1:=by simp[iI,hl]
 rw[e];simp only[iI];rw[aq (by omega)];rfl
theorem zq.list {α:Type}{f:α→Int→Option Int}{s:α→Nat}{a:List α}(hm:a.length≤9223372036854775807)(hf:∀x∈a,zq (f x) (s x)):zq (AK f a) (a.length+(a.map s).sum):=λ_ h0 h1=>E2 h0 h1 hm (λx hx l h0 h1=>⟨_,hf x hx l h0 h1,λh=>by simp[iI,h],λh=>by simp[iI,h]⟩)
theorem H3 {α R:Type}{T:(Int→Option R)→Int→Option R}{fin hit:Option R}(p:α→Bool)(a:List α)(h:a.length≤1000000000000)(hs:∀i (hi:i<a.length) nx,T nx (i:Int)=cond (p a[i]) hit (nx ((i+1:Nat):Int)))(hf:∀nx,T nx (a.length:Int)=fin): bc T fuel 0=cond (a.any p) hit fin:=by
 have hfu:=ek;have key:∀n i,i≤a.length→a.length-i<n→bc T n (i:Int)=cond ((a.drop i).any p) hit fin:=by
  intro n;induction n with
  |zero=>intro i _ h;omega
  |succ n ih=>
   intro i hi hn;rw[bc];rcases aX i a.length with hlt|hge;rw[hs i hlt,bg hlt,List.any_cons];cases hq:p a[i]with|true=>rfl|false=>exact ih (i+1) (by omega) (by omega)
   have:i=a.length:=by omega
   subst this;rw[hf,List.drop_length];rfl
 exact key fuel 0 (by omega) (by omega)
theorem kC {R:Type}{T:(Int→Option R)→Int→Option R}{fin hit:Option R}(p:Nat→Bool)(N:Nat)(h:N≤1000000000000)(hs:∀i nx,i<N→T nx (i:Int)=cond (!(p i)) hit (nx ((i+1:Nat):Int)))(hf:∀nx,T nx (N:Int)=fin): bc T fuel 0=cond ((List.range N).all p) fin hit:=by
 have hfu:=ek;have key:∀n i,i≤N→N-i<n→bc T n (i:Int)=cond ((List.range' i (N-i)).all p) fin hit:=by
  intro n;induction n with
  |zero=>intro i _ h;omega
  |succ n ih=>
   intro i hi hn;rw[bc];rcases aX i N with hlt|hge;rw[hs i _ hlt,show N-i=(N-(i+1))+1 by omega,List.range'_succ,a6];cases hq:p i with|false=>rfl|true=>exact ih (i+1) (by omega) (by omega)
   have:i=N:=by omega
   subst this;rw[hf,Nat.sub_self];rfl
 have:=key fuel 0 (by omega) (by omega);rw[Nat.sub_zero,←List.range_eq_range']at this;exact this
theorem kB {α R:Type}{T:(Int→Option R)→Int→Option R}{fin hit:Option R}(p:α→Bool)(a:List α)(h:a.length≤1000000000000)(hs:∀i (hi:i<a.length) nx,T nx (i:Int)=cond (!(p a[i])) hit (nx ((i+1:Nat):Int)))(hf:∀nx,T nx (a.length:Int)=fin): bc T fuel 0=cond (a.all p) fin hit:=by
 have:=H3 (T:=T) (fin:=fin) (hit:=hit) (λx=> !(p x)) a h hs hf;rw[this];have e:a.any (λx=> !(p x))= !(a.all p):=by rw[bU];simp
 rw[e];cases a.all p<;>rfl
theorem yy {X R:Type}{T:(X→Option R)→X→Option R}{fin hit:Option R}(e:Nat→X)(p:Nat→Bool)(N:Nat)(h:N≤1000000000000)(hs:∀i nx,i<N→(∀j,j<i→p j=true)→T nx (e i)=cond (!(p i)) hit (nx (e (i+1))))(hf:(∀j,j<N→p j=true)→∀nx,T nx (e N)=fin): bc T fuel (e 0)=cond ((List.range N).all p) fin hit:=by
 have hfu:=ek;have key:∀n i,i≤N→N-i<n→(∀j,j<i→p j=true)→bc T n (e i)=cond ((List.range' i (N-i)).all p) fin hit:=by
  intro n;induction n with
  |zero=>intro i _ h;omega
  |succ n ih=>
   intro i hi hn hp;rw[bc];rcases aX i N with hlt|hge;rw[hs i _ hlt hp,show N-i=(N-(i+1))+1 by omega,List.range'_succ,a6];cases hq:p i with|false=>rfl|true=>refine ih (i+1) (by omega) (by omega) λj hj=>?_;by_cases hji:j=i;rw[hji];exact hq;exact hp j (by omega)
   have:i=N:=by omega
   subst this;rw[hf hp,Nat.sub_self];rfl
 have:=key fuel 0 (by omega) (by omega) (λj hj=>absurd hj (by omega));rw[Nat.sub_zero,←List.range_eq_range']at this;exact this
theorem tZ {α R:Type}{T:(Int→Option R)→Int→Option R}{fin:Option R}{hit:Int→Option R}(p:α→Bool)(a:List α)(h:a.length≤1000000000000)(hs:∀i (hi:i<a.length) nx,T nx (i:Int)=cond (p a[i]) (hit (i:Int)) (nx ((i+1:Nat):Int)))(hf:∀nx,T nx (a.length:Int)=fin): bc T fuel 0=(match a.findIdx? p with|some i=>hit (i:Int)|none=>fin):=by
 have hfu:=ek;have key:∀n i,i≤a.length→a.length-i<n→bc T n (i:Int)=(match (a.drop i).findIdx? p with|some j=>hit ((i+j:Nat):Int)|none=>fin):=by
  intro n;induction n with
  |zero=>intro i _ h;omega
  |succ n ih=>
   intro i hi hn;rw[bc];rcases aX i a.length with hlt|hge;rw[hs i hlt,bg hlt,List.findIdx?_cons];cases hq:p a[i]with|true=>rfl|false=>have:=ih (i+1) (by omega) (by omega);simp only[al];refine this.trans ?_;cases (a.drop (i+1)).findIdx? p with|none=>rfl|some j=>simp only[bI,aB,ba];congr 2;omega
   have:i=a.length:=by omega
   subst this;rw[hf,List.drop_length];rfl
 have:=key fuel 0 (by omega) (by omega);refine this.trans ?_;rw[cK];cases a.findIdx? p with|none=>rfl|some j=>simp only[bC]
theorem cF (a b:Bool):(bif a then b else false)=(a&&b):=by cases a<;>rfl
theorem cT (a b:Bool):(bif a then true else b)=(a||b):=by cases a<;>rfl
theorem cN (a b:Bool):(bif a then false else b)=(!a&&b):=by cases a<;>rfl
def EI {α σ R:Type}(g:α→σ→Except (Option R) σ)(fin:σ→Option R):List α→σ→Option R
 |[],s=>fin s
 |x::xs,s=>match g x s with| .error r=>r| .ok s'=>EI g fin xs s'
theorem tw {α X σ R:Type}{T:(X→Option R)→X→Option R}(xs:List α)(e:σ→Nat→X)(Inv:Nat→σ→Prop)(g:α→σ→Except (Option R) σ)(fin:σ→Option R)(h:xs.length≤1000000000000)(hs:∀i (hi:i<xs.length) s nx,Inv i s→T nx (e s i)=match g xs[i] s with| .error r=>r| .ok s'=>nx (e s' (i+1)))(hn:∀i (hi:i<xs.length) s s',Inv i s→g xs[i] s=.ok s'→Inv (i+1) s')(hf:∀s nx,Inv xs.length s→T nx (e s xs.length)=fin s)(s:σ)(h0:Inv 0 s): bc T fuel (e s 0)=EI g fin xs s:=by
 have key:∀n i s,i≤xs.length→xs.length-i<n→Inv i s→bc T n (e s i)=EI g fin (xs.drop i) s:=by
  intro n;induction n with
  |zero=>intro i s _ h;omega
  |succ n ih=>
   intro i s hi hn' hI;rw[bc];rcases aX i xs.length with hlt|hge;rw[hs i hlt s _ hI,bg hlt,EI];cases hg:g xs[i] s with|error r=>rfl|ok s'=>exact ih (i+1) s' (by omega) (by omega) (hn i hlt s s' hI hg)
   have:i=xs.length:=by omega
   subst this;rw[hf s _ hI,List.drop_length,EI]
 have hfu:=ek;have:=key fuel 0 s (by omega) (by omega) h0;rwa[cK]at this
theorem tu {α σ R:Type}(f:σ→α→σ)(fin:σ→Option R):∀(xs:List α)(s:σ),EI (λx s=> .ok (f s x)) fin xs s=fin (xs.foldl f s)
 |[],_=>rfl
 |x::xs,s=>by rw[EI];exact tu f fin xs (f s x)
theorem jo {X R:Type}{T:(X→Option R)→X→Option R}{fin:Option R}(e:Nat→X)(N:Nat)(h:N≤1000000000000)(hs:∀i nx,i<N→T nx (e i)=nx (e (i+1)))(hf:∀nx,T nx (e N)=fin):bc T fuel (e 0)=fin:=by rw[yy (hit:=fin) (fin:=fin) e (λ_=>true) N h (λi nx hi _=>by rw[hs i nx hi];rfl) (λ_ nx=>hf nx)];cases (List.range N).all (λ_=>true)<;>rfl
theorem lg {α R:Type}{l:List α}{k:Option R}(h:l.length≤1000000000):room (List.length ([]:List α)+l.length) k=k:=aN (by simp only[List.length_nil];omega)
def Ends {α:Type}(o:Option α)(P:α→Prop):Prop:=∃x,o=some x∧P x
theorem Ends.pure {α:Type}{x:α}{P:α→Prop}(h:P x):Ends (some x) P:=⟨x,rfl,h⟩
theorem Ends.bind {α R:Type}{o:Option α}{P:α→Prop}{k:α→Option R}{Q:R→Prop}(h:Ends o P)(hk:∀x,P x→Ends (k x) Q):Ends (ab o k) Q:=by obtain⟨x,rfl,hx⟩:=h;exact hk x hx
theorem Ends.mono {α:Type}{o:Option α}{P Q:α→Prop}(h:Ends o P)(hq:∀x,P x→Q x):Ends o Q:=by obtain⟨x,hx,hp⟩:=h;exact⟨x,hx,hq x hp⟩
theorem Ends.cond {α:Type}{c:Bool}{a b:Option α}{P:α→Prop}(h1:c=true→Ends a P)(h2:c=false→Ends b P):Ends (cond c a b) P:=by cases c with|true=>exact h1 rfl|false=>exact h2 rfl
theorem Ends.LQ {α:Type}{p:Prop}[Decidable p]{a:Option α}{P:α→Prop}(h:¬p)(ha:Ends a P):Ends (if p then none else a) P:=by rw[aq h];exact ha
theorem Ends.room {α:Type}{n:Nat}{k:Option α}{P:α→Prop}(h:n≤1073741824)(hk:Ends k P):Ends (room n k) P:=by rw[aN h];exact hk
theorem Ends.of {α:Type}{o:Option α}{x:α}{P:α→Prop}(h:o=some x)(hp:P x):Ends o P:=⟨x,h,hp⟩
theorem Ends.iter {σ R:Type}{T:(σ→Option R)→σ→Option R}{Q:R→Prop}(I:σ→Prop)(m:σ→Nat)(hs:∀x nx,I x→(∀y,I y→m y<m x→Ends (nx y) Q)→Ends (T nx x) Q): ∀n x,I x→m x<n→Ends (bc T n x) Q:=by intro n;induction n with|zero=>intro x _ h;omega|succ n ih=>intro x hx hm;rw[bc];exact hs x _ hx λy hy hlt=>ih y hy (by omega)
theorem Ends.mE {σ R:Type}{T:(σ→Option R)→σ→Option R}{Q:R→Prop}(I:σ→Prop)(m:σ→Nat){x:σ}(hx:I x)(hm:m x≤1000000000000)(hs:∀x nx,I x→(∀y,I y→m y<m x→Ends (nx y) Q)→Ends (T nx x) Q):Ends (bc T fuel x) Q:=Ends.iter I m hs fuel x hx (by have:=ek;omega)
theorem Ends.idx {α R:Type}{xs:List α}{i:Int}{k:α→Option R}{Q:R→Prop}(h0:0≤i)(h1:i<(xs.length:Int))(hk:∀(h:i.toNat<xs.length),Ends (k xs[i.toNat]) Q):Ends (ab (idx xs i) k) Q:=by
 obtain⟨n,rfl⟩:=bL h0;have hn:n<xs.length:=by omega
 rw[cb hn,ae];exact hk (by simpa using hn)
abbrev nG:=List Int×Int×Int
def Cu (c:nG):Prop:=0≤c.2.1∧c.2.1≤(c.1.length:Int)∧c.1.length≤1048576
theorem H2 (x y:Int)(n:Nat)(hy:(BitVec.ofInt (IntKind.bits .i64) y).toNat=n)(hn:n<9223372036854775808):0≤au (BitVec.toNat (BitVec.ofInt (IntKind.bits .i64) x&&&BitVec.ofInt (IntKind.bits .i64) y))∧au (BitVec.toNat (BitVec.ofInt (IntKind.bits .i64) x&&&BitVec.ofInt (IntKind.bits .i64) y))≤n:=by
 have h:(BitVec.ofInt (IntKind.bits .i64) x&&&BitVec.ofInt (IntKind.bits .i64) y).toNat≤n:=by rw[BitVec.toNat_and,hy];exact Nat.and_le_right
 generalize (BitVec.ofInt (IntKind.bits .i64) x&&&BitVec.ofInt (IntKind.bits .i64) y).toNat=k at h;rw[wrap64 (by omega) (by omega)];omega
theorem I0 {a:List Int}(ha:a.length≤1048576):Ends (mI a) Cu:=by
 unfold mI;refine Ends.mE (λx=>0≤x.2∧x.2≤4000) (λx=>(4000-x.2).toNat) ⟨by omega,by omega⟩ (by simp) λx nx hx hn=>?_;unfold nZ;refine Ends.bind (P:=λb=>b=true→x.2<(a.length:Int)∧x.2<4000) (Ends.cond (λh=>Ends.pure λh2=>⟨aW h,aW h2⟩) λh=>Ends.pure λh2=>by cases h2) λq hq=>?_;refine Ends.cond (λh=>?_) (λh=>Ends.pure ⟨dR _,by simp,ha⟩);have hq:=hq h;refine Ends.idx hx.1 hq.1 λ_=>hn _ ⟨?_,?_⟩ ?_;all_goals simp only[wrap64 (n:=x.2+1) (by omega) (by omega)]
 all_goals omega
theorem rj {c:nG}(h:Cu c):Ends (eR c) λr=>(0≤r.1∧r.1≤255)∧Cu r.2:=by
 unfold eR;refine Ends.LQ (by decide) (Ends.LQ (by decide) (Ends.cond (λh1=>?_) λh1=>?_))
 ·have h1:=aW h1;refine Ends.idx h.1 h1 λ_=>Ends.pure ⟨H2 _ 255 255 rfl (by decide),?_⟩;refine⟨?_,?_,h.2.2⟩;all_goals simp only[wrap64 (n:=c.2.1+1) (by have:=h.1;omega) (by have:=h.2.2;omega)]
  have:=h.1;omega;omega
 exact Ends.pure ⟨H2 _ 255 255 rfl (by decide),h.1,h.2.1,h.2.2⟩
theorem de {c:nG}(h:Cu c){n:Int}(hn:0<n):Ends (bd c n) λr=>(0≤r.1∧r.1<n)∧Cu r.2:=by unfold bd;rw[ai (by omega)];simp only[al];refine Ends.cond (λh1=>?_) λh1=>?_;refine(rj h).bind λr hr=>Ends.LQ (by omega) (Ends.pure ⟨⟨Int.tmod_nonneg _ hr.1.1,Int.tmod_lt_of_pos _ hn⟩,hr.2⟩);refine(rj h).bind λr2 h2=>(rj h2.2).bind λr3 h3=>(rj h3.2).bind λr4 h4=>(rj h4.2).bind λr5 h5=>Ends.LQ (by omega) (Ends.pure ⟨⟨Int.tmod_nonneg _ ?_,Int.tmod_lt_of_pos _ hn⟩,h5.2⟩);have a2:=h2.1;have a3:=h3.1;have a4:=h4.1;have a5:=h5.1;rw[wrap64 (n:=r2.1*16777216) (by omega) (by omega),wrap64 (n:=r3.1*65536) (by omega) (by omega),wrap64 (n:=r4.1*256) (by omega) (by omega)];rw[wrap64 (n:=r2.1*16777216+r3.1*65536) (by omega) (by omega)];rw[wrap64 (n:=r2.1*16777216+r3.1*65536+r4.1*256) (by omega) (by omega)];rw[wrap64 (by omega) (by omega)];omega
theorem sM {c:nG}(h:Cu c)(n:Int):Ends (bd c n) λr=>(0≤r.1∧(r.1<n∨r.1=0))∧Cu r.2:=by
 rcases Int.lt_or_le 0 n with hn|hn;exact(de h hn).mono λr hr=>⟨⟨hr.1.1,Or.inl hr.1.2⟩,hr.2⟩
 unfold bd;rw[aj hn];exact Ends.pure ⟨⟨dR _,Or.inr rfl⟩,h⟩
theorem ma {c:nG}(h:Cu c)(n:Int):Ends (dn c n) λr=>Cu r.2:=by unfold dn;exact(sM h n).bind λr hr=>Ends.pure hr.2
theorem dX {c:nG}(h:Cu c){l:List Int}{P:Int→Prop}(hl:0<l.length)(hp:∀x∈l,P x):Ends (bm c l) λr=>P r.1∧Cu r.2:=by unfold bm;exact(de h (by omega)).bind λr hr=>Ends.idx hr.1.1 hr.1.2 λhi=>Ends.pure ⟨hp _ (List.getElem_mem hi),hr.2⟩
theorem tK {c:nG}(h:Cu c)(n:Int):Ends (fI c n) λr=>(r.1.length≤5000∧(0≤n→n≤5000→(r.1.length:Int)=n)∧(n≤0→r.1=[]))∧Cu r.2:=by
 have key:∀v:Int,v≤5000→∀Q:(Bytes×nG)→Prop,(∀x c,((x.length:Int)=v∨(v≤0∧x=[]))→Cu c→Q (bytesOf x,c))→Ends (bc (gZ (λy _ z=>some (bytesOf y,z)) v) fuel (([]:List Int),0,c)) Q:=by
  intro v hv Q hQ;refine Ends.mE (λx=>(x.1.length:Int)=x.2.1∧(x.2.1≤v∨x.2.1=0)∧Cu x.2.2) (λx=>(v-x.2.1).toNat) ⟨rfl,Or.inr rfl,h⟩ (by simp;omega) λx nx hx hn=>?_;unfold gZ;refine Ends.cond (λh1=>?_) λh1=>Ends.pure (hQ _ _ ?_ hx.2.2)
  ·have h1:=aW h1;refine(rj hx.2.2).bind λr hr=>Ends.room (by simp;omega) (hn _ ⟨?_,?_,hr.2⟩ ?_);all_goals simp only[wrap64 (n:=x.2.1+1) (by omega) (by omega)]
   simp;omega;omega;omega
  have h1:=of_decide_eq_false h1;rcases hx.2.1 with h2|h2;exact Or.inl (by omega);rcases Int.lt_or_le 0 v with h3|h3;omega;exact Or.inr ⟨h3,bh (by omega)⟩
 have hb:∀x:List Int,(bytesOf x).length=x.length:=λx=>by simp[bytesOf]
 unfold fI;refine Ends.cond (λh1=>?_) λh1=>?_;have h1:=aW h1;refine key 5000 (by omega) _ λx c hx hc=>⟨⟨by rw[hb];rcases hx with hx|hx<;>omega,λ_ _=>by omega,λ_=>by omega⟩,hc⟩
 have h1:=of_decide_eq_false h1;refine key n (by omega) _ λx c hx hc=>⟨⟨?_,λh0 _=>?_,λh0=>?_⟩,hc⟩
 rw[hb];rcases hx with hx|hx;omega;rw[hx.2];simp;rw[hb];rcases hx with hx|hx;omega;rw[hx.2];simp;omega;rcases hx with hx|hx;have:x=[]:=bh (by omega);rw[this];rfl;rw[hx.2];rfl
theorem MH {a:List Int}{k:Bool→Option Bool}(ht:k true=some true)(hk:a.length≤1048576→Ends (k false) (λb=>b=true)):Ends (ab (ta a) k) (λb=>b=true):=by unfold ta;rw[ae];by_cases h:((a.length:Int))>1048576;rw[aj h,ht];exact Ends.pure rfl;rw[ai h];exact hk (by omega)
theorem Ends.true {o:Option Bool}(h:Ends o (λb=>b=true)):o=some true:=by obtain⟨x,h1,rfl⟩:=h;exact h1
theorem xn (l:List Bytes)(h:l.length≤1000000000):k8 l l=some true:=by refine Ends.true ?_;unfold k8;rw[bne_self_eq_false,al];refine Ends.mE (λx=>0≤x∧x≤(l.length:Int)) (λx=>((l.length:Int)-x).toNat) ⟨by omega,by omega⟩ (by omega) λx nx hx hn=>?_;unfold k9;refine Ends.cond (λk=>?_) λ_=>Ends.pure rfl;have k:=aW k;refine Ends.idx hx.1 k λ_=>Ends.idx hx.1 k λ_=>?_;rw[beq_self_eq_true,aA,al,wrap64 (by omega) (by omega)];exact hn _ ⟨by omega,by omega⟩ (by omega)
def cL (a lo hi:Int):Bool:=decide (lo≤a)&&decide (a≤hi)
theorem bw {a lo hi:Int}:cL a lo hi=true↔lo≤a∧a≤hi:=by simp[cL]
theorem cx (a b c:Int):aG a b c=some (cL a b c):=by simp only[aG,bk,ae,cL];cases h:decide (a≥b)<;>rfl
theorem dr (a b c:Int):ax a b c=some (cL a b c):=cx a b c
theorem di {α:Type}{l:List α}{i:Nat}(h:i<l.length)(d:α):l.getD i d=l[i]:=by rw[List.getD_eq_getElem?_getD,List.getElem?_eq_getElem h];rfl
def xO (l:List Int)(i:Nat):Bool:=cL (l.getD i 0) 0 4095&& !(decide (0<i)&&decide (l.getD i 0≤l.getD (i-1) 0))
def iV (f:Filter):Bool:=(List.range f.2.2.length).all (xO f.2.2)&&(cL f.1 0 281474976710654&&decide ((f.2.2.length:Int)≤8))
theorem EN (f:Filter)(h:f.2.2.length≤1000000000):mh f=some (iV f):=by
 unfold mh;rw[kC (hit:=some false) (fin:=some (cL f.1 0 281474976710654&&decide ((f.2.2.length:Int)≤8))) (xO f.2.2) f.2.2.length (by omega) (λi nx hi=>?hs) (λnx=>?hf)]
 case hs=>
  simp only[je]
  rw[aj (by omega),cb hi,wrap64 (n:=(i:Int)+1) (by omega) (by omega)]
  simp only[af,ae,cx,xO,di hi]
  by_cases h0:0<i
  ·have e:au ((i:Int)-1)=((i-1:Nat):Int):=by rw[wrap64 (by omega) (by omega)];omega
   have hp:i-1<f.2.2.length:=by omega
   rw[e,cb hp,aj (show(i:Int)>0 by omega),aj h0,di hp]
   simp only[af,ae,bW]
   cases cL f.2.2[i] 0 4095<;>cases decide (f.2.2[i]≤f.2.2[i-1])<;>rfl
  ·rw[ai (show¬(i:Int)>0 by omega),ai h0]
   simp only[al,du]
   cases cL f.2.2[i] 0 4095<;>rfl
 case hf=>
  simp only[je]
  rw[ai (by omega)]
  simp only[al,cx,ae,qk,bk]
  cases cL f.1 0 281474976710654<;>rfl
 unfold iV;cases (List.range f.2.2.length).all (xO f.2.2)<;>rfl
theorem wK (f:Filter)(h:f.2.2.length≤1000000000):jB f=some (iV f):=by
 unfold jB;rw[kC (hit:=some false) (fin:=some (cL f.1 0 281474976710654&&decide ((f.2.2.length:Int)≤8))) (xO f.2.2) f.2.2.length (by omega) (λi nx hi=>?hs) (λnx=>?hf)]
 case hs=>
  simp only[iW]
  rw[aj (by omega),cb hi,wrap64 (n:=(i:Int)+1) (by omega) (by omega)]
  simp only[af,ae,dr,xO,di hi]
  by_cases h0:0<i
  ·have e:au ((i:Int)-1)=((i-1:Nat):Int):=by rw[wrap64 (by omega) (by omega)];omega
   have hp:i-1<f.2.2.length:=by omega
   rw[e,cb hp,aj (show(i:Int)>0 by omega),aj h0,di hp]
   simp only[af,ae,bW,ge_iff_le]
   cases cL f.2.2[i] 0 4095<;>cases decide (f.2.2[i]≤f.2.2[i-1])<;>rfl
  ·rw[ai (show¬(i:Int)>0 by omega),ai h0]
   simp only[al,du]
   cases cL f.2.2[i] 0 4095<;>rfl
 case hf=>
  simp only[iW]
  rw[ai (by omega)]
  simp only[al,dr,ae,qk,bk]
  cases cL f.1 0 281474976710654<;>rfl
 unfold iV;cases (List.range f.2.2.length).all (xO f.2.2)<;>rfl
def xm (r:fe):Bool:=(iO r).getD false
theorem JA (r:fe):iO r=some (xm r):=by
 have:∃b,iO r=some b:=by simp only[iO,cx,ae,bk];exact⟨_,rfl⟩
 obtain⟨b,hb⟩:=this;simp[xm,hb]
theorem CM {r:fe}(h:xm r=true):r.2.2.2.2.2.2.2.1=0∨r.2.2.2.2.2.2.2.2=0:=by
 by_cases h0:r.2.2.2.2.2.2.2.1=0;exact .inl h0;by_cases h1:r.2.2.2.2.2.2.2.2=0;exact .inr h1;exfalso;have e0:(r.2.2.2.2.2.2.2.1==0)=false:=by simp[h0]
 have e1:(r.2.2.2.2.2.2.2.2==0)=false:=by simp[h1]
 revert h;unfold xm;simp only[iO,cx,ae,bk,e0,e1,al,c8];have z:∀c:Bool,(bif c then false else false)=false:=by intro c;cases c<;>rfl
 simp only[z];intro h;cases h
def qQ (l:List fe):Bool:=l.all xm&&decide ((l.length:Int)≤12)
theorem zf (l:List fe)(h:l.length≤1000000000):nn l=some (qQ l):=by
 unfold nn;rw[kB (hit:=some false) (fin:=some (decide ((l.length:Int)≤12))) xm l (by omega) (λi hi nx=>?hs) (λnx=>?hf)]
 case hs=>
  simp only[kg]
  rw[aj (by omega),cb hi,wrap64 (by omega) (by omega)]
  simp only[af,ae,JA];rfl
 case hf=>
  simp only[kg]
  rw[ai (by omega)];rfl
 unfold qQ;cases l.all xm<;>rfl
theorem GF (l:List fe)(h:l.length≤1000000000):pJ l=some (qQ l):=by rw[←zf l h];rfl
theorem St (x:Int):((BitVec.ofInt 64 x&&&BitVec.ofInt 64 7).toNat:Int)=x%8:=by
 have h7:(BitVec.ofInt 64 7).toNat=2^3-1:=by decide
 rw[BitVec.toNat_and,h7,Nat.and_two_pow_sub_one_eq_mod];simp only[BitVec.toNat_ofInt];omega
theorem Pm (x:Int):((BitVec.ofInt (IntKind.bits .i64) x&&&BitVec.ofInt (IntKind.bits .i64) 7).toNat:Int)=x%8:=St x
theorem K5 (x:Int):fD x 8=some (x%8):=by unfold fD;rw[aq (by omega),Int.tmod_eq_emod];split;rw[ai (by omega)];simp;rw[aj (by simp;omega),wrap64 (by simp;omega) (by simp;omega)];simp
def pc (f:fL):Int:=(f.1%8+f.2.1%8+f.2.2.1%8+f.2.2.2.1%8+f.2.2.2.2%8)%8
theorem wF (f:fL):0≤pc f∧pc f<8:=by unfold pc;omega
theorem Kf {n:Int}(h:0≤n):Int.tmod n 8=n%8:=dv h
theorem C0 (f:fL):jN f=some (pc f):=by
 unfold jN;generalize hL:[f.1,f.2.1,f.2.2.1,f.2.2.2.1,f.2.2.2.2]=L;have hlen:L.length=5:=by rw[←hL];rfl
 have hfu:=ek;have key:=ru (R:=Int) (T:=gz (λ(y2:Int) (y3:Int)=>if 8=0 then none else(some (Int.tmod y2 8))) L) L (λ(s:Int) i=>(s,(i:Int))) (λx s k=>k (au (s+au (x%8)))) (λs=>some (Int.tmod s 8)) (λi hi s nx=>by simp only[gz];rw[aj (by omega),cb hi,wrap64 (n:=(i:Int)+1) (by omega) (by omega)];simp only[af,ae];rw[Pm L[i]];rfl) (λs nx=>by simp only[gz];rw[ai (by omega)];rfl) fuel 0 0 (by omega) (by omega);refine key.trans ?_;rw[←hL];simp only[cK,qn];rw[wrap64 (n:=f.1%8) (by omega) (by omega),wrap64 (n:=f.2.1%8) (by omega) (by omega),wrap64 (n:=f.2.2.1%8) (by omega) (by omega),wrap64 (n:=f.2.2.2.1%8) (by omega) (by omega),wrap64 (n:=f.2.2.2.2%8) (by omega) (by omega)];rw[wrap64 (n:=0+f.1%8) (by omega) (by omega),wrap64 (n:=0+f.1%8+_) (by omega) (by omega),wrap64 (n:=0+f.1%8+_+_) (by omega) (by omega),wrap64 (n:=0+f.1%8+_+_+_) (by omega) (by omega),wrap64 (n:=0+f.1%8+_+_+_+_) (by omega) (by omega)];rw[Kf (by omega),pc,Int.zero_add]
theorem Iy (f:fL):lZ f=some (pc f):=by
 unfold lZ;generalize hL:[f.1,f.2.1,f.2.2.1,f.2.2.2.1,f.2.2.2.2]=L;have hlen:L.length=5:=by rw[←hL];rfl
 have hfu:=ek;have key:=ru (R:=Int) (T:=gq (λ(y2:Int) (y3:Int)=>if 8=0 then none else(some (Int.tmod y2 8))) L (L.length:Int)) L (λ(s:Int) i=>(s,(i:Int))) (λx s k=>k (au (s+(x%8)))) (λs=>some (Int.tmod s 8)) (λi hi s nx=>by simp only[gq];rw[aj (by omega),cb hi,wrap64 (n:=(i:Int)+1) (by omega) (by omega)];simp only[af,ae,K5];rfl) (λs nx=>by simp only[gq];rw[ai (by omega)];rfl) fuel 0 0 (by omega) (by omega);refine key.trans ?_;rw[←hL];simp only[cK,qn];rw[wrap64 (n:=0+f.1%8) (by omega) (by omega),wrap64 (n:=0+f.1%8+_) (by omega) (by omega),wrap64 (n:=0+f.1%8+_+_) (by omega) (by omega),wrap64 (n:=0+f.1%8+_+_+_) (by omega) (by omega),wrap64 (n:=0+f.1%8+_+_+_+_) (by omega) (by omega)];rw[Kf (by omega),pc,Int.zero_add]
def dm (t:List Slot)(i:Nat):Slot:=t.getD i (0,(0,0,0,0,0),0)
theorem py {t:List Slot}{i:Nat}(h:i<t.length):dm t i=t[i]:=di h _
def ff (f:fL)(k:Nat):Nat:=((pc f).toNat+k)%8
theorem vJ (f:fL)(k:Nat):ff f k<8:=Nat.mod_lt _ (by omega)
theorem C9 (f:fL)(k:Nat)(h:k<8):Int.tmod (au (pc f+(k:Int))) 8=(ff f k:Int):=by have:=wF f;rw[wrap64 (by omega) (by omega),Kf (by omega),ff];omega
def kK (s:Slot)(f:fL):Bool:=(s.1==1)&&decide (s.2.1=f)
theorem vA (p q:fL):((p.1==q.1)&&((p.2.1==q.2.1)&&((p.2.2.1==q.2.2.1)&&((p.2.2.2.1==q.2.2.2.1)&&((p.2.2.2.2==q.2.2.2.2)&&true)))))=decide (p=q):=by obtain⟨a,b,c,d,e⟩:=p;obtain⟨a',b',c',d',e'⟩:=q;rw[bU];simp
def walk (t:List Slot)(f:fL):Nat→Nat→Int
 |0,_=> -1
 |n+1,k=>if(dm t (ff f k)).1=0 then-1 else if kK (dm t (ff f k)) f then(ff f k:Int) else walk t f n (k+1)
theorem CZ (t:List Slot)(f:fL)(ht:t.length=8):lD t f=some (walk t f 8 0):=by
 unfold lD;have hfu:=ek
 have key:=s9 (R:=Int) (T:=g7 (λ(y6:Int)=>some (-1)) (λ(y7:Int) (y8:Int)=>some y7) 0 t f) 8 (λ(_:Unit) i=>(i:Int))
  (λi s k=>if(dm t (ff f i)).1=0 then some (-1) else if kK (dm t (ff f i)) f then some (ff f i:Int) else k s) (λ_=>some (-1))
  (λi s nx hi=>by
   have hw:ff f i<t.length:=by have:=vJ f i;omega
   simp only[g7,C0];rw[aj (by omega),wrap64 (n:=(i:Int)+1) (by omega) (by omega)];simp only[af,ae,C9 f i hi,cb hw,py hw,vA,kK,bk,ae];rw[aq (by omega)];by_cases h0:t[ff f i].1=0;simp[h0];have e0:(t[ff f i].1==0)=false:=by simp[h0]
   rw[e0,aq h0];cases (t[ff f i].1==1)<;>cases decide (t[ff f i].2.1=f)<;>rfl)
  (λs nx=>by simp only[g7];rfl)
  fuel 0 () (by omega) (by omega)
 refine key.trans ?_;have main:∀n i,Mu (R:=Int) (λi (s:Unit) k=>if(dm t (ff f i)).1=0 then some (-1) else if kK (dm t (ff f i)) f then some (ff f i:Int) else k s) (λ_=>some (-1)) 8 n i ()=some (walk t f n i):=by intro n;induction n with|zero=>intro i;rfl|succ n ih=>intro i;rw[Mu,walk];split;rfl;split;rfl;exact ih (i+1)
 exact main 8 0
def pE (f:fL):List Slot→Int→Int
 |[],_=> -1
 |s::r,i=>if kK s f then i else pE f r (i+1)
theorem ID (t:List Slot)(f:fL)(h:t.length≤1000000000):oy t f=some (pE f t 0):=by
 unfold oy;have hfu:=ek;have key:∀n i,i≤t.length→t.length-i<n→bc (k6 (λ(y3:Int)=>some (-1)) (λ(y4:Int) (y5:Int)=>some y4) 0 t ((List.length t:Int)) f) n (i:Int)=some (pE f (t.drop i) i):=by
  intro n;induction n with
  |zero=>intro i _ h;omega
  |succ n ih=>
   intro i hi hn;rw[bc];simp only[k6];rcases aX i t.length with hlt|hge;rw[aj (by omega),cb hlt,bg hlt,pE,wrap64 (by omega) (by omega)];simp only[af,ae,vA,bk];have e:(bif t[i].1==1 then decide (t[i].2.1=f) else false)=kK t[i] f:=by unfold kK;cases (t[i].1==1)<;>rfl
   rw[e];cases kK t[i] f with|true=>rfl|false=>exact ih (i+1) (by omega) (by omega)
   have:i=t.length:=by omega
   subst this;rw[ai (by omega),List.drop_length];rfl
 exact key fuel 0 (by omega) (by omega)
theorem KR (f:fL):pL f=some ((List.range 8).map λk=>(ff f k:Int)):=by unfold pL;have hfu:=ek;have key:=s9 (R:=List Int) (T:=jH (λ(y2:List Int) (y3:Int)=>some y2) f) 8 (λ(_:Unit) i=>((List.range i).map (λk=>(ff f k:Int)),(i:Int))) (λ_ s k=>k s) (λ_=>some ((List.range 8).map λk=>(ff f k:Int))) (λi s nx hi=>by simp only[jH,Iy];rw[aj (by omega),wrap64 (n:=(i:Int)+1) (by omega) (by omega)];simp only[af,ae,C9 f i hi];rw[aq (by omega),aN (by simp;omega),List.range_succ,List.map_append];rfl) (λs nx=>by simp only[jH];rfl) fuel 0 () (by omega) (by omega);exact key
def clear (t:List Slot)(f:fL)(i:Nat):Nat→Nat→Bool
 |0,_=>true
 |n+1,k=>if ff f k=i then true else if(dm t (ff f k)).1=0 then false else clear t f i n (k+1)
theorem Gz {R:Type}(k0:Int→Option R)(k1:Bool→Int→Option R)(hit fin:Option R)(h0:∀x,k0 x=fin)(h1:∀x,k1 false x=hit)(v2:Bool)(i:Nat)(v12:List Slot)(v13 v14:Int)(t:List Slot)(f:fL)(ht:t.length=8): bc (eV k0 k1 v2 (i:Int) v12 v13 v14 ((List.range 8).map λk=>(ff f k:Int)) (((List.range 8).map λk=>(ff f k:Int)).length:Int) t) fuel 0=cond (clear t f i 8 0) fin hit:=by
 have hfu:=ek;have hl:((List.range 8).map λk=>(ff f k:Int)).length=8:=by simp
 have key:=s9 (R:=R) (T:=eV k0 k1 v2 (i:Int) v12 v13 v14 ((List.range 8).map λk=>(ff f k:Int)) (((List.range 8).map λk=>(ff f k:Int)).length:Int) t) 8 (λ(_:Unit) i=>(i:Int))
  (λk s c=>if ff f k=i then fin else if(dm t (ff f k)).1=0 then hit else c s) (λ_=>fin)
  (λk s nx hk=>by
   have hw:ff f k<t.length:=by have:=vJ f k;omega
   simp only[eV];rw[aj (by omega),cb (show k<((List.range 8).map λk=>(ff f k:Int)).length by omega),wrap64 (n:=(k:Int)+1) (by omega) (by omega)];simp only[af,ae,List.getElem_map,List.getElem_range,cb hw,py hw,h0,h1];by_cases e1:ff f k=i;subst e1;simp;have:((ff f k:Int)==(i:Int))=false:=by simp;omega
   rw[this,aq e1];by_cases e2:t[ff f k].1=0;simp[e2];have:(t[ff f k].1==0)=false:=by simp[e2]
   rw[this,aq e2];rfl)
  (λs nx=>by simp only[eV];rw[ai (by omega)];exact h0 _)
  fuel 0 () (by omega) (by omega)
 refine key.trans ?_;have main:∀n k,Mu (R:=R) (λk (s:Unit) c=>if ff f k=i then fin else if(dm t (ff f k)).1=0 then hit else c s) (λ_=>fin) 8 n k ()=cond (clear t f i n k) fin hit:=by intro n;induction n with|zero=>intro k;rfl|succ n ih=>intro k;rw[Mu,clear];split;rfl;split;rfl;exact ih (k+1)
 exact main 8 0
def BG:fL:=(0,0,0,0,0)
theorem BH (p:fL):((p.1==0)&&((p.2.1==0)&&((p.2.2.1==0)&&((p.2.2.2.1==0)&&((p.2.2.2.2==0)&&true)))))=decide (p=BG):=vA p BG
def CY (s:Slot):Bool:=cL s.1 0 2&&cL s.2.2 0 3&&((s.1==1)||(s.2.2==0)&&decide (s.2.1=BG))
def jd (t:List Slot)(i:Nat):Bool:=CY (dm t i)&&(!((dm t i).1==1)||(walk t (dm t i).2.1 8 0==(i:Int)))
def kE (t:List Slot)(i:Nat):Bool:=CY (dm t i)&&(!((dm t i).1==1)||(pE (dm t i).2.1 t 0==(i:Int))&&clear t (dm t i).2.1 i 8 0)
def mT (t:List Slot):Bool:=(t.length==8)&&(List.range 8).all (jd t)
theorem zg (t:List Slot):ly t=some (mT t):=by
 unfold ly mT;by_cases ht:t.length=8
 ·have e:((t.length:Int) !=8)=false:=by rw[ht];rfl
  have e2:(t.length==8)=true:=by rw[ht];rfl
  rw[e,e2];simp only[al,bW];rw[kC (hit:=some false) (fin:=some true) (jd t) 8 (by omega) (λi nx hi=>?hs) (λnx=>?hf)]
  case hs=>
   have hl:i<t.length:=by omega
   simp only[kj]
   rw[aj (by omega),cb hl,wrap64 (by omega) (by omega)]
   simp only[af,ae,cx,bk,BH,CZ t _ ht,jd,py hl,CY,bne]
   cases cL t[i].1 0 2<;>cases cL t[i].2.2 0 3<;>cases (t[i].1==1)<;>cases (t[i].2.2==0)<;>cases decide (t[i].2.1=BG)<;>first|rfl|(cases (walk t t[i].2.1 8 0==(i:Int))<;>rfl)
  case hf=>
   simp only[kj]
   rw[ai (by omega)];rfl
  cases (List.range 8).all (jd t)<;>rfl
 have e:((t.length:Int) !=8)=true:=by simp;omega
 have e2:(t.length==8)=false:=by simp[ht]
 rw[e,e2];rfl
theorem D4 (t:List Slot):kX t=some ((t.length==8)&&(List.range 8).all (kE t)):=by
 unfold kX;by_cases ht:t.length=8
 ·have e:((t.length:Int) !=8)=false:=by rw[ht];rfl
  have e2:(t.length==8)=true:=by rw[ht];rfl
  rw[e,e2];simp only[al,bW];rw[kC (hit:=some false) (fin:=some true) (kE t) 8 (by omega) (λi nx hi=>?hs) (λnx=>?hf)]
  case hs=>
   have hl:i<t.length:=by omega
   simp only[jY]
   rw[aj (by omega),cb hl,wrap64 (by omega) (by omega)]
   simp only[af,ae,dr,bk,BH,ID t _ (show t.length≤1000000000 by omega),KR,kE,py hl,CY,bne]
   rw[Gz (λ_=>nx ((i:Int)+1)) (λ(y:Bool) (_:Int)=>some y) (some false) (nx ((i:Int)+1)) (λ_=>rfl) (λ_=>rfl) _ _ _ _ _ _ _ ht]
   cases cL t[i].1 0 2<;>cases cL t[i].2.2 0 3<;>cases (t[i].1==1)<;>cases (t[i].2.2==0)<;>cases decide (t[i].2.1=BG)<;>first|rfl|(cases (pE t[i].2.1 t 0==(i:Int))<;>first|rfl|(cases clear t t[i].2.1 i 8 0<;>rfl))
  case hf=>
   simp only[jY]
   rw[ai (by omega)];rfl
  cases (List.range 8).all (kE t)<;>rfl
 have e:((t.length:Int) !=8)=true:=by simp;omega
 have e2:(t.length==8)=false:=by simp[ht]
 rw[e,e2];rfl
theorem zl (t:List Slot)(f:fL)(i:Nat):∀n k,walk t f n k=(i:Int)→kK (dm t i) f=true∧clear t f i n k=true∧∃j,j<n∧ff f (k+j)=i
 |0,k,h=>by unfold walk at h;omega
 |n+1,k,h=>by
  unfold walk at h;unfold clear;by_cases h0:(dm t (ff f k)).1=0;rw[ar h0]at h;omega;rw[aq h0]at h;by_cases h1:kK (dm t (ff f k)) f=true;rw[ar h1]at h;have:ff f k=i:=by omega
  subst this;exact⟨h1,by simp,0,by omega,rfl⟩;rw[aq h1]at h;obtain⟨a,b,j,hj,e⟩:=zl t f i n (k+1) h;refine⟨a,?_,j+1,by omega,by rw[←e];congr 1;omega⟩;rw[aq h0,b];split<;>rfl
theorem Ga (t:List Slot)(f:fL)(i:Nat)(hu:kK (dm t i) f=true)(huniq:∀j,j<8→kK (dm t j) f=true→j=i):∀n k,clear t f i n k=true→(∃j,j<n∧ff f (k+j)=i)→walk t f n k=(i:Int)
 |0,k,_,h=>by obtain⟨j,hj,_⟩:=h;omega
 |n+1,k,hc,⟨j,hj,e⟩=>by unfold walk;unfold clear at hc;by_cases h1:ff f k=i;rw[h1,aq,ar hu];intro h0;unfold kK at hu;rw[h0]at hu;simp at hu;rw[aq h1]at hc;by_cases h0:(dm t (ff f k)).1=0;rw[ar h0]at hc;cases hc;rw[aq h0]at hc;rw[aq h0,aq (λhu'=>h1 (huniq _ (vJ f k) hu'))];refine Ga t f i hu huniq n (k+1) hc ?_;cases j with|zero=>exact absurd e h1|succ j=>exact⟨j,by omega,by rw[←e];congr 1;omega⟩
theorem LF (f:fL)(i:Nat)(hi:i<8):∃j,j<8∧ff f (0+j)=i:=by have:=wF f;refine⟨(i+8-(pc f).toNat)%8,by omega,?_⟩;unfold ff;omega
theorem uN (f:fL):∀(t:List Slot)(m:Nat),(∃j,j<t.length∧kK (dm t j) f=true)→∃j,j<t.length∧kK (dm t j) f=true∧pE f t m=((m+j:Nat):Int)
 |[],_,h=>by obtain⟨j,hj,_⟩:=h;simp at hj
 |s::r,m,⟨j,hj,e⟩=>by
  unfold pE;by_cases hs:kK s f=true;rw[ar hs];exact⟨0,by simp,by simpa[dm]using hs,by simp⟩;rw[aq hs];cases j with
  |zero=>exact absurd (by simpa[dm]using e) hs
  |succ j=>
   obtain⟨j',h1,h2,h3⟩:=uN f r (m+1) ⟨j,by simpa using hj,by simpa[dm]using e⟩;refine⟨j'+1,by simpa using h1,by simpa[dm]using h2,?_⟩;have:((m:Int)+1)=((m+1:Nat):Int):=by omega
   rw[this,h3];congr 1;omega
theorem EL (t:List Slot)(ht:t.length=8):(List.range 8).all (kE t)=(List.range 8).all (jd t):=by
 rw[bU,aF,aF];simp only[bN];constructor;intro h i hi;have hI:=h i hi;unfold kE at hI;unfold jd;simp only[aa,bB,aC,aS]at hI⊢;refine⟨hI.1,?_⟩;rcases hI.2 with h1|⟨h1,h2⟩;exact .inl h1;by_cases hu:((dm t i).1==1)=true;right;have hu':kK (dm t i) (dm t i).2.1=true:=by unfold kK;rw[hu];simp
 refine Ga t _ i hu' (λj hj huj=>?_) 8 0 h2 (LF _ i hi);have hJ:=h j hj;unfold kE at hJ;unfold kK at huj;simp only[aa,aI]at huj;simp only[aa,bB,aC,aS]at hJ;rcases hJ.2 with h3|⟨h3,_⟩;rw[huj.1]at h3;cases h3;rw[huj.2]at h3;omega;exact .inl (by simpa using hu);intro h i hi;have hI:=h i hi;unfold jd at hI;unfold kE;simp only[aa,bB,aC,aS]at hI⊢;refine⟨hI.1,?_⟩;rcases hI.2 with h1|h1;exact .inl h1;right;obtain⟨hu,hc,_⟩:=zl t _ i 8 0 h1;refine⟨?_,hc⟩;obtain⟨j,hj,huj,e⟩:=uN (dm t i).2.1 t 0 ⟨i,by omega,hu⟩;have hJ:=h j (by omega);unfold jd at hJ;unfold kK at huj;simp only[aa,aI]at huj;simp only[aa,bB,aC,aS]at hJ;rcases hJ.2 with h3|h3;rw[huj.1]at h3;cases h3;rw[huj.2,h1]at h3;have e':pE (dm t i).2.1 t 0=((0+j:Nat):Int):=e;rw[e'];omega
theorem GH (t:List Slot):kX t=some (mT t):=by
 rw[D4,mT];by_cases ht:t.length=8;rw[EL t ht];have e2:(t.length==8)=false:=by simp[ht]
 rw[e2];rfl
def FW (n:Int):Bool:=(n==1)||(n==2)||(n==4)||(n==8)||(n==16)
theorem Ee (n:Int):ns n=some (FW n):=by simp only[ns,bk,ae,FW];cases (n==1)<;>cases (n==2)<;>cases (n==4)<;>cases (n==8)<;>rfl
def nC (s:kM)(q:Int):Bool:=cL q 1 4&&((s.1.length:Int)==16)&&FW s.2.length&&s.2.all λx=>cL x 0 (q-1)
theorem xz (s:kM)(q:Int)(h:s.2.length≤1000000000):mq s q=some (nC s q):=by
 unfold mq nC;simp only[cx,Ee,ae,bk,bne];by_cases hq:cL q 1 4=true
 ·rw[kB (hit:=some false) (fin:=some true) (λx=>cL x 0 (q-1)) s.2 (by omega) (λi hi nx=>?hs) (λnx=>?hf)]
  case hs=>
   rw[bw]at hq
   simp only[jh]
   rw[aj (by omega),cb hi,wrap64 (n:=(i:Int)+1) (by omega) (by omega),wrap64 (n:=q-1) (by omega) (by omega)]
   simp only[af,ae,cx];rfl
  case hf=>
   simp only[jh]
   rw[ai (by omega)];rfl
  rw[hq];cases ((s.1.length:Int)==16)<;>cases FW s.2.length<;>cases s.2.all (λx=>cL x 0 (q-1))<;>rfl
 have hq':cL q 1 4=false:=by simpa using hq
 rw[hq'];rfl
theorem D3 (s:kM)(q:Int)(h:s.2.length≤1000000000):oN s q=some (nC s q):=by rw[←xz s q h];rfl
def dM (s:bT)(q:Int):Bool:=qQ s.1&&mT s.2.1&&nC s.2.2 q&&s.1.all (λr=> !(decide (r.2.2.2.2.2.2.2.2≥q)))&&s.2.1.all (λx=> !(decide (x.2.2≥q)))
theorem AF (s:bT)(q:Int)(h1:s.1.length≤1000000000)(h2:s.2.1.length≤1000000000)(h3:s.2.2.2.length≤1000000000):ki s q=some (dM s q):=by
 unfold ki dM;simp only[zf _ h1,zg,xz _ _ h3,ae,bk];rw[kB (hit:=some false) (fin:=cond (s.2.1.all (λx=> !(decide (x.2.2≥q)))) (some true) (some false)) (λr:fe=> !(decide (r.2.2.2.2.2.2.2.2≥q))) s.1 (by omega) (λi hi nx=>?hs) (λnx=>?hf)]
 case hs=>
  simp only[gQ]
  rw[aj (by omega),cb hi,wrap64 (by omega) (by omega)]
  simp only[af,ae,dh];rfl
 case hf=>
  simp only[gQ]
  rw[ai (by omega)]
  simp only[al]
  rw[kB (hit:=some false) (fin:=some true) (λx:Slot=> !(decide (x.2.2≥q))) s.2.1 (by omega) (λi hi nx=>?hs) (λnx=>?hf)]
  case hs=>
   simp only[gR]
   rw[aj (by omega),cb hi,wrap64 (by omega) (by omega)]
   simp only[af,ae,dh];rfl
  case hf=>
   simp only[gR]
   rw[ai (by omega)];rfl
 cases qQ s.1<;>cases mT s.2.1<;>cases nC s.2.2 q<;>cases s.1.all (λr=> !(decide (r.2.2.2.2.2.2.2.2≥q)))<;>cases s.2.1.all (λx=> !(decide (x.2.2≥q)))<;>rfl
theorem sZ (s:bT)(q:Int)(h1:s.1.length≤1000000000)(h2:s.2.1.length≤1000000000)(h3:s.2.2.2.length≤1000000000):gT s q=some (dM s q):=by
 unfold gT dM;simp only[GF _ h1,GH,D3 _ _ h3,ae,bk];rw[kB (hit:=some false) (fin:=cond (s.2.1.all (λx=> !((x.1==1)&&decide (x.2.2≥q)))) (some true) (some false)) (λr:fe=> !((r.2.2.2.2.2.2.2.1==0)&&decide (r.2.2.2.2.2.2.2.2≥q))) s.1 (by omega) (λi hi nx=>?hs) (λnx=>?hf)]
 case hs=>
  simp only[gI]
  rw[aj (by omega),cb hi,wrap64 (by omega) (by omega)]
  simp only[af,ae,dh,bk]
  cases (s.1[i].2.2.2.2.2.2.2.1==0)<;>rfl
 case hf=>
  simp only[gI]
  rw[ai (by omega)]
  simp only[al]
  rw[kB (hit:=some false) (fin:=some true) (λx:Slot=> !((x.1==1)&&decide (x.2.2≥q))) s.2.1 (by omega) (λi hi nx=>?hs) (λnx=>?hf)]
  case hs=>
   simp only[fV]
   rw[aj (by omega),cb hi,wrap64 (by omega) (by omega)]
   simp only[af,ae,dh,bk]
   cases (s.2.1[i].1==1)<;>rfl
  case hf=>
   simp only[fV]
   rw[ai (by omega)];rfl
 cases hr:qQ s.1 with
 |false=>rfl
 |true=>
  cases ht:mT s.2.1 with
  |false=>rfl
  |true=>
   cases hs:nC s.2.2 q with
   |false=>rfl
   |true=>
    have hq:1≤q:=by unfold nC at hs;simp only[aa,bw]at hs;exact hs.1.1.1.1
    have e1:s.1.all (λr=> !((r.2.2.2.2.2.2.2.1==0)&&decide (r.2.2.2.2.2.2.2.2≥q)))=s.1.all (λr=> !(decide (r.2.2.2.2.2.2.2.2≥q))):=by unfold qQ at hr;simp only[aa,aF]at hr;rw[bU,aF,aF];refine forall_congr' λr=>forall_congr' λhm=>?_;rcases CM (hr.1 r hm)with h0|h0;rw[h0];simp;rw[h0];simp only[ai (show¬(0:Int)≥q by omega),Bool.and_false]
    have e2:s.2.1.all (λx=> !((x.1==1)&&decide (x.2.2≥q)))=s.2.1.all (λx=> !(decide (x.2.2≥q))):=by unfold mT at ht;simp only[aa,aF,bN,aS]at ht;rw[bU,aF,aF];refine forall_congr' λx=>forall_congr' λhm=>?_;obtain⟨i,hi,rfl⟩:=List.mem_iff_getElem.1 hm;have hsl:=ht.2 i (by omega);unfold jd CY at hsl;rw[py hi]at hsl;simp only[aa,bB,aS]at hsl;rcases hsl.1.2 with h0|⟨h0,_⟩;rw[h0];simp;rw[h0];simp only[ai (show¬(0:Int)≥q by omega),Bool.and_false]
    rw[e1,e2];cases s.1.all (λr=> !(decide (r.2.2.2.2.2.2.2.2≥q)))<;>cases s.2.1.all (λx=> !(decide (x.2.2≥q)))<;>rfl
theorem iQ {n:Nat}(h:n<9223372036854775808):au (n:Int)=(n:Int):=wrap64 (by omega) (by omega)
theorem tQ {n:Nat}(h:n<4294967296):IntKind.wrap .u32 (n:Int)=(n:Int):=by simp only[au,dB,IntKind.wrap,IntKind.bits,IntKind.signed];simp;omega
theorem mY (b:UInt8):b.toNat<256:=b.toNat_lt
def cG (v:Int):Bytes:=(bJ v).getD []
theorem iL (v:Int):bJ v=some (cG v):=by
 unfold cG;have:∃x,bJ v=some x:=by simp only[bJ,cx,ae];cases cL v 0 65535<;>exact⟨_,rfl⟩
 obtain⟨x,hx⟩:=this;rw[hx];rfl
theorem pG (v:Int):cl v=some (cG v):=iL v
theorem E3 (v:Int):(cG v).length=bif cL v 0 65535 then 2 else 0:=by have h:=iL v;simp only[bJ,cx,ae]at h;cases hb:cL v 0 65535<;>rw[hb]at h<;>(rw[←bV h];rfl)
theorem bu (v:Int):(cG v).length≤2:=by rw[E3];cases cL v 0 65535<;>simp
def fj (v:Int):Bytes:=(c9 v).getD []
theorem ky (v:Int):c9 v=some (fj v):=by
 unfold fj;have:∃x,c9 v=some x:=by simp only[c9,cx,ae];cases cL v 0 4294967295<;>exact⟨_,rfl⟩
 obtain⟨x,hx⟩:=this;rw[hx];rfl
theorem wL (v:Int):fC v=some (fj v):=ky v
theorem E4 (v:Int):(fj v).length=bif cL v 0 4294967295 then 4 else 0:=by have h:=ky v;simp only[c9,cx,ae]at h;cases hb:cL v 0 4294967295<;>rw[hb]at h<;>(rw[←bV h];rfl)
theorem c7 (v:Int):(fj v).length≤4:=by rw[E4];cases cL v 0 4294967295<;>simp
def cf (s:Bytes)(i:Nat):Nat:=(s.getD i 0).toNat
theorem dx (s:Bytes)(i:Nat):cf s i<256:=mY _
theorem pe {s:Bytes}{i:Nat}(h:i<s.length):∃x,idx s (i:Int)=some x∧x.toNat=cf s i:=⟨s[i],cb h,by rw[cf,di h]⟩
def dE (s:Bytes)(a n:Int):Bool:=decide (0≤a∧a+n≤(s.length:Int))
theorem qV (s:Bytes)(a n:Int)(h:s.length≤1000000000)(hn:0≤n):gA s a n=some (dE s a n):=by unfold gA dE;by_cases h0:0≤a;by_cases h1:a≤(s.length:Int);rw[aj (show a≥0 from h0),aj h1,wrap64 (by omega) (by omega)];simp only[af,ae];congr 1;rw[decide_eq_decide];omega;rw[aj (show a≥0 from h0),ai h1,ai (show¬(0≤a∧a+n≤(s.length:Int)) by omega)];rfl;rw[ai (show¬a≥0 from h0),ai (show¬(0≤a∧a+n≤(s.length:Int)) by omega)];rfl
def cO (s:Bytes)(a:Int):Int:=bif dE s a 2 then((cf s a.toNat*256+cf s (a.toNat+1):Nat):Int) else-1
def jy (s:Bytes)(a:Int):Int:=bif dE s a 4 then(((cf s a.toNat*256+cf s (a.toNat+1))*65536+(cf s (a.toNat+2)*256+cf s (a.toNat+3)):Nat):Int) else-1
theorem pz (s:Bytes)(a:Int)(h:s.length≤1000000000):dG s a=some (cO s a):=by unfold dG cO;rw[qV s a 2 h (by omega),ae];cases hw:dE s a 2 with|false=>rfl|true=>simp only[dE,aI]at hw;obtain⟨n,rfl⟩:=bL hw.1;obtain⟨x,hx,ex⟩:=pe (s:=s) (i:=n) (by omega);obtain⟨y,hy,ey⟩:=pe (s:=s) (i:=n+1) (by omega);have hxl:=dx s n;have hyl:=dx s (n+1);rw[wrap64 (n:=(n:Int)+1) (by omega) (by omega),hx,show(n:Int)+1=((n+1:Nat):Int) by omega,hy];simp only[aA,al,ae,aV,af];rw[aq (by omega),ex,ey,iQ (by omega),iQ (by omega)];have e8:min (Int.toNat 8) (IntKind.bits .i64)=8:=rfl;rw[e8,wrap64 (n:=((cf s n:Nat):Int)*2^8) (by omega) (by omega),wrap64 (by omega) (by omega)];congr 1;all_goals omega
theorem uI (s:Bytes)(a:Int)(h:s.length≤1000000000):gO s a=some (jy s a):=by
 unfold gO jy;rw[qV s a 4 h (by omega),ae];cases hw:dE s a 4 with
 |false=>rfl
 |true=>
  simp only[dE,aI]at hw;obtain⟨n,rfl⟩:=bL hw.1;have w1:dE s (n:Int) 2=true:=by simp only[dE,aI];omega
  have w2:dE s ((n:Int)+2) 2=true:=by simp only[dE,aI];omega
  have b0:=dx s n;have b1:=dx s (n+1);have b2:=dx s (n+2);have b3:=dx s (n+3);rw[wrap64 (n:=(n:Int)+2) (by omega) (by omega),pz s _ h,pz s _ h];simp only[aA,al,ae,af,cO,w1,w2,aV];rw[aq (by omega),show((n:Int)+2).toNat=n+2 by omega,show n+2+1=n+3 by omega];have e8:min (Int.toNat 16) (IntKind.bits .i64)=16:=rfl;rw[e8,wrap64 (n:=((cf s n*256+cf s (n+1):Nat):Int)*2^16) (by omega) (by omega),wrap64 (by omega) (by omega)];congr 1;all_goals omega
theorem Vi (a b:Nat)(ha:a<9223372036854775808)(hb:b<9223372036854775808):BitVec.toNat (BitVec.ofInt (IntKind.bits .i64) (a:Int)|||BitVec.ofInt (IntKind.bits .i64) (b:Int))=a|||b:=by show(BitVec.ofInt 64 (a:Int)|||BitVec.ofInt 64 (b:Int)).toNat=_;rw[bP,bP,BitVec.toNat_or,ca,ca,cc (by omega),cc (by omega)]
theorem Pk (a b:Nat)(ha:a<9223372036854775808)(hb:b<9223372036854775808):BitVec.toNat (BitVec.ofInt (IntKind.bits .i64) (a:Int)&&&BitVec.ofInt (IntKind.bits .i64) (b:Int))=a&&&b:=by show(BitVec.ofInt 64 (a:Int)&&&BitVec.ofInt 64 (b:Int)).toNat=_;rw[bP,bP,BitVec.toNat_and,ca,ca,cc (by omega),cc (by omega)]
theorem Mw (a b:Nat)(ha:a<9223372036854775808)(hb:b<9223372036854775808):BitVec.toNat (BitVec.ofInt (IntKind.bits .i64) (a:Int)^^^BitVec.ofInt (IntKind.bits .i64) (b:Int))=a^^^b:=by show(BitVec.ofInt 64 (a:Int)^^^BitVec.ofInt 64 (b:Int)).toNat=_;rw[bP,bP,BitVec.toNat_xor,ca,ca,cc (by omega),cc (by omega)]
theorem Pj (a b:Nat)(ha:a<4294967296)(hb:b<4294967296):BitVec.toNat (BitVec.ofInt (IntKind.bits .u32) (a:Int)&&&BitVec.ofInt (IntKind.bits .u32) (b:Int))=a&&&b:=by show(BitVec.ofInt 32 (a:Int)&&&BitVec.ofInt 32 (b:Int)).toNat=_;rw[bP,bP,BitVec.toNat_and,ca,ca,cc (by omega),cc (by omega)]
theorem Mv (a b:Nat)(ha:a<4294967296)(hb:b<4294967296):BitVec.toNat (BitVec.ofInt (IntKind.bits .u32) (a:Int)^^^BitVec.ofInt (IntKind.bits .u32) (b:Int))=a^^^b:=by show(BitVec.ofInt 32 (a:Int)^^^BitVec.ofInt 32 (b:Int)).toNat=_;rw[bP,bP,BitVec.toNat_xor,ca,ca,cc (by omega),cc (by omega)]
theorem Oo (x k y:Nat)(hy:y<2^k)(h:2^k*x+y<9223372036854775808):au (BitVec.toNat (BitVec.ofInt (IntKind.bits .i64) ((2^k*x:Nat):Int)|||BitVec.ofInt (IntKind.bits .i64) (y:Int)):Int)=((2^k*x+y:Nat):Int):=by rw[Vi _ _ (by omega) (by omega),←Nat.two_pow_add_eq_or_of_lt hy];exact iQ h
def si (c:Nat):Nat:=if c%2=1 then(c/2)^^^3988292384 else c/2
def kL:Nat→Nat→Nat
 |0,c=>c
 |n+1,c=>si (kL n c)
def Su (c:Nat)(s:Bytes):Nat:=s.foldl (λc b=>kL 8 (c^^^b.toNat)) c
def H9 (s:Bytes):Int:=4294967295-(Su 4294967295 s:Int)
theorem sG {a b:Nat}(ha:a<4294967296)(hb:b<4294967296):a^^^b<4294967296:=Nat.xor_lt_two_pow (n:=32) ha hb
theorem Gm {c:Nat}(h:c<4294967296):si c<4294967296:=by unfold si;split;exact sG (by omega) (by omega);omega
theorem sQ {c:Nat}(h:c<4294967296):∀n,kL n c<4294967296
 |0=>h
 |n+1=>Gm (sQ h n)
theorem Js {R:Type}(k0:Int→Int→Option R)(k:Int→Option R)(hk:∀x y,k0 x y=k x)(v0:Bytes)(v4:Int)(c:Nat)(h:c<4294967296):bc (ib k0 v0 v4) fuel ((c:Int),0)=k (kL 8 c:Int):=by
 have hfu:=ek
 have key:=s9 (T:=ib k0 v0 v4) 8 (λ(_:Unit) i=>((kL i c:Int),(i:Int))) (λ_ s nx=>nx s) (λ_=>k (kL 8 c:Int))
  (λi s nx hi=>by
   have hc:=sQ h i;simp only[ib];have a1:=Pk (kL i c) 1 (by omega) (by omega);have x1:=Mw (kL i c/2) 3988292384 (by omega) (by omega);simp only[Int.natCast_one]at a1
   rw[aj (by omega),af,a1,Nat.and_one_is_mod,
    show min (Int.toNat 1) (IntKind.bits .i64)=1 from rfl,show Int.fdiv ((kL i c:Nat):Int) (2^1)=((kL i c/2:Nat):Int) from by rw[Int.fdiv_eq_ediv_of_nonneg _ (by omega)];rfl,
    show(3988292384:Int)=((3988292384:Nat):Int) from rfl,x1,
    iQ (n:=kL i c%2) (by omega),iQ (n:=(kL i c/2)^^^3988292384) (by have:=sG (a:=kL i c/2) (b:=3988292384) (by omega) (by omega);omega),aq (by omega),aq (by omega),wrap64 (n:=(i:Int)+1) (by omega) (by omega)]
   show _=nx ((si (kL i c):Int),((i+1:Nat):Int));unfold si;by_cases hp:kL i c%2=1;rw[hp,ar rfl];rfl;have h0:kL i c%2=0:=by omega
   rw[h0,aq (by omega)];rfl)
  (λs nx=>by simp only[ib];rw[ai (by omega),al,hk])
  fuel 0 () (by omega) (by omega)
 refine key.trans ?_;rfl
theorem Iw {R:Type}(k0:Int→Int→Option R)(k:Int→Option R)(hk:∀x y,k0 x y=k x)(v0:Bytes)(v4:Int)(c:Nat)(h:c<4294967296):bc (hR k0 v0 v4) fuel ((c:Int),0)=k (kL 8 c:Int):=by
 have hfu:=ek
 have key:=s9 (T:=hR k0 v0 v4) 8 (λ(_:Unit) i=>((kL i c:Int),(i:Int))) (λ_ s nx=>nx s) (λ_=>k (kL 8 c:Int))
  (λi s nx hi=>by
   have hc:=sQ h i;simp only[hR];have a1:=Pj (kL i c) 1 (by omega) (by omega);have x1:=Mv (kL i c/2) 3988292384 (by omega) (by omega);simp only[Int.natCast_one]at a1
   rw[aj (by omega),af,a1,Nat.and_one_is_mod,
    show min (Int.toNat 1) (IntKind.bits .u32)=1 from rfl,show Int.fdiv ((kL i c:Nat):Int) (2^1)=((kL i c/2:Nat):Int) from by rw[Int.fdiv_eq_ediv_of_nonneg _ (by omega)];rfl,
    show(3988292384:Int)=((3988292384:Nat):Int) from rfl,x1,
    tQ (n:=kL i c%2) (by omega),tQ (n:=(kL i c/2)^^^3988292384) (sG (by omega) (by omega)),aq (by omega),wrap64 (n:=(i:Int)+1) (by omega) (by omega)]
   show _=nx ((si (kL i c):Int),((i+1:Nat):Int));unfold si;by_cases hp:kL i c%2=1;rw[hp,ar rfl];rfl;have h0:kL i c%2=0:=by omega
   rw[h0,aq (by omega)];rfl)
  (λs nx=>by simp only[hR];rw[ai (by omega),al,hk])
  fuel 0 () (by omega) (by omega)
 refine key.trans ?_;rfl
theorem Lq (s:Bytes)(h:s.length≤1000000000):pW s=some (H9 s):=by
 unfold pW;have:=tw (T:=jL (λ(y4:Int) (_:Int)=>some (au (4294967295-y4))) s) s (λ(c:Nat) i=>((c:Int),(i:Int))) (λ_ c=>c<4294967296) (λb c=> .ok (kL 8 (c^^^b.toNat))) (λc=>some (4294967295-(c:Int))) (by omega) (λi hi c nx hI=>?hs) (λi hi c c' hI hg=>?hn) (λc nx hI=>?hf) 4294967295 (by omega)
 case hs=>
  have hb:=mY s[i]
  simp only[jL]
  rw[aj (by omega),cb hi,af,ae,iQ (n:=s[i].toNat) (by omega),Mw c s[i].toNat (by omega) (by omega)]
  have hx:=sG hI (show s[i].toNat<4294967296 by omega)
  rw[iQ (by omega),Js _ (λy=>nx (y,(i:Int)+1)) (λx y=>by rw[wrap64 (by omega) (by omega)]) _ _ _ hx];rfl
 case hn=>
  cases hg
  exact sQ (sG hI (by have:=mY s[i];omega)) 8
 case hf=>
  simp only[jL]
  rw[ai (by omega),al,wrap64 (by omega) (by omega)]
 rw[tu]at this;exact this
theorem not_xor (c:Nat)(h:c<4294967296):BitVec.toNat (BitVec.ofInt (IntKind.bits .u32) (IntKind.max .u32)^^^BitVec.ofInt (IntKind.bits .u32) (c:Int))=4294967295-c:=by show(BitVec.ofInt 32 4294967295^^^BitVec.ofInt 32 (c:Int)).toNat=_;rw[show BitVec.ofInt 32 4294967295=BitVec.allOnes 32 by decide,bP,BitVec.allOnes_xor,BitVec.toNat_not,ca,cc (show c<2^32 by omega)]
theorem KK (s:Bytes)(h:s.length≤1000000000):pH s=some (H9 s):=by
 unfold pH;have:=tw (T:=jA (λ(y4:Int) (_:Int)=>some (au (IntKind.wrap .u32 (BitVec.toNat (BitVec.ofInt (IntKind.bits .u32) (IntKind.max .u32)^^^BitVec.ofInt (IntKind.bits .u32) y4))))) s) s (λ(c:Nat) i=>((c:Int),(i:Int))) (λ_ c=>c<4294967296) (λb c=> .ok (kL 8 (c^^^b.toNat))) (λc=>some (4294967295-(c:Int))) (by omega) (λi hi c nx hI=>?hs) (λi hi c c' hI hg=>?hn) (λc nx hI=>?hf) 4294967295 (by omega)
 case hs=>
  have hb:=mY s[i]
  simp only[jA]
  rw[aj (by omega),cb hi,af,ae,tQ (n:=s[i].toNat) (by omega),Mv c s[i].toNat (by omega) (by omega)]
  have hx:=sG hI (show s[i].toNat<4294967296 by omega)
  rw[tQ hx,Iw _ (λy=>nx (y,(i:Int)+1)) (λx y=>by rw[wrap64 (by omega) (by omega)]) _ _ _ hx];rfl
 case hn=>
  cases hg
  exact sQ (sG hI (by have:=mY s[i];omega)) 8
 case hf=>
  simp only[jA]
  rw[ai (by omega),al,not_xor c hI,tQ (by omega),iQ (by omega)]
  congr 1
  all_goals omega
 rw[tu]at this;exact this
def cW (m:List Bytes):Bool:=m.all (λx=>(x.length:Int)==128)&&decide ((m.length:Int)≤64)
theorem sA (m:List Bytes)(h:m.length≤1000000000):jO m=some (cW m):=by
 unfold jO cW;rw[kB (hit:=some false) (fin:=some (decide ((m.length:Int)≤64))) (λx:Bytes=>(x.length:Int)==128) m (by omega) (λi hi nx=>?hs) (λnx=>?hf)]
 case hs=>
  simp only[jf]
  rw[aj (by omega),cb hi,wrap64 (by omega) (by omega)];rfl
 case hf=>
  simp only[jf]
  rw[ai (by omega)];rfl
 cases m.all (λx=>(x.length:Int)==128)<;>rfl
theorem DZ (m:List Bytes)(h:m.length≤1000000000):oM m=some (cW m):=sA m h
def wY:aR:=(0,0,0,false)
def wX (m:aR):Bool:=cL m.1 0 7&&(cL m.2.1 0 1023&&cL m.2.2.1 0 63)
def la (d p:Int)(m:aR):Bool:=(m.1==d)&&(m.2.1==p)
def wW (l:List aR)(i:Nat):Bool:=wX (l.getD i wY)&&(List.range i).all (λj=> !(la (l.getD i wY).1 (l.getD i wY).2.1 (l.getD j wY)))
def dy (l:List aR):Bool:=decide ((l.length:Int)≤96)&&(List.range l.length).all (wW l)
theorem AB (l:List aR)(h:l.length≤1000000000):kf l=some (dy l):=by
 unfold kf dy;rw[kC (hit:=some false) (fin:=some true) (wW l) l.length (by omega) (λi nx hi=>?hs) (λnx=>?hf)]
 case hs=>
  simp only[gP]
  rw[aj (by omega),cb hi,wrap64 (by omega) (by omega)]
  simp only[af,ae,cx,bk]
  rw[kC (hit:=some false) (fin:=nx ((i:Int)+1)) (λj=> !(la l[i].1 l[i].2.1 (l.getD j wY))) i (by omega) (λj nx hj=>?hs2) (λnx=>?hf2)]
  case hs2=>
   have hjl:j<l.length:=by omega
   simp only[fZ]
   rw[aj (by omega),cb hjl,wrap64 (by omega) (by omega)]
   simp only[af,ae,bk,di hjl,la,cF,dh];rfl
  case hf2=>
   simp only[fZ]
   rw[ai (by omega)];rfl
  simp only[wW,wX,di hi,cT]
  cases cL l[i].1 0 7<;>cases cL l[i].2.1 0 1023<;>cases cL l[i].2.2.1 0 63<;>cases (List.range i).all (λj=> !(la l[i].1 l[i].2.1 (l.getD j wY)))<;>rfl
 case hf=>
  simp only[gP]
  rw[ai (by omega)];rfl
 have e:decide ((l.length:Int)>96)= !decide ((l.length:Int)≤96):=by rw[bU];simp
 rw[e];cases decide ((l.length:Int)≤96)<;>cases (List.range l.length).all (wW l)<;>rfl
def FN (l:List aR)(d p:Int):Int:=match l.findIdx? (la d p)with|some i=>(i:Int)|none=> -1
theorem IB (l:List aR)(d p:Int)(h:l.length≤1000000000):jb l d p=some (FN l d p):=by
 unfold jb FN;rw[tZ (hit:=λi=>some i) (fin:=some (-1)) (la d p) l (by omega) (λi hi nx=>?hs) (λnx=>?hf)]
 case hs=>
  simp only[fW]
  rw[aj (by omega),cb hi,wrap64 (by omega) (by omega)]
  simp only[af,ae,bk,cF,la];rfl
 case hf=>
  simp only[fW]
  rw[ai (by omega)];rfl
 cases l.findIdx? (la d p)<;>rfl
theorem EC (l:List aR)(i:Nat)(hi:i<l.length):(FN l l[i].1 l[i].2.1==(i:Int))=(List.range i).all (λj=> !(la l[i].1 l[i].2.1 (l.getD j wY))):=by
 have hself:la l[i].1 l[i].2.1 l[i]=true:=by simp[la]
 unfold FN;cases hq:l.findIdx? (la l[i].1 l[i].2.1)with
 |none=>rw[List.findIdx?_eq_none_iff]at hq;rw[hq l[i] (List.getElem_mem hi)]at hself;cases hself
 |some k=>
  rw[List.findIdx?_eq_some_iff_getElem]at hq;obtain⟨hk,hpk,hlt⟩:=hq;rw[bU,aF];simp only[bN,aS,aC];constructor;intro e j hj;have hjl:j<l.length:=by omega
  rw[di hjl];have:=hlt j (by omega);simpa using this;intro hall;rcases Nat.lt_trichotomy k i with hki|hki|hki;have:=hall k hki;rw[di hk,hpk]at this;cases this;omega;have:=hlt i hki;rw[hself]at this;simp at this
theorem Ae (l:List aR)(h:l.length≤1000000000):jW l=some (dy l):=by
 unfold jW dy;rw[kC (hit:=some false) (fin:=some (decide ((l.length:Int)≤96))) (wW l) l.length (by omega) (λi nx hi=>?hs) (λnx=>?hf)]
 case hs=>
  simp only[gH]
  rw[aj (by omega),cb hi,wrap64 (by omega) (by omega)]
  simp only[af,ae,dr,bk,IB _ _ _ h,bne,EC l i hi,wW,wX,di hi]
  cases cL l[i].1 0 7<;>cases cL l[i].2.1 0 1023<;>cases cL l[i].2.2.1 0 63<;>cases (List.range i).all (λj=> !(la l[i].1 l[i].2.1 (l.getD j wY)))<;>rfl
 case hf=>
  simp only[gH]
  rw[ai (by omega)];rfl
 cases decide ((l.length:Int)≤96)<;>cases (List.range l.length).all (wW l)<;>rfl
def rP (n:Int)(l:List Int)(i:Nat):Bool:=cL (l.getD i 0) 0 (n-1)&& !((l.take i).contains (l.getD i 0))
def db (p:da):Bool:=cL p.1 0 130944&&(cL p.2.1 1 512&&(cL p.2.2.1 0 16&&(List.range p.2.2.2.length).all (rP p.2.2.1 p.2.2.2)))
def qs (n:Int)(l:List Int):List Bool:=(List.range n.toNat).map λk:Nat=>l.contains (k:Int)
theorem zc (n:Int)(l:List Int):(qs n l).length=n.toNat:=by simp[qs]
theorem rC (n:Int)(l:List Int)(k:Nat)(h:k<(qs n l).length):(qs n l)[k]=l.contains (k:Int):=by simp[qs]
theorem Ht (n:Int)(l:List Int)(k:Nat)(h:k<n.toNat):(qs n l).set k true=qs n (l++[(k:Int)]):=by
 apply List.ext_getElem;simp[qs];intro j h1 h2;rw[List.getElem_set];split;rename_i e;subst e;rw[rC];simp;rename_i e;rw[rC,rC];simp only[List.contains_append];have:([(k:Int)].contains (j:Int))=false:=by simp;omega
 rw[this];simp
theorem CE {T:(List Bool×Int→Option Bool)→List Bool×Int→Option Bool}(n:Int)(l:List Int)(hl:l.length≤1000000000)
 (hs:∀i (hi:i<l.length)(s:List Bool) nx,T nx (s,(i:Int))=ab (cond (!(cL l[i] 0 (n-1))) (some true) (ab (idx s l[i]) λx=>some x)) λq=>
  cond q (some false) (ab (idx s l[i]) λ_=>ab (idx s l[i]) λ_=>nx (s.set l[i].toNat true,((i+1:Nat):Int)))) (hf:∀s nx,T nx (s,(l.length:Int))=some true):
 bc T fuel (List.replicate n.toNat false,0)=some ((List.range l.length).all (rP n l)):=by
 have e0:(List.replicate n.toNat false,(0:Int))=(qs n (l.take 0),((0:Nat):Int)):=by congr 1;simp only[qs,List.take_zero,List.contains_nil,List.map_const',List.length_range]
 rw[e0,yy (hit:=some false) (fin:=some true) (λi=>(qs n (l.take i),(i:Int))) (rP n l) l.length (by omega) (λi nx hi hp=>?hs) (λ_ nx=>hf _ nx)]
 case hs=>
  rw[hs i hi]
  unfold rP
  rw[di hi]
  by_cases hin:cL l[i] 0 (n-1)=true
  ·have hb:=hin
   rw[bw]at hb
   obtain⟨k,hk⟩:∃k:Nat,l[i]=(k:Int):=⟨l[i].toNat,by omega⟩
   have hkn:k<(qs n (l.take i)).length:=by rw[zc];omega
   rw[hin,hk,cb hkn,rC]
   simp only[aA,al,ae,bW,dh,aV]
   rw[Ht _ _ _ (by rw[zc]at hkn;exact hkn),←hk,←List.take_succ_eq_append_getElem hi]
  ·have hin':cL l[i] 0 (n-1)=false:=by simpa using hin
   rw[hin'];rfl
 cases (List.range l.length).all (rP n l)<;>rfl
theorem tE (p:da)(h:p.2.2.2.length≤1000000000):kI p=some (db p):=by
 unfold kI db;simp only[cx,ae,bk];by_cases hn:cL p.2.2.1 0 16=true
 ·have hb:=hn;rw[bw]at hb;rw[ar (by omega),aN (by omega),CE p.2.2.1 p.2.2.2 h (λi hi s nx=>?hs) (λs nx=>?hf)]
  case hs=>
   simp only[lu]
   rw[aj (by omega),cb hi,wrap64 (n:=(i:Int)+1) (by omega) (by omega),wrap64 (n:=p.2.2.1-1) (by omega) (by omega)]
   simp only[af,ae,cx];rfl
  case hf=>
   simp only[lu]
   rw[ai (by omega)];rfl
  rw[hn];cases cL p.1 0 130944<;>cases cL p.2.1 1 512<;>rfl
 have hn':cL p.2.2.1 0 16=false:=by simpa using hn
 rw[hn'];cases cL p.1 0 130944<;>cases cL p.2.1 1 512<;>rfl
theorem sX (p:da)(h:p.2.2.2.length≤1000000000):iG p=some (db p):=by
 unfold iG db;simp only[dr,ae,bk];by_cases hn:cL p.2.2.1 0 16=true
 ·have hb:=hn;rw[bw]at hb;rw[ar (by omega),aN (by omega),CE p.2.2.1 p.2.2.2 h (λi hi s nx=>?hs) (λs nx=>?hf)]
  case hs=>
   simp only[kU]
   rw[aj (by omega),cb hi,wrap64 (n:=(i:Int)+1) (by omega) (by omega),wrap64 (n:=p.2.2.1-1) (by omega) (by omega)]
   simp only[af,ae,dr];rfl
  case hf=>
   simp only[kU]
   rw[ai (by omega)];rfl
  rw[hn];cases cL p.1 0 130944<;>cases cL p.2.1 1 512<;>rfl
 have hn':cL p.2.2.1 0 16=false:=by simpa using hn
 rw[hn'];cases cL p.1 0 130944<;>cases cL p.2.1 1 512<;>rfl
def ef (n:Int):Bool:=(n==2)||((n==4)||((n==8)||(n==16)))
theorem sq (n:Int):lE n=some (ef n):=by simp only[lE,bk,ae,ef,cT]
theorem qP (n:Int):jF n=some (ef n):=sq n
theorem eu {n:Int}:ef n=true↔n=2∨n=4∨n=8∨n=16:=by simp[ef]
theorem rH (x:Int)(k:Nat)(hk:k≤64):au x%(2^k:Int)=x%(2^k:Int):=by
 obtain⟨c,hc⟩:∃c:Int,(18446744073709551616:Int)=2^k*c:=⟨2^(64-k),by rw[←Int.pow_add,show k+(64-k)=64 by omega];rfl⟩
 have:au x=x∨∃q:Int,au x=x+18446744073709551616*q:=by
  right;simp only[au,dB,IntKind.wrap,IntKind.bits,IntKind.signed];simp;have h1:x=x%18446744073709551616+18446744073709551616*(x/18446744073709551616):=by omega
  split;exact⟨-(x/18446744073709551616)-1,by omega⟩;exact⟨-(x/18446744073709551616),by omega⟩
 rcases this with h|⟨q,h⟩;rw[h];rw[h,hc,Int.mul_assoc,Int.add_mul_emod_self_left]
theorem sK (x:Int)(k:Nat)(hk:k<63):((BitVec.ofInt (IntKind.bits .i64) x&&&BitVec.ofInt (IntKind.bits .i64) (2^k-1)).toNat:Int)=x%2^k:=by
 have h2:(2:Int)^k≤2^62:=by have:(2:Nat)^k≤2^62:=Nat.pow_le_pow_right (by omega) (by omega);exact_mod_cast this
 have h0:(1:Int)≤2^k:=by have:1≤(2:Nat)^k:=Nat.one_le_two_pow;exact_mod_cast this
 have hm:(BitVec.ofInt (IntKind.bits .i64) (2^k-1)).toNat=2^k-1:=by
  show(BitVec.ofInt 64 (2^k-1)).toNat=2^k-1;rw[BitVec.toNat_ofInt,Int.emod_eq_of_lt (by omega) (by omega)];have:((2:Int)^k-1)=((2^k-1:Nat):Int):=by have:1≤(2:Nat)^k:=Nat.one_le_two_pow;push_cast [this];rfl
  rw[this];rfl
 rw[BitVec.toNat_and,hm,Nat.and_two_pow_sub_one_eq_mod];show(((BitVec.ofInt 64 x).toNat%2^k:Nat):Int)=x%2^k;rw[BitVec.toNat_ofInt];have hx:0≤x%18446744073709551616:=by omega
 have e:(((x%18446744073709551616).toNat%2^k:Nat):Int)=(x%18446744073709551616)%2^k:=by push_cast;rw[Int.toNat_of_nonneg hx]
 refine e.trans ?_;exact Int.emod_emod_of_dvd x ⟨2^(64-k),by rw[←Int.pow_add,show k+(64-k)=64 by omega];rfl⟩
theorem GX (x n:Int)(h0:0<n)(h1:n≤4611686018427387904):fD x n=some (x%n):=by
 unfold fD;have:=dF x (show n≠0 by omega);have:=ed x h0;have hn:(n.natAbs:Int)=n:=by omega
 rw[aq (by omega),Int.tmod_eq_emod];split;rw[ai (by omega)];simp;rw[aj (by omega),wrap64 (by omega) (by omega)];simp only[af,hn];congr 1;omega
def dK (r:(Int×Int×Int×Int)):Int:=if ef r.2.1 then(r.2.2.2-r.2.2.1)%(2*r.2.1) else 0
theorem C4 (r:(Int×Int×Int×Int)):jR r=some (dK r):=by
 unfold jR dK;rw[sq,ae];cases hs:ef r.2.1 with
 |false=>rfl
 |true=>
  simp only[aA,al,aU];congr 1;rcases eu.1 hs with h|h|h|h<;>rw[h];have e:au (au (2*2)-1)=2^2-1:=by decide
  rw[e,sK _ 2 (by omega),rH _ 2 (by omega),wrap64 (by omega) (by omega)];rfl;have e:au (au (2*4)-1)=2^3-1:=by decide
  rw[e,sK _ 3 (by omega),rH _ 3 (by omega),wrap64 (by omega) (by omega)];rfl;have e:au (au (2*8)-1)=2^4-1:=by decide
  rw[e,sK _ 4 (by omega),rH _ 4 (by omega),wrap64 (by omega) (by omega)];rfl;have e:au (au (2*16)-1)=2^5-1:=by decide
  rw[e,sK _ 5 (by omega),rH _ 5 (by omega),wrap64 (by omega) (by omega)];rfl
theorem IG (r:(Int×Int×Int×Int)):l6 r=some (dK r):=by unfold l6 dK;rw[qP,ae];cases hs:ef r.2.1 with|false=>rfl|true=>simp only[aA,al,aU];have hb:=eu.1 hs;rw[wrap64 (n:=2*r.2.1) (by omega) (by omega)];have a1:=dF r.2.2.2 (show 2*r.2.1≠0 by omega);have a2:=ed r.2.2.2 (show 0<2*r.2.1 by omega);have a3:=dF r.2.2.1 (show 2*r.2.1≠0 by omega);have a4:=ed r.2.2.1 (show 0<2*r.2.1 by omega);simp only[GX _ (2*r.2.1) (show 0<2*r.2.1 by omega) (by omega),ae];rw[wrap64 (by omega) (by omega),←Int.sub_emod]
def dP (r:(Int×Int×Int×Int)):Bool:=cL r.1 0 130944&&(ef r.2.1&&(cL r.2.2.1 0 (2*r.2.1-1)&&(cL r.2.2.2 0 (2*r.2.1-1)&&decide (dK r≤r.2.1))))
theorem uE {n:Int}(h:ef n=true):au (au (2*n)-1)=2*n-1:=by have:=eu.1 h;rw[wrap64 (n:=2*n) (by omega) (by omega),wrap64 (by omega) (by omega)]
theorem xy (r:(Int×Int×Int×Int)):kJ r=some (dP r):=by unfold kJ dP;simp only[cx,sq,C4,ae,bk,cF];cases hs:ef r.2.1 with|false=>rfl|true=>rw[uE hs]
theorem BO (r:(Int×Int×Int×Int)):mD r=some (dP r):=by unfold mD dP;simp only[dr,qP,IG,ae,bk,cF];cases hs:ef r.2.1 with|false=>rfl|true=>rw[uE hs]
theorem Ef (p:da)(h:p.2.2.2.length≤1000000000):nw p=some p:=by unfold nw;rw[aN (by simp;omega)];rfl
theorem qA (l:List Int)(h:l.length≤1000000000):hY l=some l:=by unfold hY;rw[aN (by simp;omega)];rfl
theorem Bb (p:da)(h:p.2.2.2.length≤1000000000):jD p=some p:=by unfold jD;rw[qA _ h];rfl
def pP (p:da)(l:List Int):da:=(p.1,p.2.1,p.2.2.1,p.2.2.2++l)
def sV (p:da)(l:List Int):Bool:=db p&&db (pP p l)
def Gv (p:da)(l:List Int):da×Bool:=bif sV p l then(pP p l,true) else(p,false)
theorem Ix (p:da)(l:List Int)(h:p.2.2.2.length+l.length≤1000000000):eU p l=some (Gv p l):=by unfold eU;rw[Bb p (by omega),ae,aN (by omega),sX p (by omega)];rw[sX (p.1,p.2.1,p.2.2.1,p.2.2.2++l) (by simp;omega)];simp only[ae,bk,Gv,sV];show _=some (bif db p&&db (p.1,p.2.1,p.2.2.1,p.2.2.2++l) then _ else _);cases db p<;>cases db (p.1,p.2.1,p.2.2.1,p.2.2.2++l)<;>rfl
theorem MX (p:da)(l:List Int):(Gv p l).2=sV p l:=by unfold Gv;cases sV p l<;>rfl
def lh (n:Int)(s:qw):Bool:=cL s.2.1 1 n&&cL s.1 0 65535
def ee (l:List qw):List Int:=l.flatMap (·.2.2)
def iT (l:List qw):Int:=(l.map (·.2.1)).sum
def OE (t:kN):Bool:=dP t.1&&(db t.2.1&&(cL t.2.2.2 0 65535&&(t.2.2.1.all (lh t.1.2.1)&&(sV t.2.1 (ee t.2.2.1)&&decide (iT t.2.2.1≤t.1.2.1)))))
theorem sP (n:Int):∀l:List qw,l.all (lh n)=true→0≤iT l
 |[],_=>by simp[iT]
 |x::l,h=>by simp only[a6,aa]at h;have:=sP n l h.2;have hx:=h.1;unfold lh at hx;simp only[aa,bw]at hx;simp only[iT,bX,List.sum_cons]at this⊢;omega
theorem yL (p:da)(n:Int)(hn:n≤16)(fin:Int×List Int→Option Bool)(hfin:∀s:Int×List Int,p.2.2.2.length+s.2.length≤1000000000→fin s=some (sV p s.2)):
 ∀(l:List qw)(left:Int)(acc:List Int),0≤left→left≤n→p.2.2.2.length+(acc.length+(ee l).length)≤1000000000→
 qn (λx (s:Int×List Int) k=>cond (decide (x.2.1<1)||(decide (x.2.1>s.1)|| !(cL x.1 0 65535))) (some false) (room (s.2.length+x.2.2.length) (k (au (s.1-x.2.1),s.2++x.2.2)))) fin l (left,acc)
  =some (l.all (lh n)&&(sV p (acc++ee l)&&decide (iT l≤left)))
 |[],left,acc,h0,h1,h2=>by rw[qn,hfin _ (by simp[ee]at h2;exact h2)];simp[ee,iT,h0]
 |x::l,left,acc,h0,h1,h2=>by
  have hb:ee (x::l)=x.2.2++ee l:=by simp[ee]
  have hc:iT (x::l)=x.2.1+iT l:=by simp only[iT,bX,List.sum_cons]
  rw[hb,ah]at h2;rw[qn,a6,hb,hc];by_cases c1:x.2.1<1;have e:lh n x=false:=by unfold lh cL;rw[ai (show¬1≤x.2.1 by omega)];rfl
  rw[e,aj c1];rfl;rw[ai c1];by_cases c2:x.2.1>left;rw[aj c2];simp only[Bool.or_true,cJ,eH,af];cases ha:l.all (lh n)with|false=>simp|true=>have:=sP n l ha;rw[ai (show¬x.2.1+iT l≤left by omega)];simp
  rw[ai c2];have e:lh n x=cL x.1 0 65535:=by have:cL x.2.1 1 n=true:=bw.2 ⟨by omega,by omega⟩;unfold lh;rw[this];rfl
  rw[e];cases cL x.1 0 65535 with
  |false=>rfl
  |true=>
   simp only[cJ,aA,al,bW];rw[aN (by omega),wrap64 (by omega) (by omega),yL p n hn fin hfin l _ _ (by omega) (by omega) (by rw[ah];omega),ay];have e:decide (iT l≤left-x.2.1)=decide (x.2.1+iT l≤left):=by rw[bU];simp;omega
   rw[e]
theorem M0 (t:kN)(h1:t.2.2.1.length≤1000000000)(h2:t.2.1.2.2.2.length+(ee t.2.2.1).length≤1000000000):rr t=some (OE t):=by
 unfold rr OE;simp only[BO,sX _ (show t.2.1.2.2.2.length≤1000000000 by omega),dr,ae,bk];cases hr:dP t.1 with
 |false=>rfl
 |true=>
  have hn:0≤t.1.2.1∧t.1.2.1≤16:=by unfold dP at hr;simp only[aa]at hr;have:=eu.1 hr.2.1;omega
  have hfu:=ek;have key:=ru (R:=Bool) (T:=kY (λ(_:Int) (y9:List Int) (_:Int)=>ab (eU t.2.1 y9) λr11=>some r11.2) (λ(y12:Bool) (_:Int) (_:List Int) (_:Int)=>some y12) false t.2.2.1 ((List.length t.2.2.1:Int)) t) t.2.2.1 (λ(s:Int×List Int) i=>(s.1,s.2,(i:Int))) (λx (s:Int×List Int) k=>cond (decide (x.2.1<1)||(decide (x.2.1>s.1)|| !(cL x.1 0 65535))) (some false) (room (s.2.length+x.2.2.length) (k (au (s.1-x.2.1),s.2++x.2.2)))) (λs=>ab (eU t.2.1 s.2) λr12=>some r12.2) (λi hi s nx=>by simp only[kY];rw[aj (by omega),cb hi,wrap64 (n:=(i:Int)+1) (by omega) (by omega)];simp only[af,ae,dr,bk,cT];rfl) (λs nx=>by simp only[kY];rw[ai (by omega)];rfl) fuel 0 (t.1.2.1,([]:List Int)) (by omega) (by omega);rw[cK,yL t.2.1 t.1.2.1 (by omega) _ (λs hs=>by rw[Ix _ _ hs,ae,MX]) _ _ _ (by omega) (by omega) (by simpa using h2)]at key;cases db t.2.1 with|false=>rfl|true=>cases cL t.2.2.2 0 65535 with|false=>rfl|true=>refine key.trans ?_;simp
def jK (s:cr):Bool:=cL s.2.1 0 65535&&(cL s.2.2.1 0 65535&&(!decide ((List.length s.2.2.2.2.2.2.2:Int)>320)&&
 (bif s.1==17 then(s.2.2.2.1==0)&&((s.2.2.2.2.1==0)&&((s.2.2.2.2.2.1==0)&&(s.2.2.2.2.2.2.1==0)))
  else(s.1==6)&&(cL s.2.2.2.1 0 4294967295&&(cL s.2.2.2.2.1 0 4294967295&&(cL s.2.2.2.2.2.1 0 31&&cL s.2.2.2.2.2.2.1 0 65535))))))
theorem FZ (s:cr):iP s=some (jK s):=by simp only[iP,cx,ae,bk,cF,cT,cN,Bool.not_or,dh,Bool.and_assoc,jK]
theorem Fz (s:cr):iH s=some (jK s):=by simp only[iH,dr,ae,bk,cF,cT,cN,Bool.not_or,dh,Bool.and_assoc,jK];by_cases h:s.1=17;rw[h];rfl;rw[show(s.1==17)=false from by simpa using h];cases s.1==6<;>rfl
def ub (f:Int):Bool:=(f==16)||(f==17)||(f==24)||(f==25)
theorem wy (f:Int)(h:cL f 0 31=true):(au (BitVec.toNat (BitVec.ofInt (IntKind.bits .i64) f&&&~~~ BitVec.ofInt (IntKind.bits .i64) 9))==16)=ub f:=by
 have key:∀k:Fin 32,(au (BitVec.toNat (BitVec.ofInt (IntKind.bits .i64) (k.val:Int)&&&~~~ BitVec.ofInt (IntKind.bits .i64) 9))==16)=ub (k.val:Int):=by decide
 rw[bw]at h;have:=key ⟨f.toNat,by omega⟩;rwa[show((f.toNat:Nat):Int)=f by omega]at this
theorem DS (f:Int)(h:cL f 0 31=true):k7 f=some (ub f):=by
 have key:∀k:Fin 32,((au (BitVec.toNat (BitVec.ofInt (IntKind.bits .i64) (k.val:Int)&&&BitVec.ofInt (IntKind.bits .i64) 16)) !=0)&&(au (BitVec.toNat (BitVec.ofInt (IntKind.bits .i64) (k.val:Int)&&&~~~ BitVec.ofInt (IntKind.bits .i64) 25))==0))=ub (k.val:Int):=by decide
 rw[bw]at h;have:=key ⟨f.toNat,by omega⟩;rw[show((f.toNat:Nat):Int)=f by omega]at this;simp only[k7,bk,ae,cF];rw[this]
theorem uC {s:cr}(h:jK s=true)(h6:(s.1==6)=true):cL s.2.2.2.2.2.1 0 31=true:=by
 have:s.1=6:=by simpa using h6
 unfold jK at h;rw[this]at h;simp only[aa]at h;have h:=h.2.2.2;simp at h;exact h.2.2.1
def jr (p:aE):Bool:=cL p.1 0 281474976710655&&(cL p.2.1 0 281474976710655&&(cL p.2.2.1 (-1) 4095&&(cL p.2.2.2.1 0 255&&(cL p.2.2.2.2.2.1 0 255&&(cL p.2.2.2.2.1 0 65535&&(cL p.2.2.2.2.2.2.1 0 4294967295&&(cL p.2.2.2.2.2.2.2.1 0 4294967295&&jK p.2.2.2.2.2.2.2.2)))))))
def dp (p:aE):Bool:=jr p&&(decide ((List.length p.2.2.2.2.2.2.2.2.2.2.2.2.2.2.2:Int)≤128)||(p.2.2.2.2.2.2.2.2.1==6)&&ub p.2.2.2.2.2.2.2.2.2.2.2.2.2.1)
theorem pb {p:aE}(h:jr p=true):jK p.2.2.2.2.2.2.2.2=true:=by unfold jr at h;simp only[aa]at h;exact h.2.2.2.2.2.2.2.2
theorem rD (p:aE):gS p=some (dp p):=by unfold gS dp;simp only[cx,FZ,ae,bk,cF,cT,cN,Bool.not_or,dh];rw[show(cL p.1 0 281474976710655&&(cL p.2.1 0 281474976710655&&(cL p.2.2.1 (-1) 4095&&(cL p.2.2.2.1 0 255&&(cL p.2.2.2.2.2.1 0 255&&(cL p.2.2.2.2.1 0 65535&&(cL p.2.2.2.2.2.2.1 0 4294967295&&(cL p.2.2.2.2.2.2.2.1 0 4294967295&&jK p.2.2.2.2.2.2.2.2))))))))=jr p from rfl];cases hh:jr p with|false=>rfl|true=>cases h6:p.2.2.2.2.2.2.2.2.1==6 with|false=>simp|true=>rw[wy _ (uC (pb hh) h6)];simp[Bool.or_comm]
theorem rp (p:aE):gJ p=some (dp p):=by
 unfold gJ dp;simp only[dr,Fz,ae];have e:∀X:Option Bool,(cond (cL p.1 0 281474976710655) (cond (cL p.2.1 0 281474976710655) (cond (cL p.2.2.1 (-1) 4095) (cond (cL p.2.2.2.1 0 255) (cond (cL p.2.2.2.2.2.1 0 255) (cond (cL p.2.2.2.2.1 0 65535) (cond (cL p.2.2.2.2.2.2.1 0 4294967295) (cond (cL p.2.2.2.2.2.2.2.1 0 4294967295) (cond (jK p.2.2.2.2.2.2.2.2) X (some false)) (some false)) (some false)) (some false)) (some false)) (some false)) (some false)) (some false)) (some false))=cond (jr p) X (some false):=by
  intro X;unfold jr;cases cL p.1 0 281474976710655 with|false=>rfl|true=>?_
  cases cL p.2.1 0 281474976710655 with|false=>rfl|true=>?_
  cases cL p.2.2.1 (-1) 4095 with|false=>rfl|true=>?_
  cases cL p.2.2.2.1 0 255 with|false=>rfl|true=>?_
  cases cL p.2.2.2.2.2.1 0 255 with|false=>rfl|true=>?_
  cases cL p.2.2.2.2.1 0 65535 with|false=>rfl|true=>?_
  cases cL p.2.2.2.2.2.2.1 0 4294967295 with|false=>rfl|true=>?_
  cases cL p.2.2.2.2.2.2.2.1 0 4294967295<;>rfl
 rw[e];cases hh:jr p with|false=>rfl|true=>cases h6:p.2.2.2.2.2.2.2.2.1==6 with|false=>simp[bk]|true=>rw[DS _ (uC (pb hh) h6)];simp only[af,ae,bk,cT,bW]
def pS (q:(Int×Int×Int)):Bool:=cL q.1 0 130944&&(ef q.2.1&&cL q.2.2 0 (au ((au (2*q.2.1))-1)))
theorem GD (q:(Int×Int×Int)):kW q=some (pS q):=by simp only[kW,dr,qP,ae,bk,cF,pS]
def OC:E7:=((0,0,0,0,0,0,0,0,0,0,0,0,0,0,0,([]:Bytes)),0,0)
def F5 (p:E7):Bool:=(p.1.1==0)&&((p.1.2.1==0)&&((p.1.2.2.1==0)&&((p.1.2.2.2.1==0)&&((p.1.2.2.2.2.1==0)&&((p.1.2.2.2.2.2.1==0)&&((p.1.2.2.2.2.2.2.1==0)&&((p.1.2.2.2.2.2.2.2.1==0)&&((p.1.2.2.2.2.2.2.2.2.1==0)&&((p.1.2.2.2.2.2.2.2.2.2.1==0)&&((p.1.2.2.2.2.2.2.2.2.2.2.1==0)&&((p.1.2.2.2.2.2.2.2.2.2.2.2.1==0)&&((p.1.2.2.2.2.2.2.2.2.2.2.2.2.1==0)&&((p.1.2.2.2.2.2.2.2.2.2.2.2.2.2.1==0)&&((p.1.2.2.2.2.2.2.2.2.2.2.2.2.2.2.1==0)&&((p.1.2.2.2.2.2.2.2.2.2.2.2.2.2.2.2==([]:Bytes))&&((p.2.1==0)&&((p.2.2==0)&&true)))))))))))))))))
def Kn (r:dN):Bool:=(dP r.1&&(pS r.2.1&&(pS r.2.2.1&&((r.2.1.1==r.2.2.1.1)&&((r.2.1.2.1==r.2.2.1.2.1)&&cL r.2.2.2.2.2 0 1000000000000)))))&&
 (bif r.2.2.2.2.1 then dp r.2.2.2.1.1&&(cL r.2.2.2.1.2.1 0 320&&cL r.2.2.2.1.2.2 1 320) else F5 r.2.2.2.1)
theorem JF (p:E7):F5 p=true↔p=OC:=by obtain⟨⟨a,b,c,d,e,f,g,h,i,j,k,l,m,n,o,q⟩,r,s⟩:=p;simp only[F5,OC,Bool.and_true,aa,aS,Prod.mk.injEq,and_assoc]
theorem MZ (r:dN):rq r=some (Kn r):=by unfold rq Kn F5;simp only[BO,GD,dr,rp,ae,bk,cF,cT,cN,Bool.not_or,dh,bne];cases r.2.2.2.2.1<;>rfl
def iz (v:Vector):Bool:=(ic v).getD false
theorem xA (v:Vector):ic v=some (iz v):=by
 have:∃b,ic v=some b:=by simp only[ic,oI,cx,ae,bk];exact⟨_,rfl⟩
 obtain⟨b,hb⟩:=this;rw[iz,hb];rfl
theorem D5 (v:Vector):oO v=some (iz v):=xA v
theorem uy {α:Type}(l:List α)(p:α→Bool):(List.range l.length).all (λi=>l[i]?.all p)=l.all p:=by rw[bU,aF,aF];constructor;intro h x hx;obtain⟨i,hi,rfl⟩:=List.getElem_of_mem hx;have:=h i (bN.2 hi);rwa[List.getElem?_eq_getElem hi]at this;intro h i hi;rw[List.getElem?_eq_getElem (bN.1 hi)];exact h _ (List.getElem_mem _)
theorem E9 {α:Type}(l:List α)(p q:α→Bool):l.all (λx=>p x&&q x)=(l.all p&&l.all q):=by induction l with|nil=>rfl|cons x l ih=>simp only[a6,ih];cases p x<;>cases q x<;>cases l.all p<;>rfl
def fA (h:Host):List Int:=[h.2.2.2.2.2.2.2.2.2.2.2.2.2.2.1,h.2.2.2.2.2.2.2.2.2.2.2.2.2.2.2.1,h.2.2.2.2.2.2.2.2.2.2.2.2.2.2.2.2.1,h.2.2.2.2.2.2.2.2.2.2.2.2.2.2.2.2.2.1,h.2.2.2.2.2.2.2.2.2.2.2.2.2.2.2.2.2.2]
def tc (h:Host):Bool:=cL (h.2.2.2.1.length:Int) 1 2&&(((h.2.2.2.2.1.length:Int)==(h.2.2.2.1.length:Int))&&(((h.2.2.2.2.2.1.length:Int)==(h.2.2.2.1.length:Int))&&((h.2.2.2.2.2.2.1.length:Int)==(h.2.2.2.1.length:Int))))
def FR (h:Host):Bool:=h.2.2.2.1.all Kn&&(h.2.2.2.2.1.all db&&h.2.2.2.2.2.1.all iz)
def uR (h:Host):Bool:=cW h.1&&(dy h.2.1&&(OE h.2.2.1&&(iV h.2.2.2.2.2.2.2.1&&(tc h&&(dM h.2.2.2.2.2.2.2.2.1 (h.2.2.2.1.length:Int)&&(FR h&&(fA h).all (λx=>cL x 0 1000000000000)))))))
structure Df (h:Host):Prop where
 a1:h.1.length≤1000000000
 a2:h.2.1.length≤1000000000
 t1:h.2.2.1.2.2.1.length≤1000000000
 t2:h.2.2.1.2.1.2.2.2.length+(ee h.2.2.1.2.2.1).length≤1000000000
 f1:h.2.2.2.2.2.2.2.1.2.2.length≤1000000000
 s1:h.2.2.2.2.2.2.2.2.1.1.length≤1000000000
 s2:h.2.2.2.2.2.2.2.2.1.2.1.length≤1000000000
 s3:h.2.2.2.2.2.2.2.2.1.2.2.2.length≤1000000000
 p1:∀p∈h.2.2.2.2.1,p.2.2.2.length≤1000000000
theorem vB {h:Host}(l:tc h=true):h.2.2.2.1.length≤2∧h.2.2.2.2.1.length=h.2.2.2.1.length∧h.2.2.2.2.2.1.length=h.2.2.2.1.length∧h.2.2.2.2.2.2.1.length=h.2.2.2.1.length:=by unfold tc at l;simp only[aa,bw,aS]at l;omega
theorem Hr {R:Type}{T:(Int→Option R)→Int→Option R}{fin hit:Option R}{h:Host}(l:tc h=true)(hs:∀i (hi:i<h.2.2.2.1.length) nx,T nx (i:Int)=cond (!(Kn h.2.2.2.1[i]&&(db (h.2.2.2.2.1[i]'((vB l).2.1▸hi))&&iz (h.2.2.2.2.2.1[i]'((vB l).2.2.1▸hi))))) hit (nx ((i+1:Nat):Int)))(hf:∀nx,T nx (h.2.2.2.1.length:Int)=fin):bc T fuel 0=cond (FR h) fin hit:=by
 have hl:=vB l;rw[kC (fin:=fin) (hit:=hit) (λi=>h.2.2.2.1[i]?.all Kn&&(h.2.2.2.2.1[i]?.all db&&h.2.2.2.2.2.1[i]?.all iz)) h.2.2.2.1.length (by omega) ?hs hf]
 case hs=>
  intro i nx hi
  rw[hs i hi,List.getElem?_eq_getElem hi,List.getElem?_eq_getElem (hl.2.1▸hi),List.getElem?_eq_getElem (hl.2.2.1▸hi)]
  rfl
 rw[E9,E9,uy];have e1:=uy h.2.2.2.2.1 db;have e2:=uy h.2.2.2.2.2.1 iz;rw[hl.2.1]at e1;rw[hl.2.2.1]at e2;rw[e1,e2];rfl
theorem Bc {R:Type}{T:(Int→Option R)→Int→Option R}{fin hit:Option R}(h:Host)(hs:∀i (hi:i<(fA h).length) nx,T nx (i:Int)=cond (!(cL (fA h)[i] 0 1000000000000)) hit (nx ((i+1:Nat):Int)))(hf:∀nx,T nx ((fA h).length:Int)=fin):bc T fuel 0=cond ((fA h).all (λx=>cL x 0 1000000000000)) fin hit:=kB (λx=>cL x 0 1000000000000) (fA h) (by simp[fA]) hs hf
theorem Iz (h:Host)(z:Df h):ou h=some (uR h):=by
 unfold ou uR;simp only[DZ _ z.a1,Ae _ z.a2,M0 _ z.t1 z.t2,wK _ z.f1,sZ _ _ z.s1 z.s2 z.s3,dr,ae,bk];cases cW h.1 with|false=>rfl|true=>?_
 cases dy h.2.1 with|false=>rfl|true=>?_
 cases OE h.2.2.1 with|false=>rfl|true=>?_
 cases iV h.2.2.2.2.2.2.2.1 with|false=>rfl|true=>?_
 simp only[aA,al,cT,bne];rw[show(!cL (h.2.2.2.1.length:Int) 1 2||(!((h.2.2.2.2.1.length:Int)==(h.2.2.2.1.length:Int))||(!((h.2.2.2.2.2.1.length:Int)==(h.2.2.2.1.length:Int))|| !((h.2.2.2.2.2.2.1.length:Int)==(h.2.2.2.1.length:Int)))))= !(tc h) by unfold tc;simp only[Bool.not_and]];cases hl:tc h with|false=>rfl|true=>?_
 have hL:=vB hl;simp only[aA,al,bW];rw[Hr (h:=h) (hit:=some false) (fin:=some ((fA h).all (λx=>cL x 0 1000000000000)&&dM h.2.2.2.2.2.2.2.2.1 (h.2.2.2.1.length:Int))) hl ?hs ?hf]
 case hs=>
  intro i hi nx
  simp only[kT]
  rw[aj (by omega),cb hi,cb (hL.2.1▸hi),cb (hL.2.2.1▸hi),wrap64 (n:=(i:Int)+1) (by omega) (by omega)]
  simp only[af,ae,MZ,D5,sX _ (z.p1 _ (List.getElem_mem _)),bk,cT,Bool.not_and]
  rfl
 case hf=>
  intro nx
  simp only[kT]
  rw[ai (by omega)]
  simp only[al]
  refine(Bc (fin:=some (dM h.2.2.2.2.2.2.2.2.1 (h.2.2.2.1.length:Int))) (hit:=some false) h ?_ ?_).trans ?_
  ·intro i hi nx
   simp only[jV]
   have hi':i<5:=hi
   change (bif decide ((i:Int)<5) then ab (idx (fA h) (i:Int)) _ else _)=_
   rw[aj (by omega),cb hi,wrap64 (n:=(i:Int)+1) (by omega) (by omega),ae,dr]
   rfl
  ·intro nx
   simp only[jV]
   rw[ai (by simp[fA])];rfl
  ·cases (fA h).all (λx=>cL x 0 1000000000000)<;>rfl
 cases FR h<;>cases dM h.2.2.2.2.2.2.2.2.1 (h.2.2.2.1.length:Int)<;>cases (fA h).all (λx=>cL x 0 1000000000000)<;>rfl
def Ad (p:aE):Int×Int×Int×Int×Int:=(p.2.2.2.2.2.2.2.2.1,p.2.2.2.2.2.2.1,p.2.2.2.2.2.2.2.1,p.2.2.2.2.2.2.2.2.2.1,p.2.2.2.2.2.2.2.2.2.2.1)
theorem Jw (p:aE):qW p=some (Ad p):=rfl
def Gd (a b:Int):Int:=(fG a b).getD 0
theorem vF (a b:Int):fG a b=some (Gd a b):=by
 unfold Gd;have:∃x,fG a b=some x:=by simp only[fG,cx,ae];cases cL a 0 65535<;>cases cL b 0 65535<;>cases decide (au (a+b)>65535)<;>exact⟨_,rfl⟩
 obtain⟨x,hx⟩:=this;rw[hx];rfl
theorem BN (a b:Int):na a b=some (Gd a b):=vF a b
theorem Kr {a b:Int}(h:0≤a∧a≤65535)(k:0≤b∧b≤65535):0≤Gd a b∧Gd a b≤65535:=by have e:=vF a b;simp only[fG,cx,ae,bw.2 h,bw.2 k,aA,al]at e;rw[wrap64 (n:=a+b) (by omega) (by omega)]at e;by_cases hc:a+b>65535;rw[aj hc,af,wrap64 (by omega) (by omega)]at e;rw[←bV e];omega;rw[ai hc,al]at e;rw[←bV e];omega
def sw (s:Bytes):Nat→Int
 |0=>0
 |j+1=>Gd (sw s j) ((cf s (2*j)*256+cf s (2*j+1):Nat):Int)
theorem JG (s:Bytes):∀j,0≤sw s j∧sw s j≤65535
 |0=>by simp[sw]
 |j+1=>by have b0:=dx s (2*j);have b1:=dx s (2*j+1);exact Kr (JG s j) (by omega)
theorem vU {s:Bytes}{i:Nat}(h:s.length≤i):cf s i=0:=by unfold cf;rw[List.getD_eq_getElem?_getD,List.getElem?_eq_none h];rfl
theorem Lu (s:Bytes)(h:s.length≤1000000000):mr s=some (sw s ((s.length+1)/2)):=by
 unfold mr;refine jo (λj=>(sw s j,((2*j:Nat):Int))) ((s.length+1)/2) (by omega) (λj nx hj=>?_) (λnx=>?_);have b0:=dx s (2*j);have b1:=dx s (2*j+1);obtain⟨x,hx,ex⟩:=pe (s:=s) (i:=2*j) (by omega);simp only[jj];rw[aj (by omega),af,hx,ae,aq (by omega),wrap64 (n:=((2*j:Nat):Int)+1) (by omega) (by omega),wrap64 (n:=((2*j:Nat):Int)+2) (by omega) (by omega),ex,iQ (by omega)];have e8:min (Int.toNat 8) (IntKind.bits .i64)=8:=rfl;have en:((2*j:Nat):Int)+2=((2*(j+1):Nat):Int):=by omega
 rw[e8,wrap64 (n:=((cf s (2*j):Nat):Int)*2^8) (by omega) (by omega)];by_cases hc:2*j+1<s.length;obtain⟨y,hy,ey⟩:=pe (s:=s) (i:=2*j+1) hc;rw[aj (by omega),af,show((2*j:Nat):Int)+1=((2*j+1:Nat):Int) by omega,hy,ae,ey,iQ (n:=cf s (2*j+1)) (by omega),wrap64 (by omega) (by omega),vF,ae,en,show((cf s (2*j):Nat):Int)*2^8+((cf s (2*j+1):Nat):Int)=((cf s (2*j)*256+cf s (2*j+1):Nat):Int) by omega];rfl;have hz:=vU (s:=s) (i:=2*j+1) (by omega);rw[ai (by omega),al,vF,ae,en,show((cf s (2*j):Nat):Int)*2^8=((cf s (2*j)*256+cf s (2*j+1):Nat):Int) by rw[hz];omega];rfl;simp only[jj];rw[ai (by omega)];rfl
theorem KQ (s:Bytes)(h:s.length≤1000000000):l8 s=some (sw s ((s.length+1)/2)):=by
 unfold l8;refine jo (λj=>(sw s j,((2*j:Nat):Int))) ((s.length+1)/2) (by omega) (λj nx hj=>?_) (λnx=>?_);have b0:=dx s (2*j);have b1:=dx s (2*j+1);obtain⟨x,hx,ex⟩:=pe (s:=s) (i:=2*j) (by omega);simp only[iX];rw[aj (by omega),af,hx,ae,aq (by omega),wrap64 (n:=((2*j:Nat):Int)+1) (by omega) (by omega),wrap64 (n:=((2*j:Nat):Int)+2) (by omega) (by omega),ex,iQ (by omega)];have e8:min (Int.toNat 8) (IntKind.bits .i64)=8:=rfl;have en:((2*j:Nat):Int)+2=((2*(j+1):Nat):Int):=by omega
 rw[e8,show((cf s (2*j):Nat):Int)*2^8=((2^8*cf s (2*j):Nat):Int) by omega,iQ (n:=2^8*cf s (2*j)) (by omega)];by_cases hc:2*j+1<s.length;obtain⟨y,hy,ey⟩:=pe (s:=s) (i:=2*j+1) hc;rw[aj (by omega),af,show((2*j:Nat):Int)+1=((2*j+1:Nat):Int) by omega,hy,ae,ey,iQ (n:=cf s (2*j+1)) (by omega),Oo (cf s (2*j)) 8 (cf s (2*j+1)) (by omega) (by omega),BN,ae,en,show 2^8*cf s (2*j)+cf s (2*j+1)=cf s (2*j)*256+cf s (2*j+1) by omega];rfl;have hz:=vU (s:=s) (i:=2*j+1) (by omega);rw[ai (by omega),al,BN,ae,en,show((2^8*cf s (2*j):Nat):Int)=((cf s (2*j)*256+cf s (2*j+1):Nat):Int) by rw[hz];omega];rfl;simp only[iX];rw[ai (by omega)];rfl
def DE (s:Bytes):Int:=65535-sw s ((s.length+1)/2)
theorem AA (s:Bytes)(h:s.length≤1000000000):ia s=some (DE s):=by have:=JG s ((s.length+1)/2);simp only[ia,Lu s h,ae];rw[wrap64 (by omega) (by omega)];rfl
theorem Fy (s:Bytes)(h:s.length≤1000000000):jz s=some (DE s):=by have:=JG s ((s.length+1)/2);simp only[jz,KQ s h,ae];rw[wrap64 (by omega) (by omega)];rfl
def tq (s:Bytes)(a:Int)(p:Bytes):Bytes:=bif dE s a (p.length:Int) then(s.take a.toNat++p)++s.drop (a.toNat+p.length) else s
theorem xg (s:Bytes)(a:Int)(p:Bytes):(tq s a p).length=s.length:=by unfold tq;cases hw:dE s a (p.length:Int)with|false=>rfl|true=>simp only[dE,aI]at hw;simp only[af,ah,bl,bj];omega
theorem CL (s:Bytes)(a:Int)(p:Bytes)(h:s.length≤1000000000)(hw:dE s a (p.length:Int)=true): (ab (sub s 0 a) λx2=>room (List.length x2+List.length p) (ab (sub s (au (a+((List.length p:Int)))) ((List.length s:Int))) λx3=>room (List.length (x2++p)+List.length x3) (some ((x2++p)++x3))))=some (tq s a p):=by
 have hw':=hw;simp only[dE,aI]at hw';obtain⟨n,rfl⟩:=bL hw'.1;have e1:sub s 0 (n:Int)=some (s.take n):=by unfold sub;rw[ar (by omega)];rfl
 have e2:sub s (((n+p.length:Nat):Int)) (s.length:Int)=some (s.drop (n+p.length)):=by unfold sub;rw[ar (by omega),aV,aV,List.take_length]
 rw[e1,wrap64 (by omega) (by omega),show(n:Int)+(p.length:Int)=((n+p.length:Nat):Int) by omega,e2,ae,aN (by simp only[bl];omega),ae,aN (by simp only[ah,bl,bj];omega)];unfold tq;rw[hw];rfl
theorem tF (s:Bytes)(a:Int)(p:Bytes)(h:s.length≤1000000000):dQ s a p=some (tq s a p):=by unfold dQ;rw[qV s a _ h (by omega),ae];cases hw:dE s a (p.length:Int)with|false=>simp only[cV,af,tq,hw,al]|true=>exact CL s a p h hw
theorem Af (s:Bytes)(a:Int)(p:Bytes)(h:s.length≤1000000000)(hp:p.length≤1000000000):hU s a p=some (tq s a p):=by
 unfold hU;rw[wrap64 (n:=(s.length:Int)-(p.length:Int)) (by omega) (by omega)];cases hw:dE s a (p.length:Int)with
 |true=>have hw':=hw;simp only[dE,aI]at hw';rw[ai (show¬a<0 by omega),ai (show¬a>(s.length:Int)-(p.length:Int) by omega)];exact CL s a p h hw
 |false=>
  have hp:tq s a p=s:=by unfold tq;rw[hw];rfl
  rw[hp];simp only[dE,decide_eq_false_iff_not]at hw;by_cases h0:a<0;rw[aj h0];rfl;rw[ai h0,aj (show a>(s.length:Int)-(p.length:Int) by omega)];rfl
def OI (x y:Int):Bytes:=bytesOf [x,y]
theorem zx (x y:Int):(OI x y).length=2:=rfl
def pQ (a b k n:Int):Bool:=cL a 0 4294967295&&(cL b 0 4294967295&&(cL k 0 255&&cL n 0 65535))
def nW (a b k n:Int):Bytes:=((fj a++fj b)++OI 0 (dB k))++cG n
theorem yZ (a b k n:Int):(nW a b k n).length≤12:=by have:=c7 a;have:=c7 b;have:=bu n;simp only[nW,ah,zx];omega
theorem sB (a b k n:Int):fH a b k n=some (bif pQ a b k n then(nW a b k n,true) else([],false)):=by
 have:=c7 a;have:=c7 b;have:=bu n;unfold fH pQ;simp only[cx,ae,ky,iL];cases cL a 0 4294967295 with|false=>rfl|true=>?_
 cases cL b 0 4294967295 with|false=>rfl|true=>?_
 cases cL k 0 255 with|false=>rfl|true=>?_
 cases cL n 0 65535 with|false=>rfl|true=>?_
 simp only[aA,al,dH,af,ae];have e:(bytesOf [0,dB k]).length=2:=rfl;rw[aN (by omega),aN (by simp only[ah,e];omega),aN (by simp only[ah,e];omega)];rfl
theorem D1 (a b k n:Int):kV a b k n=some (bif pQ a b k n then(nW a b k n,true) else([],false)):=sB a b k n
def bare (g:cr):Bytes:=bif g.1==6 then
    (((((cG g.2.1++cG g.2.2.1)++fj g.2.2.2.1)++fj g.2.2.2.2.1)++OI 80 (dB g.2.2.2.2.2.1))++cG g.2.2.2.2.2.2.1)++fj 0++g.2.2.2.2.2.2.2
 else(((cG g.2.1++cG g.2.2.1)++cG (8+(g.2.2.2.2.2.2.2.length:Int)))++cG 0)++g.2.2.2.2.2.2.2
theorem zv (g:cr):(bare g).length≤20+g.2.2.2.2.2.2.2.length:=by have:=bu g.2.1;have:=bu g.2.2.1;have:=c7 g.2.2.2.1;have:=c7 g.2.2.2.2.1;have:=bu g.2.2.2.2.2.2.1;have:=c7 0;have:=bu 0;have:=bu (8+(g.2.2.2.2.2.2.2.length:Int));unfold bare;cases g.1==6<;>simp only[af,al,ah,zx]<;>omega
theorem HM:cG 0++cG 0=fj 0:=by rfl
theorem Iv (g:cr)(h:g.2.2.2.2.2.2.2.length≤1000000):iY g=some (bare g):=by have:=bu g.2.1;have:=bu g.2.2.1;have:=c7 g.2.2.2.1;have:=c7 g.2.2.2.2.1;have:=bu g.2.2.2.2.2.2.1;have:=bu 0;have:=bu (8+(g.2.2.2.2.2.2.2.length:Int));have e:∀x,(bytesOf [80,dB x]).length=2:=λ_=>rfl;unfold iY bare;rw[wrap64 (n:=8+(g.2.2.2.2.2.2.2.length:Int)) (by omega) (by omega)];simp only[pG,wL,ae];rw[aN (by omega)];cases g.1==6 with|true=>simp only[af];rw[aN (by simp only[ah,e];omega),aN (by simp only[ah,e];omega),aN (by simp only[ah,e];omega),aN (by simp only[ah,e];omega),aN (by simp only[ah,e];omega),aN (by simp only[ah,e];omega),aN (by simp only[ah,e];omega)];rw[←HM];simp only[OI,ay]|false=>simp only[al];rw[aN (by simp only[ah];omega),aN (by simp only[ah];omega),aN (by simp only[ah];omega)]
def F3 (a b:Int)(g:cr):Int:=bif (DE (nW a b g.1 ((bare g).length:Int)++bare g)==0)&&(g.1==17) then 65535 else DE (nW a b g.1 ((bare g).length:Int)++bare g)
def FV (a b:Int)(g:cr):Bytes:=tq (bare g) (bif g.1==6 then 16 else 6) (cG (F3 a b g))
def xq (a b:Int)(g:cr):Bool:=jK g&&pQ a b g.1 ((bare g).length:Int)
def qS (a b:Int)(g:cr):Bytes×Bool:=bif xq a b g then(FV a b g,true) else([],false)
theorem qR {g:cr}(h:jK g=true):g.2.2.2.2.2.2.2.length≤320:=by simp only[jK,aa,aC,decide_eq_false_iff_not]at h;omega
theorem qU (a b:Int)(g:cr):eF a b g=some (qS a b g):=by
 unfold eF qS xq;rw[FZ,ae];cases hg:jK g with|false=>rfl|true=>?_
 have hb:=qR hg;have hl:=zv g;have hp:=yZ a b g.1 ((bare g).length:Int);have:=bu g.2.1;have:=bu g.2.2.1;have:=c7 g.2.2.2.1;have:=c7 g.2.2.2.2.1;have:=bu g.2.2.2.2.2.2.1;have:=c7 0;have:=bu 0;have:=bu (8+(g.2.2.2.2.2.2.2.length:Int));have e:∀x,(bytesOf [80,dB x]).length=2:=λ_=>rfl;rw[wrap64 (n:=8+(g.2.2.2.2.2.2.2.length:Int)) (by omega) (by omega)];simp only[iL,ky,ae,aA,al,bW];rw[aN (by omega)];cases h6:g.1==6 with
 |true=>
  have hbare:bare g=(((((cG g.2.1++cG g.2.2.1)++fj g.2.2.2.1)++fj g.2.2.2.2.1)++bytesOf [80,dB g.2.2.2.2.2.1])++cG g.2.2.2.2.2.2.1)++fj 0++g.2.2.2.2.2.2.2:=by unfold bare;rw[h6];rfl
  simp only[af];rw[aN (by simp only[ah,e];omega),aN (by simp only[ah,e];omega),aN (by simp only[ah,e];omega),aN (by simp only[ah,e];omega),aN (by simp only[ah,e];omega),aN (by simp only[ah,e];omega),←hbare,sB,ae];cases pQ a b g.1 ((bare g).length:Int)with|false=>rfl|true=>?_
  simp only[af,aA,al];rw[aN (by omega),AA _ (by simp only[ah];omega)];simp only[ae,bk,tF _ _ _ (show(bare g).length≤1000000000 by omega),FV,F3,h6,af,cF];cases (DE (nW a b g.1 ((bare g).length:Int)++bare g)==0)&&(g.1==17)<;>rfl
 |false=>
  have hbare:bare g=(((cG g.2.1++cG g.2.2.1)++cG (8+(g.2.2.2.2.2.2.2.length:Int)))++cG 0)++g.2.2.2.2.2.2.2:=by unfold bare;rw[h6];rfl
  simp only[al];rw[aN (by simp only[ah];omega),aN (by simp only[ah];omega),aN (by simp only[ah];omega),←hbare,sB,ae];cases pQ a b g.1 ((bare g).length:Int)with|false=>rfl|true=>?_
  simp only[af,aA,al];rw[aN (by omega),AA _ (by simp only[ah];omega)];simp only[ae,bk,tF _ _ _ (show(bare g).length≤1000000000 by omega),FV,F3,h6,al,cF];cases (DE (nW a b g.1 ((bare g).length:Int)++bare g)==0)&&(g.1==17)<;>rfl
theorem BP (a b:Int)(g:cr):ir a b g=some (qS a b g):=by
 unfold ir qS xq;rw[Fz,ae];cases hg:jK g with|false=>rfl|true=>?_
 have hb:=qR hg;have hl:=zv g;have hp:=yZ a b g.1 ((bare g).length:Int);have hsp:jG g.1=some (bif g.1==6 then 16 else 6):=by unfold jG;rw[bk]
 have w1:=bu 65535;have w2:=bu (DE (nW a b g.1 ((bare g).length:Int)++bare g));simp only[Iv g (by omega),D1,ae,aA,al,bW];cases pQ a b g.1 ((bare g).length:Int)with|false=>rfl|true=>?_
 simp only[af,aA,al];rw[aN (by omega),Fy _ (by simp only[ah];omega)];simp only[ae,bk,hsp,pG,Af _ _ _ (show(bare g).length≤1000000000 by omega) (show(cG 65535).length≤1000000000 by omega),Af _ _ _ (show(bare g).length≤1000000000 by omega) (show(cG (DE (nW a b g.1 ((bare g).length:Int)++bare g))).length≤1000000000 by omega),FV,F3,cF];rw[Bool.and_comm];cases (DE (nW a b g.1 ((bare g).length:Int)++bare g)==0)&&(g.1==17)<;>rfl
theorem Lo (a b:Int)(g:cr):(qS a b g).1.length≤340:=by unfold qS;cases h:xq a b g with|false=>exact bz _|true=>simp only[xq,aa]at h;have:=qR h.1;have:=zv g;show(tq _ _ _).length≤340;rw[xg];omega
def Ea (d:Ip):Bool:=cL d.1 0 255&&(cL d.2.2.1 0 255&&(cL d.2.2.2.1 0 255&&(cL d.2.1 0 65535&&(cL d.2.2.2.2.1 0 4294967295&&(cL d.2.2.2.2.2.1 0 4294967295&&decide ((d.2.2.2.2.2.2.length:Int)≤380))))))
theorem C1 (d:Ip):rE d=some (Ea d):=by simp only[rE,cx,ae,bk,cF,Ea]
theorem IA (d:Ip):ue d=some (Ea d):=C1 d
def wP (d:Ip):Bytes:=((((((OI 69 (dB d.1)++cG (20+(d.2.2.2.2.2.2.length:Int)))++cG d.2.1)++cG 16384)++OI (dB d.2.2.1) (dB d.2.2.2.1))++cG 0)++fj d.2.2.2.2.1)++fj d.2.2.2.2.2.1
theorem wQ (d:Ip):(wP d).length≤20:=by have:=bu (20+(d.2.2.2.2.2.2.length:Int));have:=bu d.2.1;have:=bu 16384;have:=bu 0;have:=c7 d.2.2.2.2.1;have:=c7 d.2.2.2.2.2.1;simp only[wP,ah,zx];omega
def wO (d:Ip):Bytes:=tq (wP d) 10 (cG (DE (wP d)))
theorem EP (d:Ip):mj d=some (bif Ea d then(wO d,true) else([],false)):=by
 unfold mj;rw[C1,ae];cases hd:Ea d with|false=>rfl|true=>?_
 have hn:(d.2.2.2.2.2.2.length:Int)≤380:=by simp only[Ea,aa,aI]at hd;omega
 have:=bu (20+(d.2.2.2.2.2.2.length:Int));have:=bu d.2.1;have:=bu 16384;have:=bu 0;have:=c7 d.2.2.2.2.1;have:=c7 d.2.2.2.2.2.1;have hl:=wQ d;have e:∀x y,(bytesOf [x,y]).length=2:=λ_ _=>rfl;rw[wrap64 (n:=20+(d.2.2.2.2.2.2.length:Int)) (by omega) (by omega)];simp only[iL,ky,ae,aA,al,af];rw[aN (by simp only[ah,e];omega),aN (by simp only[ah,e];omega),aN (by simp only[ah,e];omega),aN (by simp only[ah,e];omega),aN (by simp only[ah,e];omega),aN (by simp only[ah,e];omega),aN (by simp only[ah,e];omega)];have hp:((((((bytesOf [69,dB d.1]++cG (20+(d.2.2.2.2.2.2.length:Int)))++cG d.2.1)++cG 16384)++bytesOf [dB d.2.2.1,dB d.2.2.2.1])++cG 0)++fj d.2.2.2.2.1)++fj d.2.2.2.2.2.1=wP d:=rfl;rw[hp,AA _ (by omega),ae,tF _ _ _ (by omega)];rfl
theorem DY (d:Ip):l0 d=some (bif Ea d then(wO d,true) else([],false)):=by
 unfold l0;rw[IA,ae];cases hd:Ea d with|false=>rfl|true=>?_
 have hn:(d.2.2.2.2.2.2.length:Int)≤380:=by simp only[Ea,aa,aI]at hd;omega
 have:=bu (20+(d.2.2.2.2.2.2.length:Int));have:=bu d.2.1;have:=bu 16384;have:=bu 0;have:=c7 d.2.2.2.2.1;have:=c7 d.2.2.2.2.2.1;have hl:=wQ d;have hw:=bu (DE (wP d));have e:∀x y,(bytesOf [x,y]).length=2:=λ_ _=>rfl;rw[wrap64 (n:=20+(d.2.2.2.2.2.2.length:Int)) (by omega) (by omega)];simp only[pG,wL,ae,aA,al,af];rw[aN (by simp only[ah,e];omega),aN (by simp only[ah,e];omega),aN (by simp only[ah,e];omega),aN (by simp only[ah,e];omega),aN (by simp only[ah,e];omega),aN (by simp only[ah,e];omega),aN (by simp only[ah,e];omega)];have hp:((((((bytesOf [69,dB d.1]++cG (20+(d.2.2.2.2.2.2.length:Int)))++cG d.2.1)++cG 16384)++bytesOf [dB d.2.2.1,dB d.2.2.2.1])++cG 0)++fj d.2.2.2.2.1)++fj d.2.2.2.2.2.1=wP d:=rfl;rw[hp,Fy _ (by omega),ae,Af _ _ _ (by omega) (by omega)];rfl
def FB (d:Ip):Bytes×Bool:=bif Ea d then(wO d++d.2.2.2.2.2.2,true) else([],false)
theorem ug (d:Ip):(wO d).length≤20:=by unfold wO;rw[xg];exact wQ d
theorem Jx (d:Ip):lj d=some (FB d):=by
 unfold lj FB;rw[EP,ae];cases hd:Ea d with|false=>rfl|true=>?_
 have hn:(d.2.2.2.2.2.2.length:Int)≤380:=by simp only[Ea,aa,aI]at hd;omega
 have:=ug d;simp only[af,aA,al];rw[aN (by omega)]
theorem MY (d:Ip):nb d=some (FB d):=by
 unfold nb FB;rw[DY,ae];cases hd:Ea d with|false=>rfl|true=>?_
 have hn:(d.2.2.2.2.2.2.length:Int)≤380:=by simp only[Ea,aa,aI]at hd;omega
 have:=ug d;simp only[af,aA,al];rw[aN (by omega)]
def qu (n:Nat):Bytes:=bytesOf (List.replicate n (0:Int))
theorem rJ (n:Nat):(qu n).length=n:=by simp[qu,bytesOf]
theorem xw (n:Nat)(h:n≤1000000000):dU (n:Int) 0=some (qu n):=by unfold dU;rw[ar (by omega),aN (by rw[aV];omega),aV];refine jo (λi=>(List.replicate n (0:Int),(i:Int))) n (by omega) (λi nx hi=>?_) (λnx=>?_);simp only[gY];rw[aj (by omega),cb (by simpa using hi),wrap64 (by omega) (by omega)];simp only[af,ae,aV,List.set_replicate_self];rfl;simp only[gY];rw[ai (by omega)];rfl
theorem KP (n:Nat)(h:n≤1000000000):ox 0 (n:Int)=some (qu n):=by unfold ox;rw[ar (by omega),aN (by rw[aV];omega),aV];refine jo (λi=>(List.replicate n (0:Int),(i:Int))) n (by omega) (λi nx hi=>?_) (λnx=>?_);simp only[k5];rw[aj (by simp;omega),cb (by simpa using hi),wrap64 (by omega) (by omega)];simp only[af,ae,aV,List.set_replicate_self];rfl;simp only[k5];rw[ai (by simp)];rfl
def pad (s:Bytes):Bytes:=if s.length<46 then s++qu (46-s.length) else s
theorem FL (s:Bytes):(pad s).length=max 46 s.length:=by unfold pad;split;simp only[ah,rJ];omega;omega
theorem Lt (s:Bytes)(h:s.length≤1000000000):ni s=some (pad s):=by unfold ni pad;by_cases hc:s.length<46;rw[aj (by omega),ar hc,wrap64 (by omega) (by omega),show(46:Int)-(s.length:Int)=((46-s.length:Nat):Int) by omega,xw _ (by omega)];simp only[af,ae];rw[aN (by rw[rJ];omega)];rw[ai (by omega),aq hc];rfl
theorem KO (s:Bytes)(h:s.length≤1000000000):nd s=some (pad s):=by unfold nd pad;by_cases hc:s.length<46;rw[ai (by omega),ar hc,wrap64 (by omega) (by omega),show(46:Int)-(s.length:Int)=((46-s.length:Nat):Int) by omega,KP _ (by omega)];simp only[al,ae];rw[aN (by rw[rJ];omega)];rw[aj (by omega),aq hc];rfl
def qG (e:zo):Bool:=cL e.1 0 281474976710655&&(cL e.2.1 0 281474976710655&&(cL e.2.2.1 (-1) 4095&&(cL e.2.2.2.1 1536 65535&&((e.2.2.2.1 !=33024)&&cL (e.2.2.2.2.length:Int) 46 400))))
theorem uG (e:zo):lN e=some (qG e):=by simp only[lN,cx,ae,bk,cF,qG]
theorem GA (e:zo):so e=some (qG e):=uG e
def LS (a:Int):Bytes:=(eK a).getD []
theorem oF (a:Int):eK a=some (LS a)∧(LS a).length≤6:=by
 have h:∃x,eK a=some x∧x.length≤6:=by unfold eK;rw[aq (by omega)];simp only[iL,ky,ae];have h1:=bu (Int.fdiv a (2^(min (Int.toNat 32) (IntKind.bits .i64))));have h2:=c7 (au (BitVec.toNat (BitVec.ofInt (IntKind.bits .i64) a&&&BitVec.ofInt (IntKind.bits .i64) 4294967295)));rw[aN (by omega)];exact⟨_,rfl,by simp only[ah];omega⟩
 obtain⟨x,hx,hl⟩:=h;unfold LS;rw[hx];exact⟨rfl,hl⟩
theorem KN (a:Int):l9 a=some (LS a):=(oF a).1
def Bz (e:zo):Bytes:=(bif decide (e.2.2.1≥0) then(((LS e.1++LS e.2.1)++cG 33024)++cG e.2.2.1) else LS e.1++LS e.2.1)++cG e.2.2.2.1++e.2.2.2.2
theorem Ij (e:zo):(Bz e).length≤18+e.2.2.2.2.length:=by have:=(oF e.1).2;have:=(oF e.2.1).2;have:=bu 33024;have:=bu e.2.2.1;have:=bu e.2.2.2.1;unfold Bz;cases decide (e.2.2.1≥0)<;>simp only[af,al,ah]<;>omega
def DN (e:zo):Bytes×Bool:=bif qG e then(Bz e,true) else([],false)
theorem Ls (e:zo):md e=some (DN e):=by
 unfold md DN;rw[uG,ae];cases he:qG e with|false=>rfl|true=>?_
 have hn:(e.2.2.2.2.length:Int)≤400:=by simp only[qG,aa,bw]at he;omega
 have:=(oF e.1).2;have:=(oF e.2.1).2;have:=bu 33024;have:=bu e.2.2.1;have:=bu e.2.2.2.1;simp only[(oF _).1,iL,ae,aA,al,af,Bz];rw[aN (by omega)];cases decide (e.2.2.1≥0)with|true=>simp only[af];rw[aN (by simp only[ah];omega),aN (by simp only[ah];omega),aN (by simp only[ah];omega),aN (by simp only[ah];omega)]|false=>simp only[al];rw[aN (by simp only[ah];omega),aN (by simp only[ah];omega)]
theorem KL (e:zo):lX e=some (DN e):=by
 unfold lX DN;rw[GA,ae];cases he:qG e with|false=>rfl|true=>?_
 have hn:(e.2.2.2.2.length:Int)≤400:=by simp only[qG,aa,bw]at he;omega
 have:=(oF e.1).2;have:=(oF e.2.1).2;have:=bu 33024;have:=bu e.2.2.1;have:=bu e.2.2.2.1;simp only[KN,pG,ae,aA,al,af,Bz];rw[aN (by omega)];cases decide (e.2.2.1≥0)with|true=>simp only[af];rw[aN (by omega),aN (by simp only[ah];omega),aN (by simp only[ah];omega),aN (by simp only[ah];omega)];simp only[ay]|false=>simp only[al];rw[aN (by simp only[ah];omega),aN (by simp only[ah];omega)]
def Ln (p:aE):Bytes×Bool:=qS p.2.2.2.2.2.2.1 p.2.2.2.2.2.2.2.1 p.2.2.2.2.2.2.2.2
def Km (p:aE):Bytes×Bool:=FB (p.2.2.2.1,p.2.2.2.2.1,p.2.2.2.2.2.1,p.2.2.2.2.2.2.2.2.1,p.2.2.2.2.2.2.1,p.2.2.2.2.2.2.2.1,(Ln p).1)
def MT (p:aE):Bytes×Bool:=DN (p.1,p.2.1,p.2.2.1,2048,pad (Km p).1)
def nS (p:aE):Bytes×Bool:=bif dp p then MT p else([],false)
theorem Ag (p:aE):(Km p).1.length≤360:=by have h1:=Lo p.2.2.2.2.2.2.1 p.2.2.2.2.2.2.2.1 p.2.2.2.2.2.2.2.2;unfold Km FB;cases Ea (p.2.2.2.1,p.2.2.2.2.1,p.2.2.2.2.2.1,p.2.2.2.2.2.2.2.2.1,p.2.2.2.2.2.2.1,p.2.2.2.2.2.2.2.1,(Ln p).1)with|false=>exact bz _|true=>have h2:=ug (p.2.2.2.1,p.2.2.2.2.1,p.2.2.2.2.2.1,p.2.2.2.2.2.2.2.2.1,p.2.2.2.2.2.2.1,p.2.2.2.2.2.2.2.1,(Ln p).1);have h3:(Ln p).1.length≤340:=h1;simp only[af,ah];omega
theorem Hy (p:aE):kb p=some (nS p):=by have hl:=Ag p;unfold kb nS;simp only[rD,qU,Jx,ae];rw[show(FB (p.2.2.2.1,p.2.2.2.2.1,p.2.2.2.2.2.1,p.2.2.2.2.2.2.2.2.1,p.2.2.2.2.2.2.1,p.2.2.2.2.2.2.2.1,(qS p.2.2.2.2.2.2.1 p.2.2.2.2.2.2.2.1 p.2.2.2.2.2.2.2.2).1))=Km p from rfl,Lt _ (by omega),ae,Ls];cases dp p<;>rfl
theorem GC (p:aE):jU p=some (nS p):=by have hl:=Ag p;unfold jU nS;simp only[rp,BP,MY,ae];rw[show(FB (p.2.2.2.1,p.2.2.2.2.1,p.2.2.2.2.2.1,p.2.2.2.2.2.2.2.2.1,p.2.2.2.2.2.2.1,p.2.2.2.2.2.2.2.1,(qS p.2.2.2.2.2.2.1 p.2.2.2.2.2.2.2.1 p.2.2.2.2.2.2.2.2).1))=Km p from rfl,KO _ (by omega),ae,KL];cases dp p<;>rfl
theorem Gy {p:aE}(h:dp p=true):(nS p).2=true:=by
 have hl:=Ag p;have hh:jr p=true:=by simp only[dp,aa]at h;exact h.1
 have hp:=FL (Km p).1;unfold nS MT DN;rw[h,af];have:qG (p.1,p.2.1,p.2.2.1,2048,pad (Km p).1)=true:=by simp only[jr,aa]at hh;simp only[qG,aa];refine⟨hh.1,hh.2.1,hh.2.2.1,by decide,by decide,bw.2 ?_⟩;omega
 rw[this];rfl
theorem ud (p:aE):(nS p).1.length≤378:=by have hl:=Ag p;have hp:=FL (Km p).1;unfold nS MT DN;cases dp p with|false=>exact bz _|true=>cases qG (p.1,p.2.1,p.2.2.1,2048,pad (Km p).1)with|false=>exact bz _|true=>have:=Ij (p.1,p.2.1,p.2.2.1,2048,pad (Km p).1);simp only[af]at this⊢;omega
def V7 (c:Int):Bytes:=bytesOf [dB c,dB (Int.fdiv c (2^(min (Int.toNat 8) (IntKind.bits .i64)))),dB (Int.fdiv c (2^(min (Int.toNat 16) (IntKind.bits .i64)))),dB (Int.fdiv c (2^(min (Int.toNat 24) (IntKind.bits .i64))))]
def qe (s:Bytes):Bytes:=s++V7 (H9 s)
theorem KH (c:Int):(V7 c).length=4:=rfl
theorem FY (s:Bytes)(h:s.length≤1000000000):lz s=some (qe s):=by unfold lz;rw[Lq s h,ae,aq (by omega),aq (by omega),aq (by omega)];exact aN (by show s.length+4≤_;omega)
theorem KM (s:Bytes)(h:s.length≤1000000000):nf s=some (qe s):=by unfold nf;rw[KK s h,ae,aq (by omega),aq (by omega),aq (by omega)];exact aN (by show s.length+4≤_;omega)
def fY (p:aE):Bool:=dp p&&decide ((p.2.2.2.2.2.2.2.2.2.2.2.2.2.2.2.length:Int)≤128)
theorem xx (p:aE):jP p=some (fY p):=by simp only[jP,rD,ae,bk,cF,fY]
theorem D0 (p:aE):l5 p=some (fY p):=by simp only[l5,rp,ae,bk,cF,fY]
def kt (p:aE):Bytes×Bool:=bif fY p then(qe (nS p).1,true) else([],false)
theorem ze (p:aE):gW p=some (kt p):=by have hl:=ud p;simp only[gW,xx,Hy,FY _ (show(nS p).1.length≤1000000000 by omega),ae,kt];cases fY p<;>rfl
theorem GB (p:aE):jT p=some (kt p):=by
 have hl:=ud p;simp only[jT,D0,GC,KM _ (show(nS p).1.length≤1000000000 by omega),ae,kt];cases hp:fY p with
 |false=>rfl
 |true=>
  have:dp p=true:=by simp only[fY,aa]at hp;exact hp.1
  rw[Gy this];rfl
theorem yJ (p:aE):(kt p).1.length≤382:=by have hl:=ud p;unfold kt;cases fY p with|false=>exact bz _|true=>simp only[af,qe,ah,KH];omega
def uw (p:aE)(z:Int)(k:Nat):aE:=
 (p.1,p.2.1,p.2.2.1,p.2.2.2.1,Int.tmod (au (p.2.2.2.2.1+(k:Int))) 65536,p.2.2.2.2.2.1,p.2.2.2.2.2.2.1,p.2.2.2.2.2.2.2.1,p.2.2.2.2.2.2.2.2.1,p.2.2.2.2.2.2.2.2.2.1,p.2.2.2.2.2.2.2.2.2.2.1,
   Int.tmod (au (p.2.2.2.2.2.2.2.2.2.2.2.1+((k:Int)*z))) 4294967296,p.2.2.2.2.2.2.2.2.2.2.2.2.1,
   (bif decide (((k:Int)+1)*z<(p.2.2.2.2.2.2.2.2.2.2.2.2.2.2.2.length:Int)) then au (BitVec.toNat (BitVec.ofInt (IntKind.bits .i64) p.2.2.2.2.2.2.2.2.2.2.2.2.2.1&&&~~~ BitVec.ofInt (IntKind.bits .i64) 9)) else p.2.2.2.2.2.2.2.2.2.2.2.2.2.1),
   p.2.2.2.2.2.2.2.2.2.2.2.2.2.2.1,(p.2.2.2.2.2.2.2.2.2.2.2.2.2.2.2.take (min ((k+1)*z.toNat) p.2.2.2.2.2.2.2.2.2.2.2.2.2.2.2.length)).drop (k*z.toNat))
def dY (n z:Nat):Nat:=(n+z-1)/z
def n0 (p:aE)(z:Int):List aE:=bif dp p&&cL z 1 128 then
    (bif (p.2.2.2.2.2.2.2.2.1 !=6)||decide ((p.2.2.2.2.2.2.2.2.2.2.2.2.2.2.2.length:Int)≤z) then [p] else(List.range (dY p.2.2.2.2.2.2.2.2.2.2.2.2.2.2.2.length z.toNat)).map (uw p z)) else []
theorem rA {n z k:Nat}(hz:0<z):k<dY n z↔k*z<n:=by unfold dY;rw[Nat.lt_div_iff_mul_lt hz];omega
theorem qa {p:aE}(h:dp p=true):p.2.2.2.2.2.2.2.2.2.2.2.2.2.2.2.length≤320:=by
 have hh:jr p=true:=by simp only[dp,aa]at h;exact h.1
 exact qR (pb hh)
theorem zh {b:Bytes}{k z:Nat}(hk:k*z<b.length)(hb:b.length≤320):sub b ((k*z:Nat):Int) ((min ((k+1)*z) b.length:Nat):Int)=some ((b.take (min ((k+1)*z) b.length)).drop (k*z)):=by have:k*z≤(k+1)*z:=bq _ (by omega);unfold sub;rw[ar (by omega),aV,aV]
theorem HD (p:aE)(z:Int):pX p z=some (n0 p z):=by
 unfold pX n0;simp only[rD,cx,ae];cases hs:dp p with|false=>rfl|true=>?_
 cases hz:cL z 1 128 with|false=>rfl|true=>?_
 have hz':=bw.1 hz;have hb:=qa hs;simp only[aA,al,dH,af,ae,bk,cT];cases hq:(p.2.2.2.2.2.2.2.2.1 !=6)||decide ((p.2.2.2.2.2.2.2.2.2.2.2.2.2.2.2.length:Int)≤z)with
 |true=>simp only[af,room,List.length_nil,List.length_singleton,bD];rfl
 |false=>
  simp only[al];obtain⟨m,rfl⟩:=bL (show 0≤z by omega);have hN:∀k,k<dY p.2.2.2.2.2.2.2.2.2.2.2.2.2.2.2.length m↔k*m<p.2.2.2.2.2.2.2.2.2.2.2.2.2.2.2.length:=λk=>rA (by omega);have hcap:dY p.2.2.2.2.2.2.2.2.2.2.2.2.2.2.2.length m≤320:=by rcases aX 320 (dY p.2.2.2.2.2.2.2.2.2.2.2.2.2.2.2.length m)with h|h;have:=(hN 320).1 h;have:320*1≤320*m:=Nat.mul_le_mul_left _ (by omega);omega;exact h
  refine jo (λk=>((List.range k).map (uw p (m:Int)),(k:Int))) (dY p.2.2.2.2.2.2.2.2.2.2.2.2.2.2.2.length m) (by omega) (λk nx hk=>?_) (λnx=>?_);have hkm:=(hN k).1 hk;have hk1:(k+1)*m=k*m+m:=by rw[bp,cw]
  have e1:(k:Int)*(m:Int)=((k*m:Nat):Int):=by push_cast;rfl
  have e2:((k:Int)+1)*(m:Int)=(((k+1)*m:Nat):Int):=by push_cast;rfl
  simp only[mn];rw[wrap64 (n:=(k:Int)+1) (by omega) (by omega),e1,e2,iQ (n:=k*m) (by omega),iQ (n:=(k+1)*m) (by omega),aj (by omega),af];have e3:(if(((k+1)*m:Nat):Int)<(p.2.2.2.2.2.2.2.2.2.2.2.2.2.2.2.length:Int) then(((k+1)*m:Nat):Int) else(p.2.2.2.2.2.2.2.2.2.2.2.2.2.2.2.length:Int))=((min ((k+1)*m) p.2.2.2.2.2.2.2.2.2.2.2.2.2.2.2.length:Nat):Int):=by split<;>omega
  rw[e3,zh hkm hb,ae,aq (by omega),aq (by omega)];rw[List.range_succ,List.map_append,List.map_singleton];simp only[uw,e1,e2,aV];cases decide ((((k+1)*m:Nat):Int)<(p.2.2.2.2.2.2.2.2.2.2.2.2.2.2.2.length:Int))with|true=>simp only[af];rw[aN (by simp;omega)];rfl|false=>simp only[al];rw[aN (by simp;omega)];rfl
  have hkm:¬dY p.2.2.2.2.2.2.2.2.2.2.2.2.2.2.2.length m*m<p.2.2.2.2.2.2.2.2.2.2.2.2.2.2.2.length:=λh=>absurd ((hN _).2 h) (gm _);have hub:dY p.2.2.2.2.2.2.2.2.2.2.2.2.2.2.2.length m*m≤320*128:=Nat.mul_le_mul hcap (by omega);have e1:((dY p.2.2.2.2.2.2.2.2.2.2.2.2.2.2.2.length m:Nat):Int)*(m:Int)=((dY p.2.2.2.2.2.2.2.2.2.2.2.2.2.2.2.length m*m:Nat):Int):=by push_cast;rfl
  simp only[mn];rw[e1,iQ (by omega),ai (by omega)];rfl
theorem GG (p:aE)(z:Int):pK p z=some (n0 p z):=by
 unfold pK n0;simp only[rp,dr,ae];cases hs:dp p with|false=>rfl|true=>?_
 cases hz:cL z 1 128 with|false=>rfl|true=>?_
 have hz':=bw.1 hz;have hb:=qa hs;simp only[aA,al,dH,af,ae,bk,cT];cases hq:(p.2.2.2.2.2.2.2.2.1 !=6)||decide ((p.2.2.2.2.2.2.2.2.2.2.2.2.2.2.2.length:Int)≤z)with
 |true=>rfl
 |false=>
  simp only[al];obtain⟨m,rfl⟩:=bL (show 0≤z by omega);have hN:∀k,k<dY p.2.2.2.2.2.2.2.2.2.2.2.2.2.2.2.length m↔k*m<p.2.2.2.2.2.2.2.2.2.2.2.2.2.2.2.length:=λk=>rA (by omega);have hcap:dY p.2.2.2.2.2.2.2.2.2.2.2.2.2.2.2.length m≤320:=by rcases aX 320 (dY p.2.2.2.2.2.2.2.2.2.2.2.2.2.2.2.length m)with h|h;have:=(hN 320).1 h;have:320*1≤320*m:=Nat.mul_le_mul_left _ (by omega);omega;exact h
  refine jo (λk=>((List.range k).map (uw p (m:Int)),(k:Int))) (dY p.2.2.2.2.2.2.2.2.2.2.2.2.2.2.2.length m) (by omega) (λk nx hk=>?_) (λnx=>?_);have hkm:=(hN k).1 hk;have hk1:(k+1)*m=k*m+m:=by rw[bp,cw]
  have e1:(k:Int)*(m:Int)=((k*m:Nat):Int):=by push_cast;rfl
  have e2:((k:Int)+1)*(m:Int)=(((k+1)*m:Nat):Int):=by push_cast;rfl
  have hsub:=zh hkm hb;simp only[l7];rw[wrap64 (n:=(k:Int)+1) (by omega) (by omega),e1,e2,iQ (n:=k*m) (by omega),iQ (n:=(k+1)*m) (by omega),aj (by omega),af];rw[List.range_succ,List.map_append,List.map_singleton];simp only[uw,e1,e2,aV];by_cases hc:(((k+1)*m:Nat):Int)<(p.2.2.2.2.2.2.2.2.2.2.2.2.2.2.2.length:Int);rw[aj hc];rw[show min ((k+1)*m) p.2.2.2.2.2.2.2.2.2.2.2.2.2.2.2.length=(k+1)*m by omega]at hsub⊢;simp only[af];rw[hsub,ae,aq (by omega),aq (by omega),aN (by simp;omega)];rfl;rw[ai hc];rw[show min ((k+1)*m) p.2.2.2.2.2.2.2.2.2.2.2.2.2.2.2.length=p.2.2.2.2.2.2.2.2.2.2.2.2.2.2.2.length by omega]at hsub⊢;simp only[al];rw[hsub,ae,aq (by omega),aq (by omega),aN (by simp;omega)];rfl;have hkm:¬dY p.2.2.2.2.2.2.2.2.2.2.2.2.2.2.2.length m*m<p.2.2.2.2.2.2.2.2.2.2.2.2.2.2.2.length:=λh=>absurd ((hN _).2 h) (gm _);have hub:dY p.2.2.2.2.2.2.2.2.2.2.2.2.2.2.2.length m*m≤320*128:=Nat.mul_le_mul hcap (by omega);have e1:((dY p.2.2.2.2.2.2.2.2.2.2.2.2.2.2.2.length m:Nat):Int)*(m:Int)=((dY p.2.2.2.2.2.2.2.2.2.2.2.2.2.2.2.length m*m:Nat):Int):=by push_cast;rfl
  simp only[l7];rw[e1,iQ (by omega),ai (by omega)];rfl
theorem sD (p:aE)(z:Int):(n0 p z).length≤320:=by
 unfold n0;cases hs:dp p&&cL z 1 128 with|false=>exact bz _|true=>?_
 simp only[aa,bw]at hs;have hb:=qa hs.1;cases (p.2.2.2.2.2.2.2.2.1 !=6)||decide ((p.2.2.2.2.2.2.2.2.2.2.2.2.2.2.2.length:Int)≤z)with|true=>simp only[af,List.length_singleton];omega|false=>simp only[af,al,List.length_map,List.length_range];rcases aX 320 (dY p.2.2.2.2.2.2.2.2.2.2.2.2.2.2.2.length z.toNat)with h|h;have:=(rA (by omega)).1 h;have:320*1≤320*z.toNat:=Nat.mul_le_mul_left _ (by omega);omega;exact h
def sI (acc:List Bytes)(p:aE):List Bytes:=bif (kt p).2 then acc++[(kt p).1] else acc
theorem vN (acc:List Bytes)(p:aE):(sI acc p).length≤acc.length+1:=by unfold sI;cases (kt p).2<;>simp
def ot (l:List aE):List Bytes:=l.foldl sI []
theorem uO:∀(l:List aE)(acc:List Bytes),(l.foldl sI acc).length≤acc.length+l.length
 |[],acc=>by simp
 |p::l,acc=>by have:=uO l (sI acc p);have:=vN acc p;simp only[List.foldl_cons,cC];omega
theorem rO:∀(l:List aE)(acc:List Bytes),(∀x∈acc,x.length≤382)→∀x∈l.foldl sI acc,x.length≤382
 |[],acc,h=>h
 |p::l,acc,h=>by rw[List.foldl_cons];refine rO l _ (λx hx=>?_);unfold sI at hx;cases hf:(kt p).2 with|false=>rw[hf]at hx;exact h x hx|true=>rw[hf]at hx;simp only[af,ak,bK]at hx;rcases hx with hx|hx;exact h x hx;rw[hx];exact yJ p
theorem EO (l:List aE)(h:l.length≤1000000000):mi l=some (ot l):=by
 unfold mi ot;have:=tw (T:=gy (λ(y3:List Bytes) (_:Int)=>some y3) l) l (λ(s:List Bytes) i=>(s,(i:Int))) (λi s=>s.length≤i) (λp s=> .ok (sI s p)) (λs=>some s) (by omega) (λi hi s nx hI=>?hs) (λi hi s s' hI hg=>?hn) (λs nx hI=>?hf) [] (by simp)
 case hs=>
  simp only[gy]
  rw[aj (by omega),cb hi,wrap64 (n:=(i:Int)+1) (by omega) (by omega)]
  simp only[af,ae,ze,sI]
  rw[aN (by simp;omega)]
  cases (kt l[i]).2<;>rfl
 case hn=>cases hg;have:=vN s l[i];omega
 case hf=>
  simp only[gy]
  rw[ai (by omega)];rfl
 rw[tu]at this;exact this
theorem DX (l:List aE)(h:l.length≤1000000000):lY l=some (ot l):=by
 unfold lY ot;have:=tw (T:=gp (λ(y3:List Bytes) (_:Int)=>some y3) l (l.length:Int)) l (λ(s:List Bytes) i=>(s,(i:Int))) (λi s=>s.length≤i) (λp s=> .ok (sI s p)) (λs=>some s) (by omega) (λi hi s nx hI=>?hs) (λi hi s s' hI hg=>?hn) (λs nx hI=>?hf) [] (by simp)
 case hs=>
  simp only[gp]
  rw[aj (by omega),cb hi,wrap64 (n:=(i:Int)+1) (by omega) (by omega)]
  simp only[af,ae,GB,sI]
  rw[aN (by simp;omega)]
  cases (kt l[i]).2<;>rfl
 case hn=>cases hg;have:=vN s l[i];omega
 case hf=>
  simp only[gp]
  rw[ai (by omega)];rfl
 rw[tu]at this;exact this
def oE (p:aE)(z:Int):List Bytes:=ot (n0 p z)
theorem JB (p:aE)(z:Int):kh p z=some (oE p z):=by have:=sD p z;simp only[kh,HD,EO _ (show(n0 p z).length≤1000000000 by omega),ae];rfl
theorem IC (p:aE)(z:Int):jX p z=some (oE p z):=by have:=sD p z;simp only[jX,GG,DX _ (show(n0 p z).length≤1000000000 by omega),ae];rfl
theorem uD (p:aE)(z:Int):(oE p z).length≤320∧∀x∈oE p z,x.length≤382:=by have:=sD p z;have:=uO (n0 p z) [];exact⟨by unfold oE ot;simp only[List.length_nil]at this;omega,rO _ [] (by simp)⟩
theorem BK {s:Bytes}{a:Int}(h0:0≤a)(h:a+2≤(s.length:Int)):0≤cO s a∧cO s a≤65535:=by have h1:=dx s a.toNat;have h2:=dx s (a.toNat+1);unfold cO dE;rw[aj ⟨h0,h⟩];simp only[af];omega
theorem BL {s:Bytes}{a:Int}(h0:0≤a)(h:a+4≤(s.length:Int)):0≤jy s a∧jy s a≤4294967295:=by have h1:=dx s a.toNat;have h2:=dx s (a.toNat+1);have h3:=dx s (a.toNat+2);have h4:=dx s (a.toNat+3);unfold jy dE;rw[aj ⟨h0,h⟩];simp only[af];omega
theorem FF {x y:Int}(hx:0≤x∧x≤65535)(hy:0≤y∧y≤4294967295):au (au (x*2^(min (Int.toNat 32) (IntKind.bits .i64)))+y)=x*4294967296+y:=by have e:(2:Int)^(min (Int.toNat 32) (IntKind.bits .i64))=4294967296:=rfl;rw[e,wrap64 (n:=x*4294967296) (by omega) (by omega),wrap64 (by omega) (by omega)]
theorem F2 {α:Type}{l:List α}{n:Int}(h0:0≤n)(h1:n≤(l.length:Int)):sub l 0 n=some (l.take n.toNat):=by unfold sub;rw[ar (by omega)];simp
theorem vG {α:Type}{l:List α}(k:Nat)(h:k≤l.length){a:Int}(ha:a=(k:Int)):sub l a (l.length:Int)=some (l.drop k):=by unfold sub;rw[ar (by omega)];subst ha;simp
theorem Lz {α:Type}{l:List α}(k:Nat){a n:Int}(ha:a=(k:Int))(h0:a≤n)(h1:n≤(l.length:Int)):sub l a n=some ((l.take n.toNat).drop k):=by unfold sub;rw[ar (by omega)];subst ha;simp
def tW (s:Bytes):Bytes×Bool:=bif decide ((s.length:Int)<4) then([],false) else bif qe (s.take ((s.length:Int)-4).toNat)==s then(s.take ((s.length:Int)-4).toNat,true) else([],false)
theorem EM (s:Bytes)(h:s.length≤1000000000):me s=some (tW s):=by unfold me tW;rw[wrap64 (n:=(s.length:Int)-4) (by omega) (by omega)];by_cases h4:(s.length:Int)<4;rw[aj h4];rfl;rw[ai h4,F2 (by omega) (by omega)];simp only[al,ae,FY _ (show(s.take ((s.length:Int)-4).toNat).length≤1000000000 by rw[bl];omega)];cases qe (s.take ((s.length:Int)-4).toNat)==s<;>rfl
def Ii:zo:=(0,0,0,0,([]:Bytes))
def FE (s:Bytes)(a:Int):Int:=cO s a*4294967296+jy s (a+2)
def Gn (s:Bytes):zo:=(FE s 0,FE s 6,cO s 14,cO s 16,s.drop 18)
def yG (s:Bytes):zo:=(FE s 0,FE s 6, -1,cO s 12,s.drop 14)
def pw (s:Bytes):zo×Bool:=bif decide ((s.length:Int)<18) then(Ii,false) else
 bif cO s 12==33024 then(bif qG (Gn s) then(Gn s,true) else(Ii,false)) else bif qG (yG s) then(yG s,true) else(Ii,false)
theorem AD (s:Bytes)(h:s.length≤1000000000):mm s=some (pw s):=by unfold mm pw;by_cases h8:(s.length:Int)<18;rw[aj h8];rfl;rw[ai h8];simp only[al,pz s _ h,uI s _ h,ae];rw[aq (by omega),aq (by omega),vG (l:=s) 14 (by omega) (show(14:Int)=((14:Nat):Int) from rfl),ae,vG (l:=s) 18 (by omega) (show(18:Int)=((18:Nat):Int) from rfl)];rw[FF (BK (s:=s) (a:=0) (by omega) (by omega)) (BL (s:=s) (a:=2) (by omega) (by omega)),FF (BK (s:=s) (a:=6) (by omega) (by omega)) (BL (s:=s) (a:=8) (by omega) (by omega))];simp only[ae,uG];rw[show((cO s 0*4294967296+jy s 2,cO s 6*4294967296+jy s 8,cO s 14,cO s 16,s.drop 18):zo)=Gn s from rfl,show((cO s 0*4294967296+jy s 2,cO s 6*4294967296+jy s 8, -1,cO s 12,s.drop 14):zo)=yG s from rfl];cases cO s 12==33024<;>cases qG (Gn s)<;>cases qG (yG s)<;>rfl
def Sg:Ip:=(0,0,0,0,0,0,([]:Bytes))
def ya (s:Bytes):Ip:=((cf s 1:Int),cO s 4,(cf s 8:Int),(cf s 9:Int),jy s 12,jy s 16,(s.take (cO s 2).toNat).drop 20)
def rz (s:Bytes):Ip×Bool:=bif decide ((s.length:Int)<20)||(decide (cO s 2<20)||decide (cO s 2>(s.length:Int))) then(Sg,false) else
 bif (FB (ya s)).2&&((FB (ya s)).1==s.take (cO s 2).toNat) then(ya s,true) else(Sg,false)
theorem C2 (s:Bytes)(h:s.length≤1000000000):nj s=some (rz s):=by
 unfold nj rz;simp only[pz s _ h,uI s _ h,ae];by_cases h1:(s.length:Int)<20;rw[aj h1];rfl;by_cases h2:cO s 2<20;rw[ai h1,aj h2];rfl;by_cases h3:cO s 2>(s.length:Int);rw[ai h1,ai h2,aj h3];rfl;rw[ai h1,ai h2,ai h3];have b1:=mY (s[1]'(by omega));have b8:=mY (s[8]'(by omega));have b9:=mY (s[9]'(by omega));have i1:idx s 1=some (s[1]'(by omega)):=cb (i:=1) (by omega);have i8:idx s 8=some (s[8]'(by omega)):=cb (i:=8) (by omega);have i9:idx s 9=some (s[9]'(by omega)):=cb (i:=9) (by omega);simp only[al,ae,ft,i1,i8,i9];rw[Lz (l:=s) 20 (show(20:Int)=((20:Nat):Int) from rfl) (by omega) (by omega),F2 (by omega) (by omega),iQ (n:=(s[1]'(by omega)).toNat) (by omega),iQ (n:=(s[8]'(by omega)).toNat) (by omega),iQ (n:=(s[9]'(by omega)).toNat) (by omega)];have e:(((s[1]'(by omega)).toNat:Int),cO s 4,((s[8]'(by omega)).toNat:Int),((s[9]'(by omega)).toNat:Int),jy s 12,jy s 16,(s.take (cO s 2).toNat).drop 20)=ya s:=by simp only[ya,cf,di (show 1<s.length by omega),di (show 8<s.length by omega),di (show 9<s.length by omega)]
 simp only[ae,e,Jx];cases (FB (ya s)).2<;>cases (FB (ya s)).1==s.take (cO s 2).toNat<;>rfl
def OA:cr:=(0,0,0,0,0,0,0,([]:Bytes))
def EJ (k:Int)(s:Bytes):cr:=(k,cO s 0,cO s 2,jy s 4,jy s 8,(cf s 13:Int),cO s 14,s.drop 20)
def Hw (k:Int)(s:Bytes):cr:=(k,cO s 0,cO s 2,0,0,0,0,s.drop 8)
def tk (a b k:Int)(s:Bytes):cr×Bool:=
 bif (k==6)&&decide ((s.length:Int)≥20) then(bif (qS a b (EJ k s)).2&&((qS a b (EJ k s)).1==s) then(EJ k s,true) else(OA,false)) else
 bif (k==17)&&decide ((s.length:Int)≥8) then(bif (qS a b (Hw k s)).2&&((qS a b (Hw k s)).1==s) then(Hw k s,true) else(OA,false)) else(OA,false)
theorem AE (a b k:Int)(s:Bytes)(h:s.length≤1000000000):iy a b k s=some (tk a b k s):=by
 unfold iy tk;simp only[pz s _ h,uI s _ h,ae];rw[show(ab (cond (k==6) (some (decide ((s.length:Int)≥20))) (some false)):(Bool→Option (cr×Bool))→Option (cr×Bool))=λK=>K ((k==6)&&decide ((s.length:Int)≥20)) from by funext K;cases k==6<;>rfl];rw[show(ab (cond (k==17) (some (decide ((s.length:Int)≥8))) (some false)):(Bool→Option (cr×Bool))→Option (cr×Bool))=λK=>K ((k==17)&&decide ((s.length:Int)≥8)) from by funext K;cases k==17<;>rfl];simp only;cases h1:(k==6)&&decide ((s.length:Int)≥20)with
 |true=>
  simp only[aa,aI]at h1;have bb:=mY (s[13]'(by omega));have i:idx s 13=some (s[13]'(by omega)):=cb (i:=13) (by omega);have e:(k,cO s 0,cO s 2,jy s 4,jy s 8,((s[13]'(by omega)).toNat:Int),cO s 14,s.drop 20)=EJ k s:=by simp only[EJ,cf,di (show 13<s.length by omega)]
  simp only[af,i,ae];rw[vG (l:=s) 20 (by omega) (show(20:Int)=((20:Nat):Int) from rfl),iQ (n:=(s[13]'(by omega)).toNat) (by omega)];simp only[ae,e,qU];cases (qS a b (EJ k s)).2<;>cases (qS a b (EJ k s)).1==s<;>rfl
 |false=>simp only[al];cases h2:(k==17)&&decide ((s.length:Int)≥8)with|false=>rfl|true=>simp only[aa,aI]at h2;rw[vG (l:=s) 8 (by omega) (show(8:Int)=((8:Nat):Int) from rfl)];simp only[af,ae,show((k,cO s 0,cO s 2,0,0,0,0,s.drop 8):cr)=Hw k s from rfl,qU];cases (qS a b (Hw k s)).2<;>cases (qS a b (Hw k s)).1==s<;>rfl
def Ou:aE:=(0,0,0,0,0,0,0,0,0,0,0,0,0,0,0,([]:Bytes))
def zb (s:Bytes):aE×Int:=
 let e:=pw s
 bif !e.2||(e.1.2.2.2.1 !=2048) then(Ou,2) else
 let i:=rz e.1.2.2.2.2
 bif !i.2 then(Ou,3) else
 let g:=tk i.1.2.2.2.2.1 i.1.2.2.2.2.2.1 i.1.2.2.2.1 i.1.2.2.2.2.2.2
 bif !g.2 then(Ou,4) else
 bif !dp (e.1.1,e.1.2.1,e.1.2.2.1,i.1.1,i.1.2.1,i.1.2.2.1,i.1.2.2.2.2.1,i.1.2.2.2.2.2.1,g.1) then(Ou,5) else
 ((e.1.1,e.1.2.1,e.1.2.2.1,i.1.1,i.1.2.1,i.1.2.2.1,i.1.2.2.2.2.1,i.1.2.2.2.2.2.1,g.1),0)
theorem Ar (s:Bytes):(pw s).1.2.2.2.2.length≤s.length:=by
 unfold pw;cases decide ((s.length:Int)<18)with|true=>simp[Ii]|false=>?_
 cases cO s 12==33024<;>cases qG (Gn s)<;>cases qG (yG s)<;>simp[Ii,Gn,yG]
theorem CB (s:Bytes):(rz s).1.2.2.2.2.2.2.length≤s.length:=by
 unfold rz;cases decide ((s.length:Int)<20)||(decide (cO s 2<20)||decide (cO s 2>(s.length:Int)))with|true=>simp[Sg]|false=>?_
 cases (FB (ya s)).2&&((FB (ya s)).1==s.take (cO s 2).toNat)with|false=>simp[Sg]|true=>simp[ya];omega
theorem HB (s:Bytes)(h:s.length≤1000000000):lx s=some (zb s):=by
 have h1:=Ar s;unfold lx zb;rw[AD s h,ae];generalize pw s=e at h1⊢;have h2:=CB e.1.2.2.2.2;simp only;cases e.2 with|false=>rfl|true=>?_
 cases e.1.2.2.2.1 !=2048 with|true=>rfl|false=>?_
 simp only[aA,al,ae,ft,C2 _ (show e.1.2.2.2.2.length≤1000000000 by omega)];generalize rz e.1.2.2.2.2=i at h2⊢;cases i.2 with|false=>rfl|true=>?_
 simp only[aA,al,ae,AE _ _ _ _ (show i.1.2.2.2.2.2.2.length≤1000000000 by omega)];generalize tk i.1.2.2.2.2.1 i.1.2.2.2.2.2.1 i.1.2.2.2.1 i.1.2.2.2.2.2.2=g;cases g.2 with|false=>rfl|true=>?_
 simp only[aA,al,ae,rD];cases dp (e.1.1,e.1.2.1,e.1.2.2.1,i.1.1,i.1.2.1,i.1.2.2.1,i.1.2.2.2.2.1,i.1.2.2.2.2.2.1,g.1)<;>rfl
def LW (s:Bytes):aE×Int:=
 let c:=tW s
 bif !c.2 then(Ou,1) else
 let r:=zb c.1
 bif r.2 !=0 then(Ou,r.2) else
 bif !fY r.1 then(Ou,5) else(r.1,0)
theorem DF (s:Bytes):(tW s).1.length≤s.length:=by
 unfold tW;cases decide ((s.length:Int)<4)with|true=>simp|false=>?_
 cases qe (s.take ((s.length:Int)-4).toNat)==s with|false=>simp|true=>simp;omega
theorem HA (s:Bytes)(h:s.length≤1000000000):lv s=some (LW s):=by
 have h1:=DF s;unfold lv LW;rw[EM s h,ae];generalize tW s=c at h1⊢;simp only;cases c.2 with|false=>rfl|true=>?_
 simp only[aA,al,ae,HB _ (show c.1.length≤1000000000 by omega)];generalize zb c.1=r;cases r.2 !=0 with|true=>rfl|false=>?_
 simp only[al,ae,xx];cases fY r.1<;>rfl
theorem pN (a:List Bytes)(h:a.length≤1073741824):fJ a=some a:=by simp only[fJ];rw[aN (by simpa using h)];rfl
theorem vm (l:List Bytes)(h:l.length≤1000000000):ja l=some l:=by simp only[ja,lg h,bD]
theorem wI (f:Filter)(h:f.2.2.length≤1000000000):jZ f=some f:=by simp only[jZ,qA _ h,ae]
theorem xv (f:Filter)(h:f.2.2.length≤1000000000):nz f=some f:=by simp only[nz,lg h,bD]
theorem vl (l:List Stream)(h:l.length≤1000000000):iZ l=some l:=by simp only[iZ,lg h,bD]
theorem xZ (t:List Slot)(h:t.length≤1000000000):kZ t=some t:=by simp only[kZ,lg h,bD]
theorem wJ (s:kM)(h:s.2.length≤1000000000):ka s=some s:=by simp only[ka,qA _ h,ae]
theorem xY (s:bT)(h1:s.1.length≤1000000000)(h2:s.2.1.length≤1000000000)(h3:s.2.2.2.length≤1000000000):iu s=some s:=by simp only[iu,lg h1,xZ _ h2,wJ _ h3,ae,bD]
theorem rU (t:List Slot)(h:t.length≤1000000000):lC t=some t:=by simp only[lC,lg h,bD]
theorem yn (s:bT)(h1:s.1.length≤1000000000)(h2:s.2.1.length≤1000000000)(h3:s.2.2.2.length≤1000000000):nu s=some s:=by simp only[nu,lg h1,rU _ h2,lg h3,ae,bD]
structure Sq (t:kN):Prop where
 p:t.2.1.2.2.2.length≤1000000000
 w:t.2.2.1.length≤1000000000
 x:∀x∈t.2.2.1,x.2.2.length≤1000000000
theorem Ff:∀l:List qw,(ee l).length≤De (.sl mB) l
 |[]=>by simp[ee]
 |x::l=>by have:=Ff l;simp only[ee,De,List.flatMap_cons,ah,bX,List.sum_cons,cC]at this⊢;omega
theorem sW (s:sc)(z:n6 1000000000 qh s):jE s=some s:=by simp only[jE,wI _ z.1.2.2.1,xY _ z.2.1.1.1 z.2.1.2.1.1 z.2.1.2.2.2.1,vl _ z.2.2.2.1.1,vm _ z.2.2.2.2.1,ae]
def Sb:sc:=((0,false,([]:List Int)),(([]:List fe),([]:List Slot),([]:Bytes),([]:List Int)),0,([]:List Stream),([]:List Bytes))
def eT (h:Host):sc:=bif uR h then(h.2.2.2.2.2.2.2.1,h.2.2.2.2.2.2.2.2.1,(h.2.2.2.1.length:Int),h.2.2.2.2.2.2.2.2.2.1,([]:List Bytes)) else Sb
theorem zd (h:Host){n:Nat}(z:n6 n qy h):n6 n qh (eT h):=by unfold eT;cases uR h with|false=>exact⟨⟨trivial,trivial,bz _,λ_ h=>nomatch h⟩,⟨⟨bz _,λ_ h=>nomatch h⟩,⟨bz _,λ_ h=>nomatch h⟩,bz _,bz _,λ_ h=>nomatch h⟩,trivial,⟨bz _,λ_ h=>nomatch h⟩,bz _,λ_ h=>nomatch h⟩|true=>exact⟨z.2.2.2.2.2.2.2.1,z.2.2.2.2.2.2.2.2.1,trivial,z.2.2.2.2.2.2.2.2.2.1,bz _,λ_ h=>nomatch h⟩
theorem D2 (h:Host)(z:n6 1000000000 qy h)(k:Df h):ov h=some (eT h):=by have hl:=zd h z;simp only[ov,Iz h k,ae,eT]at hl⊢;cases hb:uR h with|false=>rfl|true=>rw[hb]at hl;simp only[aA,al,af]at hl⊢;simp only[sW _ hl,ae]
noncomputable def tA (s:sc):Bool:=iV s.1&&dM s.2.1 s.2.2.1
theorem IE (s:sc)(h0:s.1.2.2.length≤1000000000)(h1:s.2.1.1.length≤1000000000)(h2:s.2.1.2.1.length≤1000000000)(h3:s.2.1.2.2.2.length≤1000000000):ow s=some (tA s):=by unfold ow tA;simp only[wK _ h0,sZ _ _ h1 h2 h3,ae,bk];cases iV s.1<;>rfl
def Pn (f:Int×Int×Int×Int×Int)(s:Stream):Bool:=decide (s.1=f)
def Sc (l:List Stream)(f:Int×Int×Int×Int×Int):Int:=match l.findIdx? (Pn f)with|some i=>(i:Int)|none=> -1
theorem JC (l:List Stream)(f:Int×Int×Int×Int×Int)(h:l.length≤1000000000):ji l f=some (Sc l f):=by
 unfold ji Sc;rw[tZ (p:=Pn f) (hit:=λi=>some i) (fin:=some (-1)) l (by omega) (λi hi nx=>?hs) (λnx=>?hf)]
 case hs=>
  simp only[ga]
  rw[aj (by omega),cb hi,wrap64 (by omega) (by omega)]
  simp only[af,ae,vA,Pn];rfl
 case hf=>
  simp only[ga]
  rw[ai (by omega)];rfl
 cases l.findIdx? (Pn f)<;>rfl
def EZ:Stream:=((0,0,0,0,0),0,([]:Bytes),false)
def body (p:aE):Bytes:=p.2.2.2.2.2.2.2.2.2.2.2.2.2.2.2
def WR (p:aE):Bytes:=cG ((body p).length:Int)++body p
def Kt (p:aE)(b:Int):Bool:=au (BitVec.toNat (BitVec.ofInt (IntKind.bits .i64) p.2.2.2.2.2.2.2.2.2.2.2.2.2.1&&&BitVec.ofInt (IntKind.bits .i64) b)) !=0
def Dk (s:Stream)(p:aE):Int:=(s.2.1-p.2.2.2.2.2.2.2.2.2.2.2.1)%4294967296
def Vl (s:Stream)(p:aE):Stream:=(s.1,(s.2.1+((body p).length:Int)-Dk s p)%4294967296,s.2.2.1++(body p).drop (Dk s p).toNat,Kt p 1)
def Ic (l:List Stream)(p:aE):List Stream:=
 bif !dp p then l else
 match l.findIdx? (Pn (Ad p))with
 |none=>
  bif p.2.2.2.2.2.2.2.2.1==17 then l++[(Ad p,0,WR p,false)] else
  bif Kt p 2 then l++[(Ad p,Int.tmod (au (p.2.2.2.2.2.2.2.2.2.2.2.1+1)) 4294967296,([]:Bytes),false)] else l
 |some i=>
  bif p.2.2.2.2.2.2.2.2.1==17 then l.set i ((l.getD i EZ).1,(l.getD i EZ).2.1,(l.getD i EZ).2.2.1++WR p,(l.getD i EZ).2.2.2) else
  bif Kt p 2 then l else
  bif (l.getD i EZ).2.2.2||Kt p 4 then l else
  bif decide (Dk (l.getD i EZ) p≤((body p).length:Int)) then l.set i (Vl (l.getD i EZ) p) else l
theorem yK {s:Bytes}{a:Nat}:cO s (a:Int)=bif decide (a+2≤s.length) then((cf s a*256+cf s (a+1):Nat):Int) else-1:=by unfold cO dE;rw[aV,show decide ((0:Int)≤a∧(a:Int)+2≤(s.length:Int))=decide (a+2≤s.length) from decide_eq_decide.2 (by omega)]
theorem BJ {s t:Bytes}{a:Nat}(hl:s.length=t.length)(h0:cf s a=cf t a)(h1:cf s (a+1)=cf t (a+1)):cO s (a:Int)=cO t (a:Int):=by rw[yK,yK,hl,h0,h1]
def mU (s:Bytes):Nat:=bif cO s 12==33024 then 18 else 14
def wR (s:Bytes):Nat:=cf s (mU s+9)
def Lv (k:Nat):Nat:=bif (k:Int)==6 then 16 else 6
def E1 (s:Bytes):Nat:=mU s+10
def yt (s:Bytes):Nat:=mU s+20+Lv (wR s)
theorem Lw (k:Nat):Lv k=16∧k=6∨Lv k=6∧k≠6:=by unfold Lv;by_cases h:k=6;subst h;exact .inl ⟨rfl,rfl⟩;exact .inr ⟨by rw[show((k:Int)==6)=false from by rw[beq_eq_false_iff_ne];omega];rfl,h⟩
theorem H5 (s:Bytes):mU s=18∧(cO s 12==33024)=true∨mU s=14∧(cO s 12==33024)=false:=by unfold mU;cases cO s 12==33024 with|true=>exact .inl ⟨rfl,rfl⟩|false=>exact .inr ⟨rfl,rfl⟩
def yx (s t:Bytes):Prop:=s.length=t.length∧∀i,i<E1 t∨(E1 t+2≤i∧i<yt t)∨yt t+2≤i→cf s i=cf t i
theorem CC (t:Bytes):(mU t=14∨mU t=18)∧E1 t=mU t+10∧mU t+26≤yt t∧yt t≤mU t+36∧(yt t=mU t+36∧wR t=6∨yt t=mU t+26∧wR t≠6):=by have h1:=H5 t;have h2:=Lw (wR t);unfold E1 yt;omega
theorem yx.body {s t:Bytes}(h:yx s t):mU s=mU t:=by have:=CC t;unfold mU;have e:cO s ((12:Nat):Int)=cO t ((12:Nat):Int):=BJ h.1 (h.2 _ (by omega)) (h.2 _ (by omega));rw[show(12:Int)=((12:Nat):Int) from rfl,e]
theorem yx.kind {s t:Bytes}(h:yx s t):wR s=wR t:=by have:=CC t;unfold wR;rw[h.body,h.2 _ (by omega)]
theorem yx.Vj {s t:Bytes}(h:yx s t):E1 s=E1 t∧yt s=yt t:=by unfold E1 yt;rw[h.body,h.kind];exact⟨rfl,rfl⟩
theorem Ms (a k:Nat):Int.tdiv (a:Int) (k:Int)=((a/k:Nat):Int):=(Int.ofNat_tdiv a k).symm
theorem Mt (a k:Nat):Int.tmod (a:Int) (k:Int)=((a%k:Nat):Int):=(Int.ofNat_tmod a k).symm
theorem mem_iff {m:List Bytes}:cW m=true↔(∀x∈m,x.length=128)∧m.length≤64:=by simp only[cW,aa,aF,aS,aI];constructor;rintro⟨h1,h2⟩;exact⟨λx hx=>by have:=h1 x hx;omega,by omega⟩;rintro⟨h1,h2⟩;exact⟨λx hx=>by have:=h1 x hx;omega,by omega⟩
def R7 (m:List Bytes)(a n:Nat):Bytes:=(m.flatten.drop a).take n
def kq (m:List Bytes)(a n:Int):Bool:=cW m&&decide (0≤n∧0≤a∧a+n≤128*(m.length:Int))
theorem u0 (m:List Bytes)(a n:Int)(h:m.length≤1000000000):gD m a n=some (kq m a n):=by unfold gD kq;rw[sA m h,ae,wrap64 (n:=128*(m.length:Int)) (by omega) (by omega)];cases hm:cW m with|false=>rfl|true=>simp only[af,bW];by_cases h1:n≥0;by_cases h3:a≥0;by_cases h2:a≤128*(m.length:Int);rw[wrap64 (n:=128*(m.length:Int)-a) (by omega) (by omega)];simp only[aj h1,aj h2,aj h3,af,ae];exact congrArg some (decide_eq_decide.2 (by omega));simp only[aj h1,ai h2,aj h3,af,al,ae];exact congrArg some (ai (by omega)).symm;simp only[aj h1,ai h3,af,al,ae];exact congrArg some (ai (by omega)).symm;simp only[ai h1,al,ae];exact congrArg some (ai (by omega)).symm
def yc (d p:Int)(w:Bool)(x:aR):Bool:=la d p x&&(x.2.2.2|| !w)
def qq (l:List aR)(d p:Int)(w:Bool):Int:=match l.findIdx? (yc d p w)with|some i=>(l.getD i wY).2.2.1|none=> -1
theorem Jz (l:List aR)(d p:Int)(w:Bool)(h:l.length≤1000000000):nv l d p w=some (qq l d p w):=by unfold nv qq;refine Eq.trans (tZ (p:=yc d p w) (hit:=λi=>ab (idx l i) λx=>some x.2.2.1) (fin:=some (-1)) l (by omega) (λi hi nx=>?_) (λnx=>?_)) ?_;simp only[km];rw[aj (by omega),cb hi,wrap64 (by omega) (by omega)];simp only[af,ae,yc,la];cases l[i].1==d<;>cases l[i].2.1==p<;>cases l[i].2.2.2<;>cases w<;>rfl;simp only[km];rw[ai (by omega)];rfl;cases hf:l.findIdx? (yc d p w)with|none=>rfl|some i=>obtain⟨hi,_⟩:=List.findIdx?_eq_some_iff_getElem.1 hf;simp only[cb hi,ae,di hi]
theorem IU {l:List aR}(h:dy l=true){i:Nat}(hi:i<l.length):wX l[i]=true∧∀j (hj:j<i),la l[i].1 l[i].2.1 (l[j]'(by omega))=false:=by simp only[dy,aa,aF,bN]at h;have:=h.2 i hi;simp only[wW,aa,aF,bN,di hi,aC]at this;exact⟨this.1,λj hj=>by have:=this.2 j hj;rwa[di (by omega)]at this⟩
theorem GQ {d p:Int}{m:aR}:la d p m=true↔m.1=d∧m.2.1=p:=by simp[la]
theorem I9 {l:List aR}(h:dy l=true)(d p:Int)(w:Bool)(h1:0≤qq l d p w):qq l d p w≤63∧0≤p∧p≤1023:=by unfold qq at h1⊢;cases hf:l.findIdx? (yc d p w)with|none=>rw[hf]at h1;simp at h1|some i=>obtain⟨hi,h2,_⟩:=List.findIdx?_eq_some_iff_getElem.1 hf;have h3:=(IU h hi).1;simp only[yc,aa,GQ]at h2;simp only[wX,aa,bw]at h3;simp only[di hi];omega
def lf (l:List aR)(m:List Bytes)(d:Int)(w:Bool):Nat→Nat→Nat→Option (List (Int×Int))
 |0,_,_=>some []
 |n+1,a,r=>if r=0 then some [] else
  if 0≤qq l d ((a/128:Nat):Int) w∧qq l d ((a/128:Nat):Int) w<(m.length:Int) then
   (lf l m d w n (a+min (128-a%128) r) (r-min (128-a%128) r)).map (λq=>(qq l d ((a/128:Nat):Int) w*128+((a%128:Nat):Int),((min (128-a%128) r:Nat):Int))::q)
  else none
theorem Db {m:List Bytes}(hm:cW m=true){f:Int}(h0:0≤f):kq m (f*128) 128=decide (f<(m.length:Int)):=by rw[kq,hm,bW];exact decide_eq_decide.2 (by omega)
theorem tG {l:List aR}{m:List Bytes}(hl:dy l=true)(hL:l.length≤1000000000)(hm:cW m=true)(d:Int)(w:Bool):∀(n a r f:Nat)(acc:List (Int×Int)),r≤n→n<f→acc.length+n≤1000000→a≤9223372036854775807→
 bc (eW (λ(y10:Int) (y11:Int) (y12:List Int) (y13:List Int)=>some (y12,y13,true)) (λ(y14:Int) (y15:Int) (y16:List Int) (y17:List Int) (y18:Bool) (y19:List Int) (y20:List Int)=>some (y16,y17,y18)) l d w ([]:List Int) ([]:List Int) false m) f ((a:Int),(r:Int),acc.map (·.1),acc.map (·.2))
  =match lf l m d w n a r with|some q=>some ((acc++q).map (·.1),(acc++q).map (·.2),true)|none=>some ([],[],false)
 |n,a,r,0,acc,_,hf,_,_=>by omega
 |0,a,r,f+1,acc,hr,hf,hA,ha=>by rw[bc];simp only[eW];rw[ai (by omega)];simp[lf]
 |n+1,a,r,f+1,acc,hr,hf,hA,ha=>by
  have h64:=(mem_iff.1 hm).2;rw[bc];simp only[eW,lf];by_cases h0:r=0;rw[ai (by omega),ar h0];simp;have e1:Int.tdiv (a:Int) 128=((a/128:Nat):Int):=Ms a 128;have e2:Int.tmod (a:Int) 128=((a%128:Nat):Int):=Mt a 128;have hin:=I9 hl d ((a/128:Nat):Int) w;rw[aj (show(r:Int)>0 by omega),aj (show(a:Int)≥0 by omega),aq h0];simp only[af];rw[aq (by omega),e1,e2,wrap64 (n:=((a/128:Nat):Int)) (by omega) (by omega),Jz l _ _ w hL,ae,aq (by omega),wrap64 (n:=128-((a%128:Nat):Int)) (by omega) (by omega)];obtain⟨c,hc⟩:∃c,min (128-a%128) r=c:=⟨_,rfl⟩
  rw[hc,show(if 128-((a%128:Nat):Int)<(r:Int) then 128-((a%128:Nat):Int) else(r:Int))=(c:Int) by split<;>omega];generalize hP:qq l d ((a/128:Nat):Int) w=P at hin⊢;by_cases hP0:0≤P;have hin:=hin hP0;rw[ai (show¬P<0 by omega),wrap64 (n:=P*128) (by omega) (by omega),u0 m _ _ (by omega),Db hm hP0];simp only[al,ae];by_cases hP1:P<(m.length:Int);rw[aj hP1,ar ⟨hP0,hP1⟩];simp only[aA,al];rw[aN (by simp;omega),aN (by simp;omega),wrap64 (n:=P*128+((a%128:Nat):Int)) (by omega) (by omega),wrap64 (n:=(a:Int)+(c:Int)) (by omega) (by omega),wrap64 (n:=(r:Int)-(c:Int)) (by omega) (by omega)];have key:=tG hl hL hm d w n (a+c) (r-c) f (acc++[(P*128+((a%128:Nat):Int),(c:Int))]) (by omega) (by omega) (by simp;omega) (by omega);rw[show((a+c:Nat):Int)=(a:Int)+(c:Int) by omega,show((r-c:Nat):Int)=(r:Int)-(c:Int) by omega,List.map_append,List.map_append]at key;refine Eq.trans key ?_;cases lf l m d w n (a+c) (r-c)with|none=>rfl|some q=>simp
  rw[ai hP1,aq (by omega)];rfl;rw[aq (by omega),aj (by omega)];rfl
def kG (l:List aR)(m:List Bytes)(d a n:Int)(w:Bool):List (Int×Int)×Bool:=
 bif dy l&&(cW m&&cL n 0 4096) then
  (bif n==0 then([],true) else bif decide (a<0) then([],false) else match lf l m d w n.toNat a.toNat n.toNat with|some q=>(q,true)|none=>([],false))
 else([],false)
theorem Hz (l:List aR)(m:List Bytes)(d a n:Int)(w:Bool)(hl:l.length≤1000000000)(hm:m.length≤1000000000)(ha:a≤9223372036854775807):mx l m d a n w=some ((kG l m d a n w).1.map (·.1),(kG l m d a n w).1.map (·.2),(kG l m d a n w).2):=by
 have hfu:=ek;unfold mx kG;simp only[AB l hl,sA m hm,cx,ae];cases hB:dy l with|false=>rfl|true=>?_
 cases hM:cW m with|false=>rfl|true=>?_
 cases hN:cL n 0 4096 with|false=>rfl|true=>?_
 have hn:=bw.1 hN;simp only[aA,al,ae,dH,af];obtain⟨n,rfl⟩:=bL hn.1;cases h0:((n:Int)==0)with
 |true=>
  have:n=0:=by simpa using h0
  subst this;obtain⟨f,hf⟩:∃f,fuel=f+1:=⟨fuel-1,by omega⟩
  rw[hf,bc];rfl
 |false=>
  have hn0:n≠0:=by simpa using h0
  by_cases hA:a<0;obtain⟨f,hf⟩:∃f,fuel=f+1:=⟨fuel-1,by omega⟩
  rw[aj hA,hf,bc];simp only[eW];rw[aj (by omega),ai (by omega)];rfl;rw[ai hA];simp only[al];obtain⟨a,rfl⟩:=bL (show 0≤a by omega);refine Eq.trans (tG hB hl hM d w n a n fuel [] (by omega) (by omega) (by simp;omega) (by omega)) ?_;simp only[aV];cases lf l m d w n a n<;>rfl
def xa (x:Bytes)(o:Nat)(t:Bytes):Bytes:=x.take o++(t++x.drop (o+t.length))
theorem Hf {x:Bytes}{o:Nat}{t:Bytes}(h:o+t.length≤x.length):(xa x o t).length=x.length:=by simp only[xa,ah,bl,bj];omega
theorem Je {x:Bytes}{o:Nat}{t:Bytes}(h:o+t.length≤x.length):tq x (o:Int) t=xa x o t:=by unfold tq dE;rw[aj ⟨by omega,by omega⟩];simp only[af,aV,xa,ay]
def re:Nat→List Bytes→Nat→Bytes→List Bytes
 |0,m,_,_=>m
 |n+1,m,a,s=>if s.length=0 then m else
  re n (m.set (a/128) (xa (m.getD (a/128) []) (a%128) (s.take (128-a%128)))) (a+min (128-a%128) s.length) (s.drop (128-a%128))
def sv (m:List Bytes):Prop:=(∀x∈m,x.length=128)∧m.length≤64
theorem nK {m:List Bytes}:cW m=true↔sv m:=mem_iff
theorem yW {m:List Bytes}{p:Nat}{x:Bytes}(h:sv m)(hx:x.length=128):sv (m.set p x):=by refine⟨λy hy=>?_,by rw[aL];exact h.2⟩;rcases List.mem_or_eq_of_mem_set hy with g|g;exact h.1 y g;rw[g];exact hx
theorem xQ {m:List Bytes}(h:sv m){a:Nat}{s:Bytes}(hs:s.length≠0)(ha:a+s.length≤128*m.length): ∃(hp:a/128<m.length),(m[a/128]'hp).length=128∧(xa (m[a/128]'hp) (a%128) (s.take (128-a%128))).length=128:=by
 have hp:a/128<m.length:=by omega
 have hl:=h.1 _ (List.getElem_mem hp);refine⟨hp,hl,?_⟩;rw[Hf (by rw[bl,hl];omega),hl]
theorem qf:∀(n:Nat){m:List Bytes}{a:Nat}{s:Bytes},sv m→a+s.length≤128*m.length→sv (re n m a s)∧(re n m a s).length=m.length
 |0,m,a,s,h,_=>⟨h,rfl⟩
 |n+1,m,a,s,h,ha=>by rw[re];split;exact⟨h,rfl⟩;rename_i hs;obtain⟨hp,hl,ho⟩:=xQ h hs ha;rw[di hp];have:=qf n (m:=m.set (a/128) (xa m[a/128] (a%128) (s.take (128-a%128)))) (a:=a+min (128-a%128) s.length) (s:=s.drop (128-a%128)) (yW h ho) (by rw[aL,bj];omega);rw[aL]at this;exact this
theorem rV {R:Type}(K:Int→Bytes→List Bytes→Option R)(K':List Bytes→Option R)(hK:∀a m,K a [] m=K' m):∀(n:Nat)(m:List Bytes)(a:Nat)(s:Bytes)(f:Nat),s.length≤n→n<f→sv m→a+s.length≤128*m.length→
 bc (gb K ([]:List Bytes)) f ((a:Int),s,m)=K' (re n m a s)
 |n,m,a,s,0,_,hf,_,_=>by omega
 |n,m,a,s,f+1,hs,hf,hm,ha=>by
  rw[bc];simp only[gb];by_cases h0:s.length=0;have:s=[]:=bh h0;subst this;rw[ai (by simp),al,hK];cases n<;>simp[re];cases n with
  |zero=>omega
  |succ n=>
   obtain⟨hp,hl,ho⟩:=xQ hm h0 ha;have h64:=hm.2;have e1:Int.tdiv (a:Int) 128=((a/128:Nat):Int):=Ms a 128;have e2:Int.tmod (a:Int) 128=((a%128:Nat):Int):=Mt a 128;rw[aj (by omega),af,aq (by omega),aq (by omega),aq (by omega),e1,e2,wrap64 (n:=((a/128:Nat):Int)) (by omega) (by omega),wrap64 (n:=128-((a%128:Nat):Int)) (by omega) (by omega),cb hp,ae];obtain⟨c,hc⟩:∃c,min (128-a%128) s.length=c:=⟨_,rfl⟩
   rw[show(if 128-((a%128:Nat):Int)<(s.length:Int) then 128-((a%128:Nat):Int) else(s.length:Int))=(c:Int) by split<;>omega];have ht:s.take c=s.take (128-a%128):=by by_cases h3:128-a%128≤s.length;rw[←hc,Nat.min_eq_left h3];rw[←hc,Nat.min_eq_right (by omega),bf (aK _),bf (by omega)]
   have hdr:s.drop c=s.drop (128-a%128):=by by_cases h3:128-a%128≤s.length;rw[←hc,Nat.min_eq_left h3];rw[←hc,Nat.min_eq_right (by omega),bO (aK _),bO (by omega)]
   have hs1:sub s 0 (c:Int)=some (s.take (128-a%128)):=by rw[←ht];unfold sub;rw[ar (by omega)];simp
   have hs2:sub s (c:Int) (s.length:Int)=some (s.drop (128-a%128)):=by rw[←hdr];unfold sub;rw[ar (by omega)];simp
   rw[hs1,ae,tF _ _ _ (by omega),ae,ae,ae,hs2,ae,Je (by rw[bl,hl];omega),wrap64 (n:=(a:Int)+(c:Int)) (by omega) (by omega),aV];rw[re,aq h0,di hp,hc,show(a:Int)+(c:Int)=((a+c:Nat):Int) by omega];exact rV K K' hK n _ _ _ f (by rw[bj];omega) (by omega) (yW hm ho) (by rw[aL,bj];omega)
def oJ (m:List Bytes)(a:Int)(s:Bytes):List Bytes×Bool:=bif kq m a (s.length:Int) then(re s.length m a.toNat s,true) else(m,false)
theorem ET (m:List Bytes)(a:Int)(s:Bytes)(h:m.length≤1000000000)(hs:s.length≤1000000000):jk m a s=some (oJ m a s):=by
 have hfu:=ek;unfold jk oJ;rw[pN m (by omega),ae,u0 m _ _ h,ae];cases hw:kq m a (s.length:Int)with|false=>rfl|true=>?_
 simp only[kq,aa,aI]at hw;obtain⟨a,rfl⟩:=bL hw.2.2.1;simp only[aA,al,af,aV];exact rV _ (λm=>some (m,true)) (λ_ _=>rfl) s.length m a s fuel (aK _) (by omega) (nK.1 hw.1) (by omega)
theorem vj (m:List Bytes)(a:Int)(s:Bytes):(oJ m a s).1.length=m.length:=by
 unfold oJ;cases hw:kq m a (s.length:Int)with|false=>rfl|true=>?_
 simp only[kq,aa,aI]at hw;exact(qf s.length (nK.1 hw.1) (by omega)).2
def CI:List (Int×Int)→List Bytes→Bytes→List Bytes
 |[],m,_=>m
 |p::q,m,s=>CI q (oJ m p.1 (s.take p.2.toNat)).1 (s.drop p.2.toNat)
theorem CJ:∀(q:List (Int×Int))(m:List Bytes)(s:Bytes),(CI q m s).length=m.length
 |[],m,s=>rfl
 |p::q,m,s=>by rw[CI,CJ q,vj]
def xG (q:List (Int×Int)):Int:=(q.map (·.2)).sum
theorem F4:∀(q:List (Int×Int)),(∀p∈q,0≤p.2)→0≤xG q
 |[],_=>dR _
 |p::q,h=>by have:=F4 q (λx hx=>h x (by simp[hx]));have:=h p (by simp);simp only[xG,bX,List.sum_cons]at*;omega
theorem Jf {p:Int×Int}{q:List (Int×Int)}(hc:∀x∈p::q,0≤x.2){s:Bytes}(hs:(s.length:Int)=xG (p::q)):0≤p.2∧p.2≤(s.length:Int)∧((s.drop p.2.toNat).length:Int)=xG q:=by
 have h1:=hc p (by simp);have h2:=F4 q (λx hx=>hc x (by simp[hx]));have h3:xG (p::q)=p.2+xG q:=by simp[xG]
 rw[h3]at hs;refine⟨h1,by omega,?_⟩;rw[bj];omega
theorem HI {s:Bytes}{c:Int}(h0:0≤c)(h1:c≤(s.length:Int)):sub s 0 c=some (s.take c.toNat):=by unfold sub;rw[ar (by omega)];simp
theorem JE {s:Bytes}{c:Int}(h0:0≤c)(h1:c≤(s.length:Int)):sub s c (s.length:Int)=some (s.drop c.toNat):=by unfold sub;rw[ar (by omega)];simp
theorem uZ (K:Bytes→Int→List Bytes→Option (List Bytes×Bool))(hK:∀s i m,K s i m=some (m,true)):∀(rest pre:List (Int×Int))(m:List Bytes)(s:Bytes)(f:Nat),rest.length<f→pre.length+rest.length≤1000000→(∀x∈rest,0≤x.2)→(s.length:Int)=xG rest→m.length≤1000000000→s.length≤1000000→
 bc (gw K ((pre++rest).map (·.1)) ((pre++rest).map (·.2)) ([]:List Bytes)) f (s,(pre.length:Int),m)=some (CI rest m s,true)
 |rest,pre,m,s,0,hf,_,_,_,_,_=>by omega
 |[],pre,m,s,f+1,_,_,_,_,_,_=>by rw[bc];simp only[gw];rw[ai (by simp),al,hK];rfl
 |p::q,pre,m,s,f+1,hf,hn,hc,hs,hm,hl=>by
  obtain⟨h1,h2,h3⟩:=Jf hc hs;simp only[cC]at hf hn;have hi:pre.length<(pre++p::q).length:=by simp
  have hp:(pre++p::q)[pre.length]=p:=by simp
  have i1:idx ((pre++p::q).map (·.1)) (pre.length:Int)=some p.1:=by rw[cb (by simp),List.getElem_map,hp]
  have i2:idx ((pre++p::q).map (·.2)) (pre.length:Int)=some p.2:=by rw[cb (by simp),List.getElem_map,hp]
  rw[bc];simp only[gw];rw[aj (by simp;omega),i1,i2,wrap64 (by omega) (by omega)];simp only[af,ae,HI h1 h2,JE h1 h2,ET m _ _ hm (show(s.take p.2.toNat).length≤1000000000 by rw[bl];omega)];have key:=uZ K hK q (pre++[p]) (oJ m p.1 (s.take p.2.toNat)).1 (s.drop p.2.toNat) f (by omega) (by simp;omega) (λx hx=>hc x (by simp[hx])) h3 (by rw[vj];exact hm) (by rw[bj];omega);have el:((pre++[p]).length:Int)=(pre.length:Int)+1:=by simp
  rw[ay,List.singleton_append,el]at key;rw[CI];exact key
theorem xd (l:List aR)(m:List Bytes)(d:Int)(w:Bool):∀(n a r:Nat)(q:List (Int×Int)),r≤n→lf l m d w n a r=some q→xG q=(r:Int)∧(∀p∈q,0≤p.2)∧q.length≤n
 |0,a,r,q,hr,h=>by simp only[lf,aH]at h;subst h;exact⟨by show(0:Int)=_;omega,by simp,by simp⟩
 |n+1,a,r,q,hr,h=>by simp only[lf]at h;split at h;simp only[aH]at h;subst h;exact⟨by show(0:Int)=_;omega,by simp,by simp⟩;split at h;simp only[Option.map_eq_some_iff]at h;obtain⟨q',h1,rfl⟩:=h;obtain⟨i1,i2,i3⟩:=xd l m d w n _ _ q' (by omega) h1;refine⟨?_,?_,by simp only[cC];omega⟩;simp only[xG,bX,List.sum_cons]at i1⊢;rw[i1];omega;intro p hp;rcases bn.1 hp with rfl|hp;show(0:Int)≤((min (128-a%128) r:Nat):Int);omega;exact i2 p hp;cases h
theorem Hs (l:List aR)(m:List Bytes)(d a n:Int)(w:Bool)(h:(kG l m d a n w).2=true):xG (kG l m d a n w).1=n∧(∀p∈(kG l m d a n w).1,0≤p.2)∧(kG l m d a n w).1.length≤4096∧n≤4096:=by
 unfold kG at h⊢;cases hB:dy l&&(cW m&&cL n 0 4096)with|false=>rw[hB]at h;simp at h|true=>?_
 rw[hB]at h;simp only[aa,bw]at hB;simp only[af]at h⊢;cases h0:n==0 with
 |true=>
  have:n=0:=by simpa using h0
  subst this;exact⟨rfl,by simp,by simp,by omega⟩
 |false=>rw[h0]at h;simp only[al]at h⊢;cases ha:decide (a<0)with|true=>rw[ha]at h;simp at h|false=>rw[ha]at h;simp only[al]at h⊢;cases hq:lf l m d w n.toNat a.toNat n.toNat with|none=>rw[hq]at h;cases h|some q=>obtain⟨i1,i2,i3⟩:=xd l m d w _ _ _ q (aK _) hq;exact⟨by simp only;rw[i1];omega,i2,by simp only;omega,by omega⟩
def oS (l:List aR)(m:List Bytes)(d a:Int)(s:Bytes)(w:Bool):List Bytes×Bool:=
 bif (kG l m d a (s.length:Int) w).2 then(CI (kG l m d a (s.length:Int) w).1 m s,true) else(m,false)
theorem xi (l:List aR)(m:List Bytes)(d a:Int)(s:Bytes)(w:Bool):(oS l m d a s w).1.length=m.length:=by unfold oS;cases (kG l m d a (s.length:Int) w).2 with|false=>rfl|true=>exact CJ _ _ _
theorem tC (l:List aR)(m:List Bytes)(d a:Int)(s:Bytes)(hl:l.length≤1000000000)(hm:m.length≤1000000000)(ha:a≤9223372036854775807):jM l m d a s=some (oS l m d a s true):=by
 have hfu:=ek;unfold jM oS;rw[Hz l m d a _ true hl hm ha,ae,pN m (by omega),ae];have hS:=Hs l m d a (s.length:Int) true;generalize kG l m d a (s.length:Int) true=r at hS⊢;cases hr:r.2 with|false=>rfl|true=>?_
 obtain⟨h1,h2,h3,h4⟩:=hS hr;simp only[aA,al,af];exact uZ _ (λ_ _ _=>rfl) r.1 [] m s fuel (by omega) (by simp;omega) h2 h1.symm hm (by omega)
def Kj (x:aR):aR:=(x.1,x.2.1,x.2.2.1,true)
theorem getD_map {l:List aR}{i:Nat}(hi:i<l.length):(l.map Kj).getD i wY=Kj (l.getD i wY):=by rw[di (by simpa using hi),di hi,List.getElem_map]
theorem Aj (l:List aR):dy (l.map Kj)=dy l:=by
 unfold dy;rw[List.length_map];congr 1;rw[bU,aF,aF];have key:∀i,i<l.length→wW (l.map Kj) i=wW l i:=by
  intro i hi;unfold wW;rw[getD_map hi];congr 1;rw[bU,aF,aF];constructor;intro h j hj;have hjl:j<l.length:=by have:=bN.1 hj;omega
  have:=h j hj;rw[getD_map hjl]at this;exact this;intro h j hj;have hjl:j<l.length:=by have:=bN.1 hj;omega
  rw[getD_map hjl];exact h j hj
 constructor;intro h i hi;rw[←key i (bN.1 hi)];exact h i hi;intro h i hi;rw[key i (bN.1 hi)];exact h i hi
theorem Ja (l:List aR)(d p:Int):qq (l.map Kj) d p true=qq l d p false:=by
 unfold qq;rw[List.findIdx?_map];have e:(yc d p true∘Kj)=yc d p false:=by funext x;simp only[Function.comp,yc,la,Kj,cV,Bool.or_true,eH]
 rw[e];cases hf:l.findIdx? (yc d p false)with|none=>rfl|some i=>obtain⟨hi,_⟩:=List.findIdx?_eq_some_iff_getElem.1 hf;simp only[getD_map hi];rfl
theorem yY (l:List aR)(m:List Bytes)(d:Int):∀n a r,lf (l.map Kj) m d true n a r=lf l m d false n a r
 |0,a,r=>rfl
 |n+1,a,r=>by simp only[lf,Ja,yY l m d n]
theorem Li (l:List aR)(m:List Bytes)(d a:Int)(s:Bytes):oS (l.map Kj) m d a s true=oS l m d a s false:=by
 have e:kG (l.map Kj) m d a (s.length:Int) true=kG l m d a (s.length:Int) false:=by simp only[kG,Aj,yY]
 simp only[oS,e]
theorem yo (l:List aR)(m:List Bytes)(d a:Int)(s:Bytes)(hl:l.length≤1000000000)(hm:m.length≤1000000000)(ha:a≤9223372036854775807):ln l m d a s=some (oS l m d a s false):=by unfold ln;refine jo (λi=>((l.take i).map Kj,(i:Int))) l.length (by omega) (λi nx hi=>?_) (λnx=>?_);simp only[iw];rw[aj (by omega),cb hi,wrap64 (by omega) (by omega)];simp only[af,ae];rw[aN (by simp;omega),List.take_succ_eq_append_getElem hi,List.map_append];rfl;simp only[iw];rw[ai (by omega),al,List.take_length,tC _ m d a s (by rw[List.length_map];exact hl) hm ha,Li];rfl
def Ft (d:Int×Int×Int×Int×Int×Int):Bool:=cL d.1 0 3&&(cL d.2.1 0 3&&(cL d.2.2.1 0 65535&&(cL d.2.2.2.2.1 0 65535&&(cL d.2.2.2.2.2 0 65535&&cL d.2.2.2.1 0 4294967295))))
theorem Ju (d:Int×Int×Int×Int×Int×Int):oG d=some (Ft d):=by simp only[oG,cx,ae,Ft];cases cL d.1 0 3<;>cases cL d.2.1 0 3<;>cases cL d.2.2.1 0 65535<;>cases cL d.2.2.2.2.1 0 65535<;>cases cL d.2.2.2.2.2 0 65535<;>rfl
def KG (d:Int×Int×Int×Int×Int×Int):Bytes:=
 bif Ft d then((((bytesOf [dB d.1,dB d.2.1]++cG d.2.2.1)++fj d.2.2.2.1)++cG d.2.2.2.2.1)++cG d.2.2.2.2.2)++fj 0 else []
theorem Lr (d:Int×Int×Int×Int×Int×Int):kc d=some (KG d):=by
 have h1:=bu d.2.2.1;have h2:=c7 d.2.2.2.1;have h3:=bu d.2.2.2.2.1;have h4:=bu d.2.2.2.2.2;have h5:=c7 0;have h0:(bytesOf [dB d.1,dB d.2.1]).length=2:=rfl;unfold kc KG;rw[Ju,ae];cases Ft d with|false=>rfl|true=>?_
 simp only[aA,al,af,iL,ky,ae];rw[aN (by omega),aN (by simp only[ah];omega),aN (by simp only[ah];omega),aN (by simp only[ah];omega),aN (by simp only[ah];omega)]
def lI (r:Int×Int×Int×Int):Int:=bif dP r then au (r.2.1-dK r) else 0
def qt (r:Int×Int×Int×Int)(c:Int):Int:=bif !dP r||decide (c<0) then-1 else r.1+Int.tmod c r.2.1*16
theorem pU {r:Int×Int×Int×Int}(h:dP r=true):0≤r.1∧r.1≤130944∧(r.2.1=2∨r.2.1=4∨r.2.1=8∨r.2.1=16)∧0≤r.2.2.1∧r.2.2.1≤2*r.2.1-1∧0≤r.2.2.2∧r.2.2.2≤2*r.2.1-1:=by simp only[dP,aa,bw]at h;exact⟨h.1.1,h.1.2,eu.1 h.2.1,h.2.2.1.1,h.2.2.1.2,h.2.2.2.1.1,h.2.2.2.1.2⟩
theorem CX (r:Int×Int×Int×Int)(c:Int): -1≤qt r c∧qt r c≤200000:=by
 unfold qt;cases hc: !dP r||decide (c<0)with
 |true=>exact⟨dR _,by simp⟩
 |false=>
  simp only[Bool.or_eq_false_iff,Bool.not_eq_false',decide_eq_false_iff_not]at hc;have h:=pU hc.1;have h2:0≤Int.tmod c r.2.1∧Int.tmod c r.2.1<r.2.1:=by rw[dv (by omega)];exact⟨dF _ (by omega),ed _ (by omega)⟩
  simp only[al];omega
def cU (l:List aR)(m:List Bytes)(d:Int)(r:Int×Int×Int×Int)(s:Bytes):List Bytes×(Int×Int×Int×Int)×Bool:=
 bif (lI r==0)||((s.length:Int) !=16) then(m,r,false) else
 bif !(oS l m d (qt r r.2.2.2) s true).2 then(m,r,false) else
 ((oS l m d (qt r r.2.2.2) s true).1,(r.1,r.2.1,r.2.2.1,Int.tmod (r.2.2.2+1) (2*r.2.1)),true)
theorem Hm {l:List aR}{m:List Bytes}{d a:Int}{s:Bytes}{w:Bool}(h:(oS l m d a s w).2=false):(oS l m d a s w).1=m:=by unfold oS at h⊢;cases hr:(kG l m d a (s.length:Int) w).2 with|false=>rfl|true=>rw[hr]at h;cases h
theorem uH (r:Int×Int×Int×Int):jQ r=some (lI r):=by
 unfold jQ lI;rw[xy,ae];cases dP r with|false=>rfl|true=>?_
 simp only[aA,al,af,C4,ae]
theorem HC (r:Int×Int×Int×Int)(c:Int):jg r c=some (qt r c):=by
 have hin:=CX r c;unfold jg;rw[xy,ae];unfold qt at hin⊢;cases hb:dP r with|false=>rfl|true=>?_
 have h:=pU hb;by_cases hc:c<0;rw[aj hc];rfl;rw[hb,ai hc]at hin;rw[ai hc];have h2:0≤Int.tmod c r.2.1∧Int.tmod c r.2.1<r.2.1:=by rw[dv (by omega)];exact⟨dF _ (by omega),ed _ (by omega)⟩
 simp only[aA,al,ae,ft]at hin⊢;rw[aq (by omega),wrap64 (n:=16*Int.tmod c r.2.1) (by omega) (by omega),wrap64 (by omega) (by omega)];congr 1;omega
theorem C3 (l:List aR)(m:List Bytes)(d:Int)(r:Int×Int×Int×Int)(s:Bytes)(hl:l.length≤1000000000)(hm:m.length≤1000000000):nm l m d r s=some (cU l m d r s):=by
 have hA:=CX r r.2.2.2;unfold nm cU;simp only[uH,ae,HC,tC l m d _ s hl hm (show qt r r.2.2.2≤9223372036854775807 by omega),pN m (show m.length≤1073741824 by omega)];cases hf:lI r==0 with|true=>rfl|false=>?_
 cases (s.length:Int) !=16 with|true=>rfl|false=>?_
 have hb:dP r=true:=by cases hb:dP r with|true=>rfl|false=>unfold lI at hf;rw[hb]at hf;cases hf
 have h:=pU hb;simp only[al,ae,ft];cases hp:(oS l m d (qt r r.2.2.2) s true).2 with|false=>simp only[cV,af,Hm hp]|true=>simp only[aA,al];rw[wrap64 (n:=2*r.2.1) (by omega) (by omega),aq (by omega),wrap64 (n:=r.2.2.2+1) (by omega) (by omega)]
theorem As {p:da}(h:db p=true):0≤p.1∧p.1≤130944∧1≤p.2.1∧p.2.1≤512∧0≤p.2.2.1∧p.2.2.1≤16:=by simp only[db,aa,bw]at h;exact⟨h.1.1,h.1.2,h.2.1.1,h.2.1.2,h.2.2.1.1,h.2.2.1.2⟩
def Gj (p:da)(i:Int):Int:=bif !db p|| !cL i 0 (p.2.2.1-1) then-1 else p.1+i*p.2.1
theorem Kw {p:da}{i:Int}(hp:db p=true)(hi:cL i 0 (p.2.2.1-1)=true):au (p.1+au (i*p.2.1))=p.1+i*p.2.1:=by have h:=As hp;have h2:=bw.1 hi;have h3:0≤i*p.2.1:=Int.mul_nonneg h2.1 (by omega);have h4:i*p.2.1≤16*512:=Int.mul_le_mul (by omega) (by omega) (by omega) (by omega);rw[wrap64 (n:=i*p.2.1) (by omega) (by omega),wrap64 (by omega) (by omega)]
theorem Jt (p:da)(i:Int)(h:p.2.2.2.length≤1000000000):gN p i=some (Gj p i):=by
 unfold gN Gj;rw[tE p h,ae];cases hp:db p with|false=>rfl|true=>?_
 have hin:=As hp;rw[wrap64 (n:=p.2.2.1-1) (by omega) (by omega),cx];cases hi:cL i 0 (p.2.2.1-1)with|false=>rfl|true=>?_
 simp only[aA,al,ae,ft,Kw hp hi]
def upto (n:Nat):List Int:=(List.range n).map Int.ofNat
theorem HL (n:Nat):upto (n+1)=upto n++[(n:Int)]:=by simp[upto,List.range_succ]
theorem Ki {n i:Nat}(h:i<n):(upto n).getD i 0=(i:Int):=by rw[di (by simpa[upto]using h)];simp[upto]
theorem EE (a b:Int)(n:Nat)(hn:n≤16):db (a,b,(n:Int),upto n)=db (a,b,(n:Int),[]):=by
 unfold db;congr 3;have h1:(List.range (upto n).length).all (rP (n:Int) (upto n))=true:=by
  rw[aF];intro i hi;have hi:i<n:=by simpa[upto]using hi
  simp only[rP,Ki hi,aa,bw,aC];refine⟨by omega,?_⟩;rw[Bool.eq_false_iff,ne_eq,List.contains_iff_mem];intro hm;simp only[upto,←List.map_take,List.mem_map]at hm;obtain⟨j,hj,he⟩:=hm;rw[List.take_range]at hj;have:=bN.1 hj;have:(j:Int)=(i:Int):=he;omega
 rw[h1];rfl
def gV (a b n:Int):da×Bool:=bif db (a,b,n,[]) then((a,b,n,upto n.toNat),true) else((0,0,0,[]),false)
theorem uY (a b n:Int):lq a b n=some (gV a b n):=by
 have hfu:=ek;unfold lq gV;by_cases hn:0≤n∧n≤16;obtain⟨n,rfl⟩:=bL hn.1;have h16:n≤16:=by omega
 refine jo (λi=>((i:Int),a,b,(n:Int),upto i)) n (by omega) (λi nx hi=>?_) (λnx=>?_);simp only[gX];rw[aj (show(i:Int)<n by omega),aj (show(n:Int)≤16 by omega)];simp only[af,ae];rw[aN (by simp[upto];omega),wrap64 (by omega) (by omega),HL];rfl;simp only[gX];rw[ai (show¬(n:Int)<n by omega)];simp only[al,ae,tE (a,b,(n:Int),upto n) (show(upto n).length≤1000000000 by simp[upto];omega),EE a b n h16,aV];cases db (a,b,(n:Int),[])<;>rfl;have hb:db (a,b,n,[])=false:=by cases hp:db (a,b,n,[])with|false=>rfl|true=>have:=As hp;exact absurd ⟨this.2.2.2.2.1,this.2.2.2.2.2⟩ hn
 obtain⟨f,hf⟩:∃f,fuel=f+1:=⟨fuel-1,by omega⟩
 rw[hf,bc];simp only[gX];have hc:(cond (decide ((0:Int)<n)) (some (decide (n≤16))) (some false))=some false:=by by_cases h0:(0:Int)<n;rw[aj h0,ai (by omega)];rfl;rw[ai h0];rfl
 rw[hc];simp only[ae,al,tE (a,b,n,[]) (show([]:List Int).length≤1000000000 by simp),hb];rfl
def descOf (p:da)(b:Int):Bytes:=KG (3,0,p.2.1,Gj p b,0,b)
def kD (l:List aR)(d:Int)(p:da):List Int→List Bytes→(Int×Int×Int×Int)→Nat×List Bytes×(Int×Int×Int×Int)
 |[],m,r=>(0,m,r)
 |b::q,m,r=>bif (cU l m d r (descOf p b)).2.2 then
   ((kD l d p q (cU l m d r (descOf p b)).1 (cU l m d r (descOf p b)).2.1).1+1,(kD l d p q (cU l m d r (descOf p b)).1 (cU l m d r (descOf p b)).2.1).2)
  else(0,m,r)
theorem tr (l:List aR)(m:List Bytes)(d:Int)(r:Int×Int×Int×Int)(s:Bytes):(cU l m d r s).1.length=m.length:=by
 unfold cU;cases (lI r==0)||((s.length:Int) !=16)with|true=>rfl|false=>?_
 cases (oS l m d (qt r r.2.2.2) s true).2 with|false=>rfl|true=>exact xi ..
theorem yH (l:List aR)(d:Int)(p:da):∀(q:List Int)(m:List Bytes)(r:Int×Int×Int×Int),(kD l d p q m r).2.1.length=m.length∧(kD l d p q m r).1≤q.length
 |[],m,r=>⟨rfl,aK _⟩
 |b::q,m,r=>by rw[kD];cases (cU l m d r (descOf p b)).2.2 with|false=>exact⟨rfl,bz _⟩|true=>have:=yH l d p q (cU l m d r (descOf p b)).1 (cU l m d r (descOf p b)).2.1;simp only[af,cC];exact⟨by rw[this.1,tr],by omega⟩
theorem Io (r:Int×Int×Int×Int):0≤lI r:=by
 unfold lI;cases hb:dP r with
 |false=>exact dR _
 |true=>
  have h:=pU hb;simp only[dP,aa,aI]at hb;have hu:=hb.2.2.2.2;have h0:0≤dK r:=by unfold dK;split;exact dF _ (by omega);exact dR _
  simp only[af];rw[wrap64 (by omega) (by omega)];omega
theorem Au {l:List aR}{m:List Bytes}{d:Int}{r:Int×Int×Int×Int}{s:Bytes}(h:¬lI r>0):cU l m d r s=(m,r,false):=by
 have h0:=Io r;have:lI r=0:=by omega
 unfold cU;rw[this];rfl
theorem tD {R:Type}(K:Int→(Int×Int×Int×Int)→List Bytes→da→Option R)(l:List aR)(d:Int)(p p2:da)(hp:p.2.2.2.length≤1000000000)(hl:l.length≤1000000000)(A B C:Int):∀(rest:List Int)(c:Nat)(m:List Bytes)(r:Int×Int×Int×Int)(f:Nat),rest.length<f→c+rest.length≤1000000000→m.length≤1000000000→
 bc (gx K l d p ([]:List Bytes) (0,0,0,0) p2) f ((c:Int),r,m,A,B,C,rest)=K ((c+(kD l d p rest m r).1:Nat):Int) (kD l d p rest m r).2.2 (kD l d p rest m r).2.1 (A,B,C,rest.drop (kD l d p rest m r).1)
 |rest,c,m,r,0,hf,_,_=>by omega
 |[],c,m,r,f+1,_,_,_=>by
  rw[bc];simp only[gx,uH,ae];have hc:(cond (decide (lI r>0)) (some (decide ((([]:List Int).length:Int)>0))) (some false))=some false:=by cases decide (lI r>0)<;>rfl
  rw[hc];rfl
 |b::q,c,m,r,f+1,hf,hn,hm=>by
  simp only[cC]at hf hn;rw[bc];simp only[gx,uH,ae];by_cases hr:lI r>0;rw[aj hr,aj (show(((b::q).length:Nat):Int)>0 by simp)];have hi:idx (b::q) 0=some b:=rfl;have hs:sub (b::q) 1 ((b::q).length:Int)=some q:=by unfold sub;rw[ar (by simp;omega)];simp
  simp only[af,ae,hi,Jt p b hp,Lr,C3 l m d r _ hl hm];rw[show KG (3,0,p.2.1,Gj p b,0,b)=descOf p b from rfl,kD];cases hq:(cU l m d r (descOf p b)).2.2 with|false=>rfl|true=>simp only[aA,al,af,hs,ae];rw[lg (by omega),wrap64 (n:=(c:Int)+1) (by omega) (by omega),bD];have key:=tD K l d p p2 hp hl A B C q (c+1) (cU l m d r (descOf p b)).1 (cU l m d r (descOf p b)).2.1 f (by omega) (by omega) (by rw[tr];exact hm);rw[show((c+1:Nat):Int)=(c:Int)+1 by omega]at key;refine Eq.trans key ?_;rw[show c+1+(kD l d p q (cU l m d r (descOf p b)).1 (cU l m d r (descOf p b)).2.1).1=c+((kD l d p q (cU l m d r (descOf p b)).1 (cU l m d r (descOf p b)).2.1).1+1) by omega];rfl
  rw[ai hr,kD,Au hr];rfl
def oo (l:List aR)(m:List Bytes)(d:Int)(r:Int×Int×Int×Int)(p:da):List Bytes×(Int×Int×Int×Int)×da×Int:=
 bif !dP r|| !db p then(m,r,p,0) else
 ((kD l d p p.2.2.2 m r).2.1,(kD l d p p.2.2.2 m r).2.2,(p.1,p.2.1,p.2.2.1,p.2.2.2.drop (kD l d p p.2.2.2 m r).1),((kD l d p p.2.2.2 m r).1:Int))
theorem Jv (l:List aR)(m:List Bytes)(d:Int)(r:Int×Int×Int×Int)(p:da)(hl:l.length≤1000000000)(hm:m.length≤1000000000)(hp:p.2.2.2.length≤1000000000):mf l m d r p=some (oo l m d r p):=by
 have hfu:=ek;unfold mf oo;simp only[pN m (show m.length≤1073741824 by omega),Ef p hp,xy,tE p hp,ae];cases dP r with|false=>rfl|true=>?_
 cases db p with|false=>rfl|true=>?_
 simp only[aA,al,ae,ft];refine(tD _ l d p _ hp hl p.1 p.2.1 p.2.2.1 p.2.2.2 0 m r fuel (by omega) (by omega) hm).trans ?_;rw[bC]
def Hn (m:List Bytes)(p:Int×Int):Bytes:=bif kq m p.1 p.2 then R7 m p.1.toNat p.2.toNat else []
def DK (l:List aR)(m:List Bytes)(d a n:Int):Bytes×Bool:=
 bif (kG l m d a n false).2 then((kG l m d a n false).1.flatMap (Hn m),true) else([],false)
def z8 (s:Bytes):(Int×Int×Int×Int×Int)×Int×Bool:=
 bif ((s.length:Int) !=16)||decide (jy s 12>1) then((0,0,0,0,0),0,false) else((cO s 0,cO s 2,cO s 4,cO s 6,jy s 8),jy s 12,true)
def Ot (q:Int×Int×Int):Int:=bif decide (q.2.2<q.2.1) then 1 else 0
def FX (q:Int×Int×Int):Int:=q.1+Int.tmod q.2.2 q.2.1*16
def RH (q:Int×Int×Int):Int×Int×Int:=(q.1,q.2.1,Int.tmod (q.2.2+1) (2*q.2.1))
def K7 (l:List aR)(m:List Bytes)(d:Int)(q:Int×Int×Int):Bool:=
 pS q&&((DK l m d (FX q) 16).2&&((z8 (DK l m d (FX q) 16).1).2.2&&((z8 (DK l m d (FX q) 16).1).2.1==Ot q)))
def w9 (l:List aR)(m:List Bytes)(d:Int)(q:Int×Int×Int):(Int×Int×Int×Int×Int)×(Int×Int×Int)×Bool:=
 bif K7 l m d q then((z8 (DK l m d (FX q) 16).1).1,RH q,true) else((0,0,0,0,0),q,false)
def TU (l:List aR)(m:List Bytes)(d a n:Int):Bool:=(DK l m d a n).2&&((zb (DK l m d a n).1).2==0)
def LU (l:List aR)(m:List Bytes)(d:Int)(s:List Stream×dN×da):List Stream×dN×da:=
 ((bif TU l m d (Gj s.2.2 (w9 l m d s.2.1.2.2.1).1.1) (w9 l m d s.2.1.2.2.1).1.2.1 then Ic s.1 (zb (DK l m d (Gj s.2.2 (w9 l m d s.2.1.2.2.1).1.1) (w9 l m d s.2.1.2.2.1).1.2.1).1).1 else s.1),
   (s.2.1.1,s.2.1.2.1,(w9 l m d s.2.1.2.2.1).2.1,s.2.1.2.2.2),(Gv s.2.2 [(w9 l m d s.2.1.2.2.1).1.1]).1)
def qO (l:List aR)(m:List Bytes)(d:Int):Nat→List Stream×dN×da→Nat×(List Stream×dN×da)
 |0,s=>(0,s)
 |k+1,s=>bif !(w9 l m d s.2.1.2.2.1).2.2 then(0,s) else((qO l m d k (LU l m d s)).1+1,(qO l m d k (LU l m d s)).2)
def CD (l:List aR)(m:List Bytes)(d:Int)(rx:dN)(pl:da)(st:List Stream)(n:Int):List Bytes×dN×da×List Stream×Int:=
 bif !Kn rx||(!db pl|| !cL n 0 1000) then(m,rx,pl,st,0) else
 ((oo l m d (qO l m d n.toNat (st,rx,pl)).2.2.1.1 (qO l m d n.toNat (st,rx,pl)).2.2.2).1,
   ((oo l m d (qO l m d n.toNat (st,rx,pl)).2.2.1.1 (qO l m d n.toNat (st,rx,pl)).2.2.2).2.1,(qO l m d n.toNat (st,rx,pl)).2.2.1.2),
   (oo l m d (qO l m d n.toNat (st,rx,pl)).2.2.1.1 (qO l m d n.toNat (st,rx,pl)).2.2.2).2.2.1,(qO l m d n.toNat (st,rx,pl)).2.1,((qO l m d n.toNat (st,rx,pl)).1:Int))
def ju (i:Nat):Int:=1280+(i:Int)*1792
theorem Ks {i:Nat}(h:i≤8):au (1280+au ((i:Int)*1792))=ju i:=by rw[wrap64 (n:=(i:Int)*1792) (by omega) (by omega),wrap64 (by omega) (by omega)];rfl
theorem pO (a b n:Int)(h:n≤1000):(gV a b n).1.2.2.2.length≤1000:=by unfold gV;cases db (a,b,n,[])with|false=>simp|true=>simp[upto];omega
def zj:kN:=((0,16,0,0),(gV 256 128 8).1,([]:List qw),0)
theorem HE:my=some zj:=by rw[my,uY];rfl
def pt (l:List aR)(m:List Bytes)(i:Nat):List Bytes×(Int×Int×Int×Int)×da×Int:=
 oo l (oS l m 0 (ju i) (qu 128) false).1 0 (ju i,4,0,0) (gV (ju i+128) 384 4).1
def I3 (h:Host)(i:Nat):Host:=
 ((pt h.2.1 h.1 i).1,h.2.1,h.2.2.1,h.2.2.2.1.set i ((pt h.2.1 h.1 i).2.1,(ju i+64,4,0),(ju i+64,4,0),((0,0,0,0,0,0,0,0,0,0,0,0,0,0,0,([]:Bytes)),0,0),false,(match h.2.2.2.1[i]? with|some x=>x.2.2.2.2.2|none=>0)),h.2.2.2.2.1.set i (pt h.2.1 h.1 i).2.2.1,h.2.2.2.2.2)
theorem Jy (h:Host)(i:Nat)(hi:i≤8)(h1:i<h.2.2.2.1.length)(h2:i<h.2.2.2.2.1.length)(hl:h.2.1.length≤1000000000)(hm:h.1.length≤1000000000):lG h (i:Int)=some ((),I3 h i):=by have hb:ju i=1280+(i:Int)*1792:=rfl;have hz:dU 128 0=some (qu 128):=xw 128 (by omega);have hf:=Jv h.2.1 (oS h.2.1 h.1 0 (ju i) (qu 128) false).1 0 (ju i,4,0,0) (gV (ju i+128) 384 4).1 hl (by rw[xi];exact hm) (bH (pO (ju i+128) 384 4 (by omega)) (by omega));unfold lG;simp only[Ks hi];rw[wrap64 (n:=ju i+128) (by omega) (by omega),wrap64 (n:=ju i+64) (by omega) (by omega),uY,hz];simp only[cb h1,cb h2,ae,yo h.2.1 h.1 0 (ju i) (qu 128) hl hm (by omega),hf,aV,I3,pt,List.getElem?_eq_getElem h1]
def Ov (h:Host)(i:Nat)(n:Int):Int×Host:=
 match h.2.2.2.1[i]?,h.2.2.2.2.1[i]? with
 |some rx,some pl=>
  ((CD h.2.1 h.1 0 rx pl h.2.2.2.2.2.2.2.2.2.1 n).2.2.2.2,(CD h.2.1 h.1 0 rx pl h.2.2.2.2.2.2.2.2.2.1 n).1,h.2.1,h.2.2.1,h.2.2.2.1.set i (CD h.2.1 h.1 0 rx pl h.2.2.2.2.2.2.2.2.2.1 n).2.1,h.2.2.2.2.1.set i (CD h.2.1 h.1 0 rx pl h.2.2.2.2.2.2.2.2.2.1 n).2.2.1,h.2.2.2.2.2.1,h.2.2.2.2.2.2.1,h.2.2.2.2.2.2.2.1,h.2.2.2.2.2.2.2.2.1,(CD h.2.1 h.1 0 rx pl h.2.2.2.2.2.2.2.2.2.1 n).2.2.2.1,h.2.2.2.2.2.2.2.2.2.2)
 |_,_=>(0,h)
theorem KI (l:List aR)(m:List Bytes)(d:Int)(r:Int×Int×Int×Int)(p:da):(oo l m d r p).1.length=m.length:=by unfold oo;cases !dP r|| !db p with|true=>rfl|false=>exact(yH ..).1
theorem DR (l:List aR)(m:List Bytes)(d:Int)(r:Int×Int×Int×Int)(p:da):(oo l m d r p).2.2.1.2.2.2.length≤p.2.2.2.length:=by unfold oo;cases !dP r|| !db p with|true=>exact aK _|false=>show(p.2.2.2.drop _).length≤_;rw[bj];omega
structure vM (k:Nat) (a b:Host):Prop where
 mem:b.1.length=a.1.length
 maps:b.2.1=a.2.1
 tx:b.2.2.1=a.2.2.1
 rx:b.2.2.2.1.length=a.2.2.2.1.length
 rxs:∀j,k≤j→b.2.2.2.1[j]?=a.2.2.2.1[j]?
 pl:b.2.2.2.2.1.length=a.2.2.2.2.1.length
 vec:b.2.2.2.2.2.1.length=a.2.2.2.2.2.1.length
 vecs:∀j,k≤j→b.2.2.2.2.2.1[j]?=a.2.2.2.2.2.1[j]?
 pol:b.2.2.2.2.2.2.1.length=a.2.2.2.2.2.2.1.length
 flt:b.2.2.2.2.2.2.2.1=a.2.2.2.2.2.2.2.1
 ste:b.2.2.2.2.2.2.2.2.1=a.2.2.2.2.2.2.2.2.1
theorem vM.trans {k:Nat}{a b c:Host}(h:vM k a b)(g:vM k b c):vM k a c:=⟨g.mem.trans h.mem,g.maps.trans h.maps,g.tx.trans h.tx,g.rx.trans h.rx,λj hj=>(g.rxs j hj).trans (h.rxs j hj),g.pl.trans h.pl,g.vec.trans h.vec,λj hj=>(g.vecs j hj).trans (h.vecs j hj),g.pol.trans h.pol,g.flt.trans h.flt,g.ste.trans h.ste⟩
theorem vM.up {k m:Nat}{a b:Host}(h:vM k a b)(hk:k≤m):vM m a b:=⟨h.mem,h.maps,h.tx,h.rx,λj hj=>h.rxs j (by omega),h.pl,h.vec,λj hj=>h.vecs j (by omega),h.pol,h.flt,h.ste⟩
structure Kk (n:Nat) (h:Host):Prop where
 z:n6 n qy h
 t:h.2.2.1.2.1.2.2.2.length+(ee h.2.2.1.2.2.1).length≤n
theorem Kk.mono {n m:Nat}{h:Host}(k:Kk n h)(hn:n≤m):Kk m h:=⟨k.z.mono hn,bH k.t hn⟩
theorem Kk.sz {n:Nat}{h:Host}(k:Kk n h)(hn:n≤1000000000):Df h:=by have z:n6 1000000000 qy h:=k.z.mono hn;exact⟨z.1.1,z.2.1.1,z.2.2.1.2.2.1.1,bH k.t hn,z.2.2.2.2.2.2.2.1.2.2.1,z.2.2.2.2.2.2.2.2.1.1.1,z.2.2.2.2.2.2.2.2.1.2.1.1,z.2.2.2.2.2.2.2.2.1.2.2.2.1,λp hp=>(z.2.2.2.2.1.2 p hp).2.2.2.1⟩
theorem Kk.of {h:Host}(k:De qy h≤1048576):Kk 1048576 h:=by
 refine⟨vH k,?_⟩;have hb:=Ff h.2.2.1.2.2.1;have h1:De oY h.2.2.1≤De qy h:=by simp only[De];omega
 have hp:h.2.2.1.2.1.2.2.2.length+De (.sl mB) h.2.2.1.2.2.1≤De oY h.2.2.1:=by simp only[De];omega
 omega
def uQ (p:da):List qw→da
 |[]=>p
 |x::l=>uQ (Gv p x.2.2).1 l
def EW (g:Nat→Host→Host):Nat→Host→Host
 |0,h=>h
 |k+1,h=>g k (EW g k h)
structure E6 (a b:Host):Prop where
 maps:b.2.1=a.2.1
 tx:b.2.2.1=a.2.2.1
 rx:b.2.2.2.1.length=a.2.2.2.1.length
 pl:b.2.2.2.2.1.length=a.2.2.2.2.1.length
 vec:b.2.2.2.2.2.1=a.2.2.2.2.2.1
 pol:b.2.2.2.2.2.2.1=a.2.2.2.2.2.2.1
 ret:b.2.2.2.2.2.2.2.2.2.2.2.2.2.1=a.2.2.2.2.2.2.2.2.2.2.2.2.2.1
theorem E6.trans {a b c:Host}(h:E6 a b)(k:E6 b c):E6 a c:=⟨k.1.trans h.1,k.2.trans h.2,k.3.trans h.3,k.4.trans h.4,k.5.trans h.5,k.6.trans h.6,k.7.trans h.7⟩
def Lh (h:Host)(k:Nat):Host:=EW (λi s=>(Ov s i 1000).2) k h
def R8 (h:Host)(l:List Int):Host:=(h.1,h.2.1,h.2.2.1,h.2.2.2.1,h.2.2.2.2.1,h.2.2.2.2.2.1,h.2.2.2.2.2.2.1,h.2.2.2.2.2.2.2.1,h.2.2.2.2.2.2.2.2.1,h.2.2.2.2.2.2.2.2.2.1,h.2.2.2.2.2.2.2.2.2.2.1,h.2.2.2.2.2.2.2.2.2.2.2.1,h.2.2.2.2.2.2.2.2.2.2.2.2.1,h.2.2.2.2.2.2.2.2.2.2.2.2.2.1++l,h.2.2.2.2.2.2.2.2.2.2.2.2.2.2)
theorem Hb (l:List aR)(m:List Bytes)(i:Nat):(pt l m i).1.length=m.length:=by unfold pt;rw[KI,xi]
def Vk (W:List qw)(i:Nat)(s:Host):Host:=match W[i]? with|some x=>R8 s [x.1]|none=>s
def polled (h:Host):Host:=Lh h h.2.2.2.1.length
def returned (h:Host)(k:Nat):Host:=EW (Vk h.2.2.1.2.2.1) k (polled h)
def YH (_:Int):Bytes:=[]
def HP:(t:CT)→t.D→Nat
 | .int _,_=>1
 | .bool,_=>1
 | .str,_=>1
 | .sl e,xs=>(xs.map (HP e)).sum
 | .pair a b,x=>HP a x.1+HP b x.2
def Wh {α:Type}(f:α→Int→α)(c:α→Nat):List α→Int→List α
 |[],_=>[]
 |x::xs,k=>f x k::Wh f c xs (k+c x)
def mk:(t:CT)→t.D→Int→t.D
 | .int _,_,k=>k
 | .bool,_,k=>Int.tmod k 3==0
 | .str,_,k=>YH k
 | .sl e,xs,k=>Wh (mk e) (HP e) xs k
 | .pair a b,x,k=>(mk a x.1 k,mk b x.2 (k+HP a x.1))
def cB (s:sc)(p:aE)(z:Int):sc:=bif tA s then(s.1,s.2.1,s.2.2.1,s.2.2.2.1,s.2.2.2.2++oE p z) else s
theorem sY (s:sc)(p:aE)(z:Int)(h:n6 100000000 qh s):jC s p z=some (cB s p z):=by have hl:=(uD p z).1;have hs:s.2.2.2.2.length≤100000000:=h.2.2.2.2.1;have h':n6 1000000000 qh s:=h.mono (by omega);simp only[jC,sW s h',IE s h'.1.2.2.1 h'.2.1.1.1 h'.2.1.2.1.1 h'.2.1.2.2.2.1,IC,ae,cB];rw[aN (by omega)];cases tA s<;>rfl
theorem ym {s:sc}{n:Nat}(h:n6 n qh s)(p:aE)(z:Int)(hn:382≤n):n6 (n+320) qh (cB s p z):=by have hl:=uD p z;unfold cB;cases tA s with|false=>exact h.mono (by omega)|true=>have h':n6 (n+320) qh s:=h.mono (by omega);refine⟨h'.1,h'.2.1,h'.2.2.1,h'.2.2.2.1,?_,λx hx=>?_⟩;have:s.2.2.2.2.length≤n:=h.2.2.2.2.1;show(s.2.2.2.2++oE p z).length≤_;rw[ah];omega;rcases ak.1 hx with hx|hx;exact h'.2.2.2.2.2 x hx;have:=hl.2 x hx;show x.length≤_;omega
theorem Kk.tx {n:Nat}{h:Host}(k:Kk n h)(hn:n≤1000000000):Sq h.2.2.1:=
 have z:n6 1000000000 qy h:=k.z.mono hn
 ⟨z.2.2.1.2.1.2.2.2.1,z.2.2.1.2.2.1.1,λx hx=>(z.2.2.1.2.2.1.2 x hx).2.2.1⟩
def Im (f:fL):List Stream→Int→Int
 |[],_=> -1
 |s::r,i=>if s.1=f then i else Im f r (i+1)
def H0 (a b:List Stream)(f:fL):Bool:=
 match idx a (Im f a 0),idx b (Im f b 0)with
 |some x,some y=>decide (x=y)
 |_,_=>false
theorem Ep {m:List Bytes}(h:cW m=true)(a:Int)(s:Bytes):cW (oJ m a s).1=true:=by
 unfold oJ;cases hw:kq m a (s.length:Int)with|false=>exact h|true=>?_
 simp only[kq,aa,aI]at hw;exact nK.2 (qf s.length (nK.1 hw.1) (by omega)).1
theorem Cn:∀(q:List (Int×Int)){m:List Bytes}(s:Bytes),cW m=true→cW (CI q m s)=true
 |[],_,_,h=>h
 |p::q,m,s,h=>by rw[CI];exact Cn q _ (Ep h _ _)
theorem Co {m:List Bytes}(h:cW m=true)(l:List aR)(d a:Int)(s:Bytes)(w:Bool):cW (oS l m d a s w).1=true:=by unfold oS;cases (kG l m d a (s.length:Int) w).2 with|false=>exact h|true=>exact Cn _ _ h
theorem Cp {m:List Bytes}(h:cW m=true)(l:List aR)(d:Int)(r:Int×Int×Int×Int)(s:Bytes):cW (cU l m d r s).1=true:=by
 unfold cU;cases (lI r==0)||((s.length:Int) !=16)with|true=>exact h|false=>?_
 cases (oS l m d (qt r r.2.2.2) s true).2 with|false=>exact h|true=>exact Co h ..
theorem xl {b n x y:Int}(hb:0≤b∧b≤130944)(hn:n=2∨n=4∨n=8∨n=16)(hx:0≤x∧x≤2*n-1)(hy:0≤y∧y≤2*n-1)(hu:(y-x)%(2*n)≤n):dP (b,n,x,y)=true:=by have hs:ef n=true:=eu.2 hn;simp only[dP,dK,hs,bw.2 hb,bw.2 hx,bw.2 hy,aU,bW,aI];exact hu
theorem uz {r:Int×Int×Int×Int}(h:dP r=true):dK r=(r.2.2.2-r.2.2.1)%(2*r.2.1)∧0≤dK r∧dK r≤r.2.1:=by
 have k:=pU h;have e:dK r=(r.2.2.2-r.2.2.1)%(2*r.2.1):=by unfold dK;rw[ar (eu.2 k.2.2.1)]
 simp only[dP,aa,aI]at h;exact⟨e,by rw[e];exact dF _ (by omega),h.2.2.2.2⟩
theorem HK {x n:Int}(hn:0<n)(hx:0≤x∧x≤n-1):Int.tmod (x+1) n=if x+1=n then 0 else x+1:=by rw[dv (by omega)];split;rename_i h;rw[h];exact Int.emod_self;exact Int.emod_eq_of_lt (by omega) (by omega)
theorem Hq {r:Int×Int×Int×Int}(h:dP r=true)(hf:dK r<r.2.1):dP (r.1,r.2.1,r.2.2.1,Int.tmod (r.2.2.2+1) (2*r.2.1))=true∧dK (r.1,r.2.1,r.2.2.1,Int.tmod (r.2.2.2+1) (2*r.2.1))=dK r+1:=by
 have k:=pU h;have u:=uz h;have e:=HK (x:=r.2.2.2) (n:=2*r.2.1) (by omega) (by omega);have u2:(Int.tmod (r.2.2.2+1) (2*r.2.1)-r.2.2.1)%(2*r.2.1)=dK r+1:=by
  have h1:(Int.tmod (r.2.2.2+1) (2*r.2.1)-r.2.2.1)%(2*r.2.1)=(r.2.2.2+1-r.2.2.1)%(2*r.2.1):=by rw[e];split;rename_i hh;rw[←hh,show(r.2.2.2+1-r.2.2.1)=(0-r.2.2.1)+(r.2.2.2+1) by omega,Int.add_emod_right];rfl
  rw[h1,show r.2.2.2+1-r.2.2.1=(r.2.2.2-r.2.2.1)+1 by omega];have h0:=u.1;generalize r.2.2.2-r.2.2.1=d at h0⊢;rw[Int.add_emod,←h0,Int.emod_eq_of_lt (a:=1) (by omega) (by omega),Int.emod_eq_of_lt (by omega) (by omega)]
 refine⟨xl ⟨k.1,k.2.1⟩ k.2.2.1 ⟨k.2.2.2.1,k.2.2.2.2.1⟩ (by rw[e];split<;>omega) (by rw[u2];omega),?_⟩;unfold dK;rw[ar (eu.2 k.2.2.1)];exact u2
theorem Gu {r:Int×Int×Int×Int}(h:dP r=true):lI r=r.2.1-dK r:=by have k:=pU h;have u:=uz h;unfold lI;rw[h,af,wrap64 (by omega) (by omega)]
theorem Jj {r:Int×Int×Int×Int}(h:dP r=true)(l:List aR)(m:List Bytes)(d:Int)(s:Bytes):dP (cU l m d r s).2.1=true∧(cU l m d r s).2.1.2.1=r.2.1:=by
 unfold cU;cases hc:(lI r==0)||((s.length:Int) !=16)with|true=>exact⟨h,rfl⟩|false=>?_
 cases (oS l m d (qt r r.2.2.2) s true).2 with
 |false=>exact⟨h,rfl⟩
 |true=>
  simp only[Bool.or_eq_false_iff]at hc;have h1:lI r≠0:=by simpa using hc.1
  rw[Gu h]at h1;have u:=uz h;exact⟨(Hq h (by omega)).1,rfl⟩
theorem Iq {n:Int}{l:List Int}:(List.range l.length).all (rP n l)=true↔(∀x∈l,0≤x∧x≤n-1)∧l.Nodup:=by
 rw[aF];constructor;intro h;have k:∀i (hi:i<l.length),(0≤l[i]∧l[i]≤n-1)∧l[i]∉l.take i:=by intro i hi;have:=h i (bN.2 hi);unfold rP at this;rw[di hi,aa,bw]at this;exact⟨this.1,by simpa using this.2⟩
 refine⟨λx hx=>?_,?_⟩;obtain⟨i,hi,rfl⟩:=List.getElem_of_mem hx;exact(k i hi).1;rw[List.Nodup,List.pairwise_iff_getElem];intro i j hi hj hij he;refine(k j hj).2 ?_;rw[←he];exact List.mem_take_iff_getElem.2 ⟨i,by omega,rfl⟩;rintro⟨h1,h2⟩ i hi;have hi:=bN.1 hi;unfold rP;rw[di hi,aa,bw];refine⟨h1 _ (List.getElem_mem hi),?_⟩;have:l[i]∉l.take i:=by intro hm;obtain⟨j,hj,he⟩:=List.mem_take_iff_getElem.1 hm;rw[List.Nodup,List.pairwise_iff_getElem]at h2;exact h2 j i (by omega) hi (by omega) he
 simpa using this
theorem tp {p:da}:db p=true↔(0≤p.1∧p.1≤130944)∧(1≤p.2.1∧p.2.1≤512)∧(0≤p.2.2.1∧p.2.2.1≤16)∧(∀x∈p.2.2.2,0≤x∧x≤p.2.2.1-1)∧p.2.2.2.Nodup:=by unfold db;simp only[aa,bw,Iq]
theorem CG {p:da}(h:db p=true){l:List Int}(hl:l.Sublist p.2.2.2):db (p.1,p.2.1,p.2.2.1,l)=true:=by have k:=tp.1 h;exact tp.2 ⟨k.1,k.2.1,k.2.2.1,λx hx=>k.2.2.2.1 x (hl.subset hx),k.2.2.2.2.sublist hl⟩
theorem CR {n:Int}{s:qw}:lh n s=true↔(1≤s.2.1∧s.2.1≤n)∧0≤s.1∧s.1≤65535:=by unfold lh;simp only[aa,bw]
structure HX (t:kN):Prop where
 ring:dP t.1=true
 next:0≤t.2.2.2∧t.2.2.2≤65535
 sent:∀x∈t.2.2.1,(1≤x.2.1∧x.2.1≤t.1.2.1)∧0≤x.1∧x.1≤65535
 pool:db (pP t.2.1 (ee t.2.2.1))=true
 HP:iT t.2.2.1≤t.1.2.1
theorem HX.free {t:kN}(h:HX t):db t.2.1=true:=CG h.pool (List.sublist_append_left _ _)
theorem OF {t:kN}:OE t=true↔HX t:=by constructor;intro h;unfold OE at h;simp only[aa,bw,aF,CR,aI]at h;obtain⟨h1,h2,h3,h4,h5,h6⟩:=h;unfold sV at h5;simp only[aa]at h5;exact⟨h1,h3,h4,h5.2,h6⟩;·intro h;unfold OE sV;simp only[aa,bw,aF,CR,aI];exact⟨h.ring,h.free,h.next,h.sent,⟨h.free,h.pool⟩,h.HP⟩
theorem CP {a b s k f w:Int}{x:Bytes}(h1:0≤a∧a≤65535)(h2:0≤b∧b≤65535)(h3:0≤s∧s≤4294967295)(h4:0≤k∧k≤4294967295)(h5:0≤f∧f≤31)(h6:0≤w∧w≤65535)(hx:x.length≤320):jK (6,a,b,s,k,f,w,x)=true:=by have hx':decide ((x.length:Int)>320)=false:=ai (by omega);simp only[jK,bw.2 h1,bw.2 h2,bw.2 h3,bw.2 h4,bw.2 h5,bw.2 h6,hx'];rfl
theorem Jp {a b:Int}{x:Bytes}(h1:0≤a∧a≤65535)(h2:0≤b∧b≤65535)(hx:x.length≤320):jK (17,a,b,0,0,0,0,x)=true:=by have hx':decide ((x.length:Int)>320)=false:=ai (by omega);simp only[jK,bw.2 h1,bw.2 h2,hx'];rfl
theorem Hv {g:cr}{x:Bytes}(h:jK g=true)(hx:x.length≤320):jK (g.1,g.2.1,g.2.2.1,g.2.2.2.1,g.2.2.2.2.1,g.2.2.2.2.2.1,g.2.2.2.2.2.2.1,x)=true:=by have e:decide ((x.length:Int)>320)=false:=ai (by omega);unfold jK at h⊢;simp only[aa]at h⊢;exact⟨h.1,h.2.1,by rw[e];rfl,h.2.2.2⟩
theorem Is {a b v t i l s d:Int}{g:cr}(h1:0≤a∧a≤281474976710655)(h2:0≤b∧b≤281474976710655)(h3: -1≤v∧v≤4095)(h4:0≤t∧t≤255)(h5:0≤i∧i≤65535)(h6:0≤l∧l≤255)(h7:0≤s∧s≤4294967295)(h8:0≤d∧d≤4294967295)(hg:jK g=true):jr (a,b,v,t,i,l,s,d,g)=true:=by simp only[jr,bw.2 h1,bw.2 h2,bw.2 h3,bw.2 h4,bw.2 h5,bw.2 h6,bw.2 h7,bw.2 h8,hg];rfl
theorem qM (p:aE):fY p=true↔jr p=true∧p.2.2.2.2.2.2.2.2.2.2.2.2.2.2.2.length≤128:=by unfold fY dp;rw[aa,aa,bB,aI];constructor;rintro⟨⟨h1,_⟩,h2⟩;exact⟨h1,by omega⟩;rintro⟨h1,h2⟩;exact⟨⟨h1,Or.inl (by omega)⟩,by omega⟩
theorem FU {g:cr}(h:jK g=true)(h6:g.1=6):(0≤g.2.1∧g.2.1≤65535)∧(0≤g.2.2.1∧g.2.2.1≤65535)∧(0≤g.2.2.2.1∧g.2.2.2.1≤4294967295)∧(0≤g.2.2.2.2.1∧g.2.2.2.2.1≤4294967295)∧(0≤g.2.2.2.2.2.1∧g.2.2.2.2.2.1≤31)∧(0≤g.2.2.2.2.2.2.1∧g.2.2.2.2.2.2.1≤65535)∧g.2.2.2.2.2.2.2.length≤320:=by have hl:=qR h;unfold jK at h;rw[h6]at h;simp only[aa,bw,show((6:Int)==17)=false from rfl,al]at h;exact⟨h.1,h.2.1,h.2.2.2.2.1,h.2.2.2.2.2.1,h.2.2.2.2.2.2.1,h.2.2.2.2.2.2.2,hl⟩
theorem xp {g:cr}(h:jK g=true)(h6:g.1=6){s f:Int}{x:Bytes}(hs:0≤s∧s≤4294967295)(hf:0≤f∧f≤31)(hx:x.length≤320):jK (g.1,g.2.1,g.2.2.1,s,g.2.2.2.2.1,f,g.2.2.2.2.2.2.1,x)=true:=by have k:=FU h h6;rw[h6];exact CP k.1 k.2.1 hs k.2.2.2.1 hf k.2.2.2.2.2.1 hx
theorem pa {p:aE}(h:jr p=true){i:Int}{g:cr}(hi:0≤i∧i≤65535)(hg:jK g=true):jr (p.1,p.2.1,p.2.2.1,p.2.2.2.1,i,p.2.2.2.2.2.1,p.2.2.2.2.2.2.1,p.2.2.2.2.2.2.2.1,g)=true:=by unfold jr at h⊢;simp only[aa]at h⊢;exact⟨h.1,h.2.1,h.2.2.1,h.2.2.2.1,h.2.2.2.2.1,bw.2 hi,h.2.2.2.2.2.2.1,h.2.2.2.2.2.2.2.1,hg⟩
theorem wE {p:aE}(h:jr p=true):0≤p.2.2.2.2.1∧p.2.2.2.2.1≤65535:=by unfold jr at h;simp only[aa]at h;exact bw.1 h.2.2.2.2.2.1
theorem K8 {i:Int}(h:0≤i∧i≤65535):0≤Int.tmod (au (i+1)) 65536∧Int.tmod (au (i+1)) 65536≤65535:=by rw[wrap64 (by omega) (by omega)];have h1:=Int.tmod_nonneg 65536 (a:=i+1) (by omega);have h2:=Int.tmod_lt_of_pos (i+1) (b:=65536) (by omega);omega
theorem CA {s:Int}{n:Nat}(h:0≤s∧s≤4294967295)(hn:n≤320):0≤Int.tmod (au (s+(n:Int))) 4294967296∧Int.tmod (au (s+(n:Int))) 4294967296≤4294967295:=by rw[wrap64 (by omega) (by omega)];have h1:=Int.tmod_nonneg 4294967296 (a:=s+(n:Int)) (by omega);have h2:=Int.tmod_lt_of_pos (s+(n:Int)) (b:=4294967296) (by omega);omega
structure zp (n:Int) (r:dN):Prop where
 ring:dP r.1=true
 dev:pS r.2.1=true
 drv:pS r.2.2.1=true
 base:r.2.1.1=r.2.2.1.1
 size:r.2.1.2.1=r.2.2.1.2.1
 drop:0≤r.2.2.2.2.2∧r.2.2.2.2.2≤n
 held:r.2.2.2.2.1=true→dp r.2.2.2.1.1=true∧(0≤r.2.2.2.1.2.1∧r.2.2.2.1.2.1≤320)∧1≤r.2.2.2.1.2.2∧r.2.2.2.1.2.2≤320
 free:r.2.2.2.2.1=false→r.2.2.2.1=OC
theorem Jo (r:dN):Kn r=true↔zp 1000000000000 r:=by constructor;intro h;unfold Kn at h;rw[aa]at h;simp only[aa,aS,bw]at h;obtain⟨⟨h1,h2,h3,h4,h5,h6⟩,h7⟩:=h;refine⟨h1,h2,h3,h4,h5,h6,λhh=>?_,λhh=>?_⟩;rw[hh,af]at h7;simp only[aa,bw]at h7;exact⟨h7.1,h7.2.1,h7.2.2⟩;rw[hh,al]at h7;exact(JF _).1 h7;intro h;unfold Kn;rw[aa];simp only[aa,aS,bw];refine⟨⟨h.ring,h.dev,h.drv,h.base,h.size,h.drop⟩,?_⟩;cases hh:r.2.2.2.2.1 with|true=>have:=h.held hh;simp only[af,aa,bw];exact⟨this.1,this.2.1,this.2.2⟩|false=>rw[al];exact(JF _).2 (h.free hh)
theorem zp.mono {n m:Int}{r:dN}(h:zp n r)(hn:n≤m):zp m r:=⟨h.ring,h.dev,h.drv,h.base,h.size,⟨h.drop.1,by have:=h.drop.2;omega⟩,h.held,h.free⟩
theorem zp.rx {n:Int}{r:dN}(h:zp n r)(hn:n≤1000000000000):Kn r=true:=(Jo r).2 (h.mono hn)
theorem wx (l:List aR)(d:Int)(p:da):∀(q:List Int)(m:List Bytes)(r:Int×Int×Int×Int),cW m=true→dP r=true→cW (kD l d p q m r).2.1=true∧dP (kD l d p q m r).2.2=true
 |[],m,r,hm,hr=>⟨hm,hr⟩
 |b::q,m,r,hm,hr=>by rw[kD];cases (cU l m d r (descOf p b)).2.2 with|false=>exact⟨hm,hr⟩|true=>exact wx l d p q _ _ (Cp hm ..) (Jj hr ..).1
theorem Gq {m:List Bytes}(hm:cW m=true){r:Int×Int×Int×Int}(hr:dP r=true){p:da}(hp:db p=true)(l:List aR)(d:Int):cW (oo l m d r p).1=true∧dP (oo l m d r p).2.1=true∧db (oo l m d r p).2.2.1=true:=by unfold oo;rw[hr,hp];have k:=wx l d p p.2.2.2 m r hm hr;exact⟨k.1,k.2,CG hp (List.drop_sublist _ _)⟩
structure Good (n:Int) (h:Host):Prop where
 mem:cW h.1=true
 maps:dy h.2.1=true
 tx:HX h.2.2.1
 flt:iV h.2.2.2.2.2.2.2.1=true
 lens:tc h=true
 ste:dM h.2.2.2.2.2.2.2.2.1 (h.2.2.2.1.length:Int)=true
 rx:∀r∈h.2.2.2.1,zp n r
 pool:∀p∈h.2.2.2.2.1,db p=true
 vec:∀v∈h.2.2.2.2.2.1,iz v=true
 HP:∀x∈fA h,0≤x∧x≤n
theorem Good.mono {n m:Int}{h:Host}(g:Good n h)(hn:n≤m):Good m h:=⟨g.mem,g.maps,g.tx,g.flt,g.lens,g.ste,λr hr=>(g.rx r hr).mono hn,g.pool,g.vec,λx hx=>⟨(g.HP x hx).1,by have:=(g.HP x hx).2;omega⟩⟩
theorem Iu (h:Host):uR h=true↔Good 1000000000000 h:=by unfold uR FR;simp only[aa,aF,bw,OF,Jo];constructor;rintro⟨h1,h2,h3,h4,h5,h6,⟨h7,h8,h9⟩,h10⟩;exact⟨h1,h2,h3,h4,h5,h6,h7,h8,h9,h10⟩;intro g;exact⟨g.mem,g.maps,g.tx,g.flt,g.lens,g.ste,⟨g.rx,g.pool,g.vec⟩,g.HP⟩
theorem Good.ok {n:Int}{h:Host}(g:Good n h)(hn:n≤1000000000000):uR h=true:=(Iu h).2 (g.mono hn)
theorem CF {a b n:Int}(ha:0≤a∧a≤130944)(hb:1≤b∧b≤512)(hn:0≤n∧n≤16):gV a b n=((a,b,n,upto n.toNat),true)∧db (a,b,n,upto n.toNat)=true:=by have h1:db (a,b,n,[])=true:=tp.2 ⟨ha,hb,hn,by simp,List.nodup_nil⟩;refine⟨by unfold gV;rw[h1];rfl,tp.2 ⟨ha,hb,hn,?_,?_⟩⟩;intro x hx;simp only[upto,List.mem_map,bN]at hx;obtain⟨i,hi,rfl⟩:=hx;show 0≤Int.ofNat i∧Int.ofNat i≤n-1;simp only[Int.ofNat_eq_natCast];omega;show(upto n.toNat).Nodup;unfold upto;rw[List.Nodup,List.pairwise_map];exact List.nodup_range.imp λh he=>h (Int.ofNat.inj he)
theorem OG (c:Int)(hc:0≤c∧c≤65535):HX (zj.1,zj.2.1,zj.2.2.1,c):=by
 have p:=CF (a:=256) (b:=128) (n:=8) (by omega) (by omega) (by omega);refine⟨xl (by omega) (by omega) (by omega) (by omega) (by omega),hc,λx hx=>(by cases hx),?_,by show(0:Int)≤16;omega⟩;show db (pP (gV 256 128 8).1 [])=true;rw[p.1];have e:pP (256,128,8,upto (8:Int).toNat) []=(256,128,8,upto (8:Int).toNat):=by simp[pP]
 show db (pP (256,128,8,upto (8:Int).toNat) [])=true;rw[e];exact p.2
theorem Fb {i:Nat}(h:i≤8):0≤ju i∧ju i≤16000:=by unfold ju;omega
theorem Hc {m:List Bytes}(hm:cW m=true)(l:List aR){i:Nat}(hi:i≤8):cW (pt l m i).1=true∧dP (pt l m i).2.1=true∧db (pt l m i).2.2.1=true:=by have hb:=Fb hi;have p:=CF (a:=ju i+128) (b:=384) (n:=4) (by omega) (by omega) (by omega);unfold pt;rw[p.1];exact Gq (Co hm ..) (xl (by omega) (by omega) (by omega) (by omega) (by omega)) p.2 l 0
theorem Jn {i:Nat}(hi:i≤8){r:Int×Int×Int×Int}(hr:dP r=true){n d:Int}(hd:0≤d∧d≤n):zp n (r,(ju i+64,4,0),(ju i+64,4,0),((0,0,0,0,0,0,0,0,0,0,0,0,0,0,0,([]:Bytes)),0,0),false,d):=by
 have hb:=Fb hi;have hq:pS (ju i+64,4,0)=true:=by have hs:ef 4=true:=eu.2 (by omega);unfold pS;rw[aa,aa];exact⟨bw.2 (by omega),hs,by rw[uE hs];rfl⟩
 exact⟨hr,hq,hq,rfl,rfl,hd,λhf=>(by cases hf),λ_=>rfl⟩
theorem map_take {α β:Type}(f:α→β)(l:List α)(i:Nat)(hi:i<l.length):(l.take i).map f++[f l[i]]=(l.take (i+1)).map f:=by rw[List.take_succ_eq_append_getElem hi,List.map_append];rfl
def vp (n:Nat):List Bytes:=List.replicate n (qu 128)
theorem GU (n:Nat):vp (n+1)=vp n++[qu 128]:=List.replicate_succ'
theorem ER (n:Nat)(h:n≤64):iM (n:Int)=some (vp n):=by have hz:dU 128 0=some (qu 128):=xw 128 (by omega);unfold iM;refine jo (λi=>((i:Int),vp i)) n (by omega) (λi nx hi=>?_) (λnx=>?_);simp only[ix];rw[aj (show(i:Int)<n by omega),af,aj (by omega),ae,af,hz,ae,aN (by simp[vp];omega),wrap64 (by omega) (by omega),GU];rfl;simp only[ix];rw[ai (show¬(n:Int)<n by omega),al,ae,al]
def qL (a b:Int):Vector×Bool:=bif iz (a,b,0,0,false,false) then((a,b,0,0,false,false),true) else((0,0,0,0,false,false),false)
theorem ES (a b:Int):lr a b=some (qL a b):=by unfold lr qL;rw[xA,ae];cases iz (a,b,0,0,false,false)<;>rfl
def pn (i:Nat):List aR:=(List.range i).map λ(p:Nat)=>(0,(p:Int),37-(p:Int), !cL (p:Int) 2 9)
theorem Em (i:Nat):pn (i+1)=pn i++[(0,(i:Int),37-(i:Int), !cL (i:Int) 2 9)]:=by simp[pn,List.range_succ]
theorem uj (i:Nat):(pn i).length=i:=by simp[pn]
def It (f:Filter)(s:bT)(c:Bool)(i:Nat):Host:=(vp 38,pn i,zj,([]:List dN),([]:List da),([]:List Vector),([]:List Bool),f,s,([]:List Stream),c,([]:List Bytes),([]:List Int),([]:List Int),0,0,0,0,0)
end
end Go.Pu
