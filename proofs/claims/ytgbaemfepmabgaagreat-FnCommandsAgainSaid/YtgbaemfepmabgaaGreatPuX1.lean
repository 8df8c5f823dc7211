import Derived.Test.YtgbaemfepmabgaaGreatDnData
import Derived.Test.YtgbaemfepmabgaaGreatPure
import Derived.KernelRfl
namespace Go.Pu
open Go.Dn
set_option linter.unusedSimpArgs false
set_option linter.unusedVariables false
noncomputable section
/- Plain laws of the partial operations and of loops. -/
theorem wrap64 {n:Int}(h1: -9223372036854775808≤n)(h2:n≤9223372036854775807):aw n=n:=by simp only[aw,gA,IntKind.wrap,IntKind.bits,IntKind.signed];simp;omega
@[simp] theorem ae {α R:Type}(a:α)(k:α→Option R):aa (some a) k=k a:=rfl
@[simp] theorem Qe {α R:Type}(k:α→Option R):aa none k=none:=rfl
@[simp] theorem rZ {α R:Type}(c:Bool)(x y:α)(k:α→Option R):aa (cond c (some x) (some y)) k=k (cond c x y):=by cases c<;>rfl
theorem ba {α:Type}(c:Bool)(x y:α):cond c (some x) (some y)=some (cond c x y):=by cases c<;>rfl
theorem aW {R:Type}{n:Nat}{k:Option R}(h:n≤1073741824):room n k=k:=by simp[room,h]
theorem xo {α:Type}(xs:List α)(i:Nat):idx xs (i:Int)=xs[i]?:=rfl
theorem bH {α:Type}{xs:List α}{i:Nat}(h:i<xs.length):idx xs (i:Int)=some xs[i]:=by rw[xo];exact List.getElem?_eq_getElem h
def PW {σ R:Type}(step:Nat→σ→(σ→Option R)→Option R)(fin:σ→Option R)(N:Nat):Nat→Nat→σ→Option R
 |0,_,s=>fin s
 |n+1,i,s=>step i s (λs'=>PW step fin N n (i+1) s')
theorem uP {X σ R:Type}{T:(X→Option R)→X→Option R}(N:Nat)(e:σ→Nat→X)(step:Nat→σ→(σ→Option R)→Option R)(fin:σ→Option R)(hs:∀i s nx,i<N→T nx (e s i)=step i s (λs'=>nx (e s' (i+1))))(hf:∀s nx,T nx (e s N)=fin s): ∀n i s,i≤N→N-i<n→bc T n (e s i)=PW step fin N (N-i) i s:=by
 intro n;induction n with
 |zero=>intro i s _ h;omega
 |succ n ih=>
  intro i s hi hn;rw[bc];rcases bl i N with hlt|hge;rw[hs i s _ hlt,show N-i=(N-(i+1))+1 by omega,PW];congr 1;funext s';exact ih (i+1) s' (by omega) (by omega);have:i=N:=by omega
  subst this;rw[hf,Nat.sub_self,PW]
def po {α σ R:Type}(step:α→σ→(σ→Option R)→Option R)(fin:σ→Option R):List α→σ→Option R
 |[],s=>fin s
 |x::xs,s=>step x s (po step fin xs)
theorem qR {α X σ R:Type}{T:(X→Option R)→X→Option R}(xs:List α)(e:σ→Nat→X)(step:α→σ→(σ→Option R)→Option R)(fin:σ→Option R)(hs:∀i (h:i<xs.length) s nx,T nx (e s i)=step xs[i] s (λs'=>nx (e s' (i+1))))(hf:∀s nx,T nx (e s xs.length)=fin s): ∀n i s,i≤xs.length→xs.length-i<n→bc T n (e s i)=po step fin (xs.drop i) s:=by
 intro n;induction n with
 |zero=>intro i s _ h;omega
 |succ n ih=>
  intro i s hi hn;rw[bc];rcases bl i xs.length with hlt|hge;rw[hs i hlt s _,bj hlt,po];congr 1;funext s';exact ih (i+1) s' (by omega) (by omega);have:i=xs.length:=by omega
  subst this;rw[hf,List.drop_length,po]
def Aw:(t:CT)→t.D→Nat
 | .int _,_=>0
 | .bool,_=>0
 | .str,s=>s.length
 | .sl e,xs=>xs.length+(xs.map (Aw e)).sum
 | .pair a b,x=>Aw a x.1+Aw b x.2
def oA (n:Nat):(t:CT)→t.D→Prop
 | .int _,_=>True
 | .bool,_=>True
 | .str,s=>s.length≤n
 | .sl e,xs=>xs.length≤n∧∀x∈xs,oA n e x
 | .pair a b,x=>oA n a x.1∧oA n b x.2
theorem ub {α:Type}(f:α→Nat):∀(xs:List α)(x:α),x∈xs→f x≤(xs.map f).sum
 |y::ys,x,h=>by rcases bg.1 h with rfl|h;simp;have:=ub f ys x h;simp;omega
theorem vj {n:Nat}:∀{t:CT}{x:t.D},Aw t x≤n→oA n t x
 | .int _,_,_=>trivial
 | .bool,_,_=>trivial
 | .str,_,h=>h
 | .sl e,xs,h=>by simp only[Aw]at h;exact⟨by omega,λx hx=>vj (by have:=ub (Aw e) xs x hx;omega)⟩
 | .pair a b,x,h=>by simp only[Aw]at h;exact⟨vj (by omega),vj (by omega)⟩
theorem oA.mono {n m:Nat}(h:n≤m):∀{t:CT}{x:t.D},oA n t x→oA m t x
 | .int _,_,_=>trivial
 | .bool,_,_=>trivial
 | .str,_,k=>bL k h
 | .sl _,_,k=>⟨bL k.1 h,λx hx=>oA.mono h (k.2 x hx)⟩
 | .pair _ _,_,k=>⟨oA.mono h k.1,oA.mono h k.2⟩
def I1:(t:CT)→t.D→Prop
 | .int k,n=>k.min≤n∧n≤k.max
 | .bool,_=>True
 | .str,s=>s.length≤9223372036854775807
 | .sl e,xs=>xs.length≤9223372036854775807∧∀x∈xs,I1 e x
 | .pair a b,x=>I1 a x.1∧I1 b x.2
def ix (l n:Int):Int:=if n≤l then l-n else-1
def xv {α R:Type}(f:α→Int→Option Int)(k0:Int→Int→Option R)(k1:Int→Int→Int→Option R)(v0:List α)(nx:Int×Int→Option R)(x:Int×Int):Option R:=
 cond (decide (x.2<((List.length v0:Int)))) (
  aa (idx v0 x.2) λx1=>
  aa (f x1 x.1) λr2=>
  cond (decide (r2<0)) (
   k1 r2 (-1) x.2) (
   nx (r2,aw (x.2+1)))) (
  k0 x.1 x.2)
noncomputable def C4 {α:Type}(f:α→Int→Option Int)(a0:List α)(a1:Int):Option Int:=
 cond (decide ((aw (a1-((List.length a0:Int))))<0)) (
  some (-1)) (
  bc (xv f (λy3 _=>some y3) (λ_ y6 _=>some y6) a0) fuel (aw (a1-((List.length a0:Int))),0))
theorem HR {α:Type}{f:α→Int→Option Int}{s:α→Nat}{a:List α}{l:Int}(h0:0≤l)(h1:l≤1048576)(hm:a.length≤9223372036854775807)(hf:∀x∈a,∀l:Int,0≤l→l≤1048576→∃r,f x l=some r∧((s x:Int)≤l→r=l-s x)∧(¬(s x:Int)≤l→r<0)):C4 f a l=some (ix l ((a.length+(a.map s).sum:Nat):Int)):=by
 unfold C4;have hfu:=ee;rw[wrap64 (by omega) (by omega)];rcases Int.lt_or_le (l-a.length) 0 with hneg|hpos;rw[ai hneg];simp only[ah,ix];rw[aq (by omega)];rw[af (by omega)];simp only[ak];have key:=qR (T:=xv f (λy3 _=>some y3) (λ_ y6 _=>some y6) a) a (λ(q:Int) i=>(q,(i:Int))) (λx q k=>aa (f x q) λr=>cond (decide (r<0)) (some (-1)) (k r)) (λq=>some q) (λi hi q nx=>by simp only[xv];rw[ai (by omega)];simp only[ah,bH hi,ae];rw[wrap64 (by omega) (by omega)];rfl) (λq nx=>by simp only[xv];rw[af (by omega)];rfl) fuel 0 (l-a.length) (by omega) (by omega);have e:((0:Nat):Int)=0:=rfl;rw[e,cI]at key;rw[key];have main:∀(b:List α)(q:Int),0≤q→q≤1048576→(∀x∈b,x∈a)→po (λx q k=>aa (f x q) λr=>cond (decide (r<0)) (some (-1)) (k r)) (λq=>some q) b q=some (ix q ((b.map s).sum:Nat)):=by intro b;induction b with|nil=>intro q hq _ _;simp[po,ix,hq]|cons x b ih=>intro q hq hq2 hb;obtain⟨r,hr,hr1,hr2⟩:=hf x (hb x (by simp)) q hq hq2;rw[po,hr,ae];by_cases hle:(s x:Int)≤q;have:=hr1 hle;subst this;rw[af (by omega)];simp only[ak];rw[ih _ (by omega) (by omega) (λy hy=>hb y (by simp[hy]))];simp only[ix,cn,List.sum_cons];congr 1;split<;>split<;>omega;rw[ai (hr2 hle)];simp only[ah,ix,cn,List.sum_cons];rw[aq (by omega)]
 rw[main a _ (by omega) (by omega) (λx h=>h)];simp only[ix];congr 1;split<;>split<;>omega
def xb (f:Int→Option Int)(n:Nat):Prop:=∀l:Int,0≤l→l≤1048576→f l=some (ix l n)
theorem xb.nil:xb (λl=>some l) 0:=λl h0 _=>by simp[ix,h0]
theorem xb.len {n m:Nat}(hn:n≤9223372036854775807){k:Int→Option Int}(h:xb k m): xb (λl=>cond (decide (aw (l-(n:Int))<0)) (some (-1)) (k (aw (l-(n:Int))))) (n+m):=by intro l h0 h1;simp only;rw[wrap64 (by omega) (by omega)];by_cases hl:l-(n:Int)<0;rw[ai hl];simp only[ah,ix];rw[aq (by omega)];rw[af hl];simp only[ak];rw[h _ (by omega) (by omega)];simp only[ix];congr 1;split<;>split<;>omega
theorem xb.sub {f k:Int→Option Int}{n m:Nat}(hf:xb f n)(h:xb k m):xb (λl=>aa (f l) λr=>cond (decide (r<0)) (some (-1)) (k r)) (n+m):=by
 intro l h0 h1;simp only;rw[hf l h0 h1,ae];by_cases hl:(n:Int)≤l;have e:ix l n=l-n:=by simp[ix,hl]
 rw[e,af (by omega)];simp only[ak];rw[h _ (by omega) (by omega)];simp only[ix];congr 1;split<;>split<;>omega;have e:ix l n= -1:=by simp[ix,hl]
 rw[e];simp only[ix];rw[aq (by omega)];rfl
theorem xb.list {α:Type}{f:α→Int→Option Int}{s:α→Nat}{a:List α}(hm:a.length≤9223372036854775807)(hf:∀x∈a,xb (f x) (s x)):xb (C4 f a) (a.length+(a.map s).sum):=λ_ h0 h1=>HR h0 h1 hm (λx hx l h0 h1=>⟨_,hf x hx l h0 h1,λh=>by simp[ix,h],λh=>by simp[ix,h]⟩)
theorem Dg {α R:Type}{T:(Int→Option R)→Int→Option R}{fin hit:Option R}(p:α→Bool)(a:List α)(h:a.length≤1000000000000)(hs:∀i (hi:i<a.length) nx,T nx (i:Int)=cond (p a[i]) hit (nx ((i+1:Nat):Int)))(hf:∀nx,T nx (a.length:Int)=fin): bc T fuel 0=cond (a.any p) hit fin:=by
 have hfu:=ee;have key:∀n i,i≤a.length→a.length-i<n→bc T n (i:Int)=cond ((a.drop i).any p) hit fin:=by
  intro n;induction n with
  |zero=>intro i _ h;omega
  |succ n ih=>
   intro i hi hn;rw[bc];rcases bl i a.length with hlt|hge;rw[hs i hlt,bj hlt,List.any_cons];cases hq:p a[i]with|true=>rfl|false=>exact ih (i+1) (by omega) (by omega)
   have:i=a.length:=by omega
   subst this;rw[hf,List.drop_length];rfl
 exact key fuel 0 (by omega) (by omega)
theorem eC {R:Type}{T:(Int→Option R)→Int→Option R}{fin hit:Option R}(p:Nat→Bool)(N:Nat)(h:N≤1000000000000)(hs:∀i nx,i<N→T nx (i:Int)=cond (!(p i)) hit (nx ((i+1:Nat):Int)))(hf:∀nx,T nx (N:Int)=fin): bc T fuel 0=cond ((List.range N).all p) fin hit:=by
 have hfu:=ee;have key:∀n i,i≤N→N-i<n→bc T n (i:Int)=cond ((List.range' i (N-i)).all p) fin hit:=by
  intro n;induction n with
  |zero=>intro i _ h;omega
  |succ n ih=>
   intro i hi hn;rw[bc];rcases bl i N with hlt|hge;rw[hs i _ hlt,show N-i=(N-(i+1))+1 by omega,List.range'_succ,a6];cases hq:p i with|false=>rfl|true=>exact ih (i+1) (by omega) (by omega)
   have:i=N:=by omega
   subst this;rw[hf,Nat.sub_self];rfl
 have:=key fuel 0 (by omega) (by omega);rw[Nat.sub_zero,←List.range_eq_range']at this;exact this
theorem lU {α R:Type}{T:(Int→Option R)→Int→Option R}{fin hit:Option R}(p:α→Bool)(a:List α)(h:a.length≤1000000000000)(hs:∀i (hi:i<a.length) nx,T nx (i:Int)=cond (!(p a[i])) hit (nx ((i+1:Nat):Int)))(hf:∀nx,T nx (a.length:Int)=fin): bc T fuel 0=cond (a.all p) fin hit:=by
 have:=Dg (T:=T) (fin:=fin) (hit:=hit) (λx=> !(p x)) a h hs hf;rw[this];have e:a.any (λx=> !(p x))= !(a.all p):=by rw[bE];simp
 rw[e];cases a.all p<;>rfl
theorem vx {X R:Type}{T:(X→Option R)→X→Option R}{fin hit:Option R}(e:Nat→X)(p:Nat→Bool)(N:Nat)(h:N≤1000000000000)(hs:∀i nx,i<N→(∀j,j<i→p j=true)→T nx (e i)=cond (!(p i)) hit (nx (e (i+1))))(hf:(∀j,j<N→p j=true)→∀nx,T nx (e N)=fin): bc T fuel (e 0)=cond ((List.range N).all p) fin hit:=by
 have hfu:=ee;have key:∀n i,i≤N→N-i<n→(∀j,j<i→p j=true)→bc T n (e i)=cond ((List.range' i (N-i)).all p) fin hit:=by
  intro n;induction n with
  |zero=>intro i _ h;omega
  |succ n ih=>
   intro i hi hn hp;rw[bc];rcases bl i N with hlt|hge;rw[hs i _ hlt hp,show N-i=(N-(i+1))+1 by omega,List.range'_succ,a6];cases hq:p i with|false=>rfl|true=>refine ih (i+1) (by omega) (by omega) λj hj=>?_;by_cases hji:j=i;rw[hji];exact hq;exact hp j (by omega)
   have:i=N:=by omega
   subst this;rw[hf hp,Nat.sub_self];rfl
 have:=key fuel 0 (by omega) (by omega) (λj hj=>absurd hj (by omega));rw[Nat.sub_zero,←List.range_eq_range']at this;exact this
theorem vD {α R:Type}{T:(Int→Option R)→Int→Option R}{fin:Option R}{hit:Int→Option R}(p:α→Bool)(a:List α)(h:a.length≤1000000000000)(hs:∀i (hi:i<a.length) nx,T nx (i:Int)=cond (p a[i]) (hit (i:Int)) (nx ((i+1:Nat):Int)))(hf:∀nx,T nx (a.length:Int)=fin): bc T fuel 0=(match a.findIdx? p with|some i=>hit (i:Int)|none=>fin):=by
 have hfu:=ee;have key:∀n i,i≤a.length→a.length-i<n→bc T n (i:Int)=(match (a.drop i).findIdx? p with|some j=>hit ((i+j:Nat):Int)|none=>fin):=by
  intro n;induction n with
  |zero=>intro i _ h;omega
  |succ n ih=>
   intro i hi hn;rw[bc];rcases bl i a.length with hlt|hge;rw[hs i hlt,bj hlt,List.findIdx?_cons];cases hq:p a[i]with|true=>rfl|false=>have:=ih (i+1) (by omega) (by omega);simp only[ak];refine this.trans ?_;cases (a.drop (i+1)).findIdx? p with|none=>rfl|some j=>simp only[bV,aD,bp];congr 2;omega
   have:i=a.length:=by omega
   subst this;rw[hf,List.drop_length];rfl
 have:=key fuel 0 (by omega) (by omega);refine this.trans ?_;rw[cI];cases a.findIdx? p with|none=>rfl|some j=>simp only[bM]
theorem cF (a b:Bool):(bif a then b else false)=(a&&b):=by cases a<;>rfl
theorem cT (a b:Bool):(bif a then true else b)=(a||b):=by cases a<;>rfl
theorem cN (a b:Bool):(bif a then false else b)=(!a&&b):=by cases a<;>rfl
def rH {α σ R:Type}(g:α→σ→Except (Option R) σ)(fin:σ→Option R):List α→σ→Option R
 |[],s=>fin s
 |x::xs,s=>match g x s with| .error r=>r| .ok s'=>rH g fin xs s'
theorem og {α X σ R:Type}{T:(X→Option R)→X→Option R}(xs:List α)(e:σ→Nat→X)(Inv:Nat→σ→Prop)(g:α→σ→Except (Option R) σ)(fin:σ→Option R)(h:xs.length≤1000000000000)(hs:∀i (hi:i<xs.length) s nx,Inv i s→T nx (e s i)=match g xs[i] s with| .error r=>r| .ok s'=>nx (e s' (i+1)))(hn:∀i (hi:i<xs.length) s s',Inv i s→g xs[i] s=.ok s'→Inv (i+1) s')(hf:∀s nx,Inv xs.length s→T nx (e s xs.length)=fin s)(s:σ)(h0:Inv 0 s): bc T fuel (e s 0)=rH g fin xs s:=by
 have key:∀n i s,i≤xs.length→xs.length-i<n→Inv i s→bc T n (e s i)=rH g fin (xs.drop i) s:=by
  intro n;induction n with
  |zero=>intro i s _ h;omega
  |succ n ih=>
   intro i s hi hn' hI;rw[bc];rcases bl i xs.length with hlt|hge;rw[hs i hlt s _ hI,bj hlt,rH];cases hg:g xs[i] s with|error r=>rfl|ok s'=>exact ih (i+1) s' (by omega) (by omega) (hn i hlt s s' hI hg)
   have:i=xs.length:=by omega
   subst this;rw[hf s _ hI,List.drop_length,rH]
 have hfu:=ee;have:=key fuel 0 s (by omega) (by omega) h0;rwa[cI]at this
theorem u4 {α σ R:Type}(f:σ→α→σ)(fin:σ→Option R):∀(xs:List α)(s:σ),rH (λx s=> .ok (f s x)) fin xs s=fin (xs.foldl f s)
 |[],_=>rfl
 |x::xs,s=>by rw[rH];exact u4 f fin xs (f s x)
theorem ie {X R:Type}{T:(X→Option R)→X→Option R}{fin:Option R}(e:Nat→X)(N:Nat)(h:N≤1000000000000)(hs:∀i nx,i<N→T nx (e i)=nx (e (i+1)))(hf:∀nx,T nx (e N)=fin):bc T fuel (e 0)=fin:=by rw[vx (hit:=fin) (fin:=fin) e (λ_=>true) N h (λi nx hi _=>by rw[hs i nx hi];rfl) (λ_ nx=>hf nx)];cases (List.range N).all (λ_=>true)<;>rfl
theorem fM {α R:Type}{l:List α}{k:Option R}(h:l.length≤1000000000):room (List.length ([]:List α)+l.length) k=k:=aW (by simp only[List.length_nil];omega)
def cx (a lo hi:Int):Bool:=decide (lo≤a)&&decide (a≤hi)
theorem bq {a lo hi:Int}:cx a lo hi=true↔lo≤a∧a≤hi:=by simp[cx]
theorem ch (a b c:Int):aC a b c=some (cx a b c):=by simp only[aC,ba,ae,cx];cases h:decide (a≥b)<;>rfl
theorem cX (a b c:Int):az a b c=some (cx a b c):=ch a b c
theorem db {α:Type}{l:List α}{i:Nat}(h:i<l.length)(d:α):l.getD i d=l[i]:=by rw[List.getD_eq_getElem?_getD,List.getElem?_eq_getElem h];rfl
def zM (l:List Int)(i:Nat):Bool:=cx (l.getD i 0) 0 4095&& !(decide (0<i)&&decide (l.getD i 0≤l.getD (i-1) 0))
def cQ (f:Filter):Bool:=(List.range f.2.2.length).all (zM f.2.2)&&(cx f.1 0 281474976710654&&decide ((f.2.2.length:Int)≤8))
theorem rK (f:Filter)(h:f.2.2.length≤1000000000):je f=some (cQ f):=by
 unfold je;rw[eC (hit:=some false) (fin:=some (cx f.1 0 281474976710654&&decide ((f.2.2.length:Int)≤8))) (zM f.2.2) f.2.2.length (by omega) (λi nx hi=>?hs) (λnx=>?hf)]
 case hs=>
  simp only[ku]
  rw[ai (by omega),bH hi,wrap64 (n:=(i:Int)+1) (by omega) (by omega)]
  simp only[ah,ae,ch,zM,db hi]
  by_cases h0:0<i
  ·have e:aw ((i:Int)-1)=((i-1:Nat):Int):=by rw[wrap64 (by omega) (by omega)];omega
   have hp:i-1<f.2.2.length:=by omega
   rw[e,bH hp,ai (show(i:Int)>0 by omega),ai h0,db hp]
   simp only[ah,ae,bn]
   cases cx f.2.2[i] 0 4095<;>cases decide (f.2.2[i]≤f.2.2[i-1])<;>rfl
  ·rw[af (show¬(i:Int)>0 by omega),af h0]
   simp only[ak,dx]
   cases cx f.2.2[i] 0 4095<;>rfl
 case hf=>
  simp only[ku]
  rw[af (by omega)]
  simp only[ak,ch,ae,rZ,ba]
  cases cx f.1 0 281474976710654<;>rfl
 unfold cQ;cases (List.range f.2.2.length).all (zM f.2.2)<;>rfl
theorem lL (f:Filter)(h:f.2.2.length≤1000000000):eg f=some (cQ f):=by
 unfold eg;rw[eC (hit:=some false) (fin:=some (cx f.1 0 281474976710654&&decide ((f.2.2.length:Int)≤8))) (zM f.2.2) f.2.2.length (by omega) (λi nx hi=>?hs) (λnx=>?hf)]
 case hs=>
  simp only[kf]
  rw[ai (by omega),bH hi,wrap64 (n:=(i:Int)+1) (by omega) (by omega)]
  simp only[ah,ae,cX,zM,db hi]
  by_cases h0:0<i
  ·have e:aw ((i:Int)-1)=((i-1:Nat):Int):=by rw[wrap64 (by omega) (by omega)];omega
   have hp:i-1<f.2.2.length:=by omega
   rw[e,bH hp,ai (show(i:Int)>0 by omega),ai h0,db hp]
   simp only[ah,ae,bn,ge_iff_le]
   cases cx f.2.2[i] 0 4095<;>cases decide (f.2.2[i]≤f.2.2[i-1])<;>rfl
  ·rw[af (show¬(i:Int)>0 by omega),af h0]
   simp only[ak,dx]
   cases cx f.2.2[i] 0 4095<;>rfl
 case hf=>
  simp only[kf]
  rw[af (by omega)]
  simp only[ak,cX,ae,rZ,ba]
  cases cx f.1 0 281474976710654<;>rfl
 unfold cQ;cases (List.range f.2.2.length).all (zM f.2.2)<;>rfl
def zc (r:kL):Bool:=(jR r).getD false
theorem MM (r:kL):jR r=some (zc r):=by
 have:∃b,jR r=some b:=by simp only[jR,ch,ae,ba];exact⟨_,rfl⟩
 obtain⟨b,hb⟩:=this;simp[zc,hb]
theorem FC {r:kL}(h:zc r=true):r.2.2.2.2.2.2.2.1=0∨r.2.2.2.2.2.2.2.2=0:=by
 by_cases h0:r.2.2.2.2.2.2.2.1=0;exact .inl h0;by_cases h1:r.2.2.2.2.2.2.2.2=0;exact .inr h1;exfalso;have e0:(r.2.2.2.2.2.2.2.1==0)=false:=by simp[h0]
 have e1:(r.2.2.2.2.2.2.2.2==0)=false:=by simp[h1]
 revert h;unfold zc;simp only[jR,ch,ae,ba,e0,e1,ak,dv];have z:∀c:Bool,(bif c then false else false)=false:=by intro c;cases c<;>rfl
 simp only[z];intro h;cases h
def sS (l:List kL):Bool:=l.all zc&&decide ((l.length:Int)≤12)
theorem Br (l:List kL)(h:l.length≤1000000000):oO l=some (sS l):=by
 unfold oO;rw[lU (hit:=some false) (fin:=some (decide ((l.length:Int)≤12))) zc l (by omega) (λi hi nx=>?hs) (λnx=>?hf)]
 case hs=>
  simp only[lA]
  rw[ai (by omega),bH hi,wrap64 (by omega) (by omega)]
  simp only[ah,ae,MM];rfl
 case hf=>
  simp only[lA]
  rw[af (by omega)];rfl
 unfold sS;cases l.all zc<;>rfl
theorem Jx (l:List kL)(h:l.length≤1000000000):rp l=some (sS l):=by rw[←Br l h];rfl
theorem WY (x:Int):((BitVec.ofInt 64 x&&&BitVec.ofInt 64 7).toNat:Int)=x%8:=by
 have h7:(BitVec.ofInt 64 7).toNat=2^3-1:=by decide
 rw[BitVec.toNat_and,h7,Nat.and_two_pow_sub_one_eq_mod];simp only[BitVec.toNat_ofInt];omega
theorem Tu (x:Int):((BitVec.ofInt (IntKind.bits .i64) x&&&BitVec.ofInt (IntKind.bits .i64) 7).toNat:Int)=x%8:=WY x
theorem Ov (x:Int):gj x 8=some (x%8):=by unfold gj;rw[aq (by omega),Int.tmod_eq_emod];split;rw[af (by omega)];simp;rw[ai (by simp;omega),wrap64 (by simp;omega) (by simp;omega)];simp
def tC (f:jD):Int:=(f.1%8+f.2.1%8+f.2.2.1%8+f.2.2.2.1%8+f.2.2.2.2%8)%8
theorem Ee (f:jD):0≤tC f∧tC f<8:=by unfold tC;omega
theorem NF {n:Int}(h:0≤n):Int.tmod n 8=n%8:=dN h
theorem MI (f:jD):nP f=some (tC f):=by
 unfold nP;generalize hL:[f.1,f.2.1,f.2.2.1,f.2.2.2.1,f.2.2.2.2]=L;have hlen:L.length=5:=by rw[←hL];rfl
 have hfu:=ee;have key:=qR (R:=Int) (T:=g9 (λ(y2:Int) (y3:Int)=>if 8=0 then none else(some (Int.tmod y2 8))) L) L (λ(s:Int) i=>(s,(i:Int))) (λx s k=>k (aw (s+aw (x%8)))) (λs=>some (Int.tmod s 8)) (λi hi s nx=>by simp only[g9];rw[ai (by omega),bH hi,wrap64 (n:=(i:Int)+1) (by omega) (by omega)];simp only[ah,ae];rw[Tu L[i]];rfl) (λs nx=>by simp only[g9];rw[af (by omega)];rfl) fuel 0 0 (by omega) (by omega);refine key.trans ?_;rw[←hL];simp only[cI,po];rw[wrap64 (n:=f.1%8) (by omega) (by omega),wrap64 (n:=f.2.1%8) (by omega) (by omega),wrap64 (n:=f.2.2.1%8) (by omega) (by omega),wrap64 (n:=f.2.2.2.1%8) (by omega) (by omega),wrap64 (n:=f.2.2.2.2%8) (by omega) (by omega)];rw[wrap64 (n:=0+f.1%8) (by omega) (by omega),wrap64 (n:=0+f.1%8+_) (by omega) (by omega),wrap64 (n:=0+f.1%8+_+_) (by omega) (by omega),wrap64 (n:=0+f.1%8+_+_+_) (by omega) (by omega),wrap64 (n:=0+f.1%8+_+_+_+_) (by omega) (by omega)];rw[NF (by omega),tC,Int.zero_add]
theorem LF (f:jD):nC f=some (tC f):=by
 unfold nC;generalize hL:[f.1,f.2.1,f.2.2.1,f.2.2.2.1,f.2.2.2.2]=L;have hlen:L.length=5:=by rw[←hL];rfl
 have hfu:=ee;have key:=qR (R:=Int) (T:=gS (λ(y2:Int) (y3:Int)=>if 8=0 then none else(some (Int.tmod y2 8))) L (L.length:Int)) L (λ(s:Int) i=>(s,(i:Int))) (λx s k=>k (aw (s+(x%8)))) (λs=>some (Int.tmod s 8)) (λi hi s nx=>by simp only[gS];rw[ai (by omega),bH hi,wrap64 (n:=(i:Int)+1) (by omega) (by omega)];simp only[ah,ae,Ov];rfl) (λs nx=>by simp only[gS];rw[af (by omega)];rfl) fuel 0 0 (by omega) (by omega);refine key.trans ?_;rw[←hL];simp only[cI,po];rw[wrap64 (n:=0+f.1%8) (by omega) (by omega),wrap64 (n:=0+f.1%8+_) (by omega) (by omega),wrap64 (n:=0+f.1%8+_+_) (by omega) (by omega),wrap64 (n:=0+f.1%8+_+_+_) (by omega) (by omega),wrap64 (n:=0+f.1%8+_+_+_+_) (by omega) (by omega)];rw[NF (by omega),tC,Int.zero_add]
def dJ (t:List Slot)(i:Nat):Slot:=t.getD i (0,(0,0,0,0,0),0)
theorem qY {t:List Slot}{i:Nat}(h:i<t.length):dJ t i=t[i]:=db h _
def fP (f:jD)(k:Nat):Nat:=((tC f).toNat+k)%8
theorem C8 (f:jD)(k:Nat):fP f k<8:=Nat.mod_lt _ (by omega)
theorem F6 (f:jD)(k:Nat)(h:k<8):Int.tmod (aw (tC f+(k:Int))) 8=(fP f k:Int):=by have:=Ee f;rw[wrap64 (by omega) (by omega),NF (by omega),fP];omega
def l7 (s:Slot)(f:jD):Bool:=(s.1==1)&&decide (s.2.1=f)
theorem Cm (p q:jD):((p.1==q.1)&&((p.2.1==q.2.1)&&((p.2.2.1==q.2.2.1)&&((p.2.2.2.1==q.2.2.2.1)&&((p.2.2.2.2==q.2.2.2.2)&&true)))))=decide (p=q):=by obtain⟨a,b,c,d,e⟩:=p;obtain⟨a',b',c',d',e'⟩:=q;rw[bE];simp
def walk (t:List Slot)(f:jD):Nat→Nat→Int
 |0,_=> -1
 |n+1,k=>if(dJ t (fP f k)).1=0 then-1 else if l7 (dJ t (fP f k)) f then(fP f k:Int) else walk t f n (k+1)
theorem MH (t:List Slot)(f:jD)(ht:t.length=8):oV t f=some (walk t f 8 0):=by
 unfold oV;have hfu:=ee
 have key:=uP (R:=Int) (T:=iU (λ(y6:Int)=>some (-1)) (λ(y7:Int) (y8:Int)=>some y7) 0 t f) 8 (λ(_:Unit) i=>(i:Int))
  (λi s k=>if(dJ t (fP f i)).1=0 then some (-1) else if l7 (dJ t (fP f i)) f then some (fP f i:Int) else k s) (λ_=>some (-1))
  (λi s nx hi=>by
   have hw:fP f i<t.length:=by have:=C8 f i;omega
   simp only[iU,MI];rw[ai (by omega),wrap64 (n:=(i:Int)+1) (by omega) (by omega)];simp only[ah,ae,F6 f i hi,bH hw,qY hw,Cm,l7,ba,ae];rw[aq (by omega)];by_cases h0:t[fP f i].1=0;simp[h0];have e0:(t[fP f i].1==0)=false:=by simp[h0]
   rw[e0,aq h0];cases (t[fP f i].1==1)<;>cases decide (t[fP f i].2.1=f)<;>rfl)
  (λs nx=>by simp only[iU];rfl)
  fuel 0 () (by omega) (by omega)
 refine key.trans ?_;have main:∀n i,PW (R:=Int) (λi (s:Unit) k=>if(dJ t (fP f i)).1=0 then some (-1) else if l7 (dJ t (fP f i)) f then some (fP f i:Int) else k s) (λ_=>some (-1)) 8 n i ()=some (walk t f n i):=by intro n;induction n with|zero=>intro i;rfl|succ n ih=>intro i;rw[PW,walk];split;rfl;split;rfl;exact ih (i+1)
 exact main 8 0
def rj (f:jD):List Slot→Int→Int
 |[],_=> -1
 |s::r,i=>if l7 s f then i else rj f r (i+1)
theorem LL (t:List Slot)(f:jD)(h:t.length≤1000000000):qi t f=some (rj f t 0):=by
 unfold qi;have hfu:=ee;have key:∀n i,i≤t.length→t.length-i<n→bc (mB (λ(y3:Int)=>some (-1)) (λ(y4:Int) (y5:Int)=>some y4) 0 t ((List.length t:Int)) f) n (i:Int)=some (rj f (t.drop i) i):=by
  intro n;induction n with
  |zero=>intro i _ h;omega
  |succ n ih=>
   intro i hi hn;rw[bc];simp only[mB];rcases bl i t.length with hlt|hge;rw[ai (by omega),bH hlt,bj hlt,rj,wrap64 (by omega) (by omega)];simp only[ah,ae,Cm,ba];have e:(bif t[i].1==1 then decide (t[i].2.1=f) else false)=l7 t[i] f:=by unfold l7;cases (t[i].1==1)<;>rfl
   rw[e];cases l7 t[i] f with|true=>rfl|false=>exact ih (i+1) (by omega) (by omega)
   have:i=t.length:=by omega
   subst this;rw[af (by omega),List.drop_length];rfl
 exact key fuel 0 (by omega) (by omega)
theorem Og (f:jD):rq f=some ((List.range 8).map λk=>(fP f k:Int)):=by unfold rq;have hfu:=ee;have key:=uP (R:=List Int) (T:=kS (λ(y2:List Int) (y3:Int)=>some y2) f) 8 (λ(_:Unit) i=>((List.range i).map (λk=>(fP f k:Int)),(i:Int))) (λ_ s k=>k s) (λ_=>some ((List.range 8).map λk=>(fP f k:Int))) (λi s nx hi=>by simp only[kS,LF];rw[ai (by omega),wrap64 (n:=(i:Int)+1) (by omega) (by omega)];simp only[ah,ae,F6 f i hi];rw[aq (by omega),aW (by simp;omega),List.range_succ,List.map_append];rfl) (λs nx=>by simp only[kS];rfl) fuel 0 () (by omega) (by omega);exact key
def clear (t:List Slot)(f:jD)(i:Nat):Nat→Nat→Bool
 |0,_=>true
 |n+1,k=>if fP f k=i then true else if(dJ t (fP f k)).1=0 then false else clear t f i n (k+1)
theorem Jr {R:Type}(k0:Int→Option R)(k1:Bool→Int→Option R)(hit fin:Option R)(h0:∀x,k0 x=fin)(h1:∀x,k1 false x=hit)(v2:Bool)(i:Nat)(v12:List Slot)(v13 v14:Int)(t:List Slot)(f:jD)(ht:t.length=8): bc (fD k0 k1 v2 (i:Int) v12 v13 v14 ((List.range 8).map λk=>(fP f k:Int)) (((List.range 8).map λk=>(fP f k:Int)).length:Int) t) fuel 0=cond (clear t f i 8 0) fin hit:=by
 have hfu:=ee;have hl:((List.range 8).map λk=>(fP f k:Int)).length=8:=by simp
 have key:=uP (R:=R) (T:=fD k0 k1 v2 (i:Int) v12 v13 v14 ((List.range 8).map λk=>(fP f k:Int)) (((List.range 8).map λk=>(fP f k:Int)).length:Int) t) 8 (λ(_:Unit) i=>(i:Int))
  (λk s c=>if fP f k=i then fin else if(dJ t (fP f k)).1=0 then hit else c s) (λ_=>fin)
  (λk s nx hk=>by
   have hw:fP f k<t.length:=by have:=C8 f k;omega
   simp only[fD];rw[ai (by omega),bH (show k<((List.range 8).map λk=>(fP f k:Int)).length by omega),wrap64 (n:=(k:Int)+1) (by omega) (by omega)];simp only[ah,ae,List.getElem_map,List.getElem_range,bH hw,qY hw,h0,h1];by_cases e1:fP f k=i;subst e1;simp;have:((fP f k:Int)==(i:Int))=false:=by simp;omega
   rw[this,aq e1];by_cases e2:t[fP f k].1=0;simp[e2];have:(t[fP f k].1==0)=false:=by simp[e2]
   rw[this,aq e2];rfl)
  (λs nx=>by simp only[fD];rw[af (by omega)];exact h0 _)
  fuel 0 () (by omega) (by omega)
 refine key.trans ?_;have main:∀n k,PW (R:=R) (λk (s:Unit) c=>if fP f k=i then fin else if(dJ t (fP f k)).1=0 then hit else c s) (λ_=>fin) 8 n k ()=cond (clear t f i n k) fin hit:=by intro n;induction n with|zero=>intro k;rfl|succ n ih=>intro k;rw[PW,clear];split;rfl;split;rfl;exact ih (k+1)
 exact main 8 0
def D2:jD:=(0,0,0,0,0)
theorem D3 (p:jD):((p.1==0)&&((p.2.1==0)&&((p.2.2.1==0)&&((p.2.2.2.1==0)&&((p.2.2.2.2==0)&&true)))))=decide (p=D2):=Cm p D2
def FQ (s:Slot):Bool:=cx s.1 0 2&&cx s.2.2 0 3&&((s.1==1)||(s.2.2==0)&&decide (s.2.1=D2))
def kt (t:List Slot)(i:Nat):Bool:=FQ (dJ t i)&&(!((dJ t i).1==1)||(walk t (dJ t i).2.1 8 0==(i:Int)))
def lX (t:List Slot)(i:Nat):Bool:=FQ (dJ t i)&&(!((dJ t i).1==1)||(rj (dJ t i).2.1 t 0==(i:Int))&&clear t (dJ t i).2.1 i 8 0)
def rO (t:List Slot):Bool:=(t.length==8)&&(List.range 8).all (kt t)
theorem KC (t:List Slot):oP t=some (rO t):=by
 unfold oP rO;by_cases ht:t.length=8
 ·have e:((t.length:Int) !=8)=false:=by rw[ht];rfl
  have e2:(t.length==8)=true:=by rw[ht];rfl
  rw[e,e2];simp only[ak,bn];rw[eC (hit:=some false) (fin:=some true) (kt t) 8 (by omega) (λi nx hi=>?hs) (λnx=>?hf)]
  case hs=>
   have hl:i<t.length:=by omega
   simp only[lC]
   rw[ai (by omega),bH hl,wrap64 (by omega) (by omega)]
   simp only[ah,ae,ch,ba,D3,MH t _ ht,kt,qY hl,FQ,bne]
   cases cx t[i].1 0 2<;>cases cx t[i].2.2 0 3<;>cases (t[i].1==1)<;>cases (t[i].2.2==0)<;>cases decide (t[i].2.1=D2)<;>first|rfl|(cases (walk t t[i].2.1 8 0==(i:Int))<;>rfl)
  case hf=>
   simp only[lC]
   rw[af (by omega)];rfl
  cases (List.range 8).all (kt t)<;>rfl
 have e:((t.length:Int) !=8)=true:=by simp;omega
 have e2:(t.length==8)=false:=by simp[ht]
 rw[e,e2];rfl
theorem GZ (t:List Slot):mw t=some ((t.length==8)&&(List.range 8).all (lX t)):=by
 unfold mw;by_cases ht:t.length=8
 ·have e:((t.length:Int) !=8)=false:=by rw[ht];rfl
  have e2:(t.length==8)=true:=by rw[ht];rfl
  rw[e,e2];simp only[ak,bn];rw[eC (hit:=some false) (fin:=some true) (lX t) 8 (by omega) (λi nx hi=>?hs) (λnx=>?hf)]
  case hs=>
   have hl:i<t.length:=by omega
   simp only[lh]
   rw[ai (by omega),bH hl,wrap64 (by omega) (by omega)]
   simp only[ah,ae,cX,ba,D3,LL t _ (show t.length≤1000000000 by omega),Og,lX,qY hl,FQ,bne]
   rw[Jr (λ_=>nx ((i:Int)+1)) (λ(y:Bool) (_:Int)=>some y) (some false) (nx ((i:Int)+1)) (λ_=>rfl) (λ_=>rfl) _ _ _ _ _ _ _ ht]
   cases cx t[i].1 0 2<;>cases cx t[i].2.2 0 3<;>cases (t[i].1==1)<;>cases (t[i].2.2==0)<;>cases decide (t[i].2.1=D2)<;>first|rfl|(cases (rj t[i].2.1 t 0==(i:Int))<;>first|rfl|(cases clear t t[i].2.1 i 8 0<;>rfl))
  case hf=>
   simp only[lh]
   rw[af (by omega)];rfl
  cases (List.range 8).all (lX t)<;>rfl
 have e:((t.length:Int) !=8)=true:=by simp;omega
 have e2:(t.length==8)=false:=by simp[ht]
 rw[e,e2];rfl
theorem BA (t:List Slot)(f:jD)(i:Nat):∀n k,walk t f n k=(i:Int)→l7 (dJ t i) f=true∧clear t f i n k=true∧∃j,j<n∧fP f (k+j)=i
 |0,k,h=>by unfold walk at h;omega
 |n+1,k,h=>by
  unfold walk at h;unfold clear;by_cases h0:(dJ t (fP f k)).1=0;rw[ar h0]at h;omega;rw[aq h0]at h;by_cases h1:l7 (dJ t (fP f k)) f=true;rw[ar h1]at h;have:fP f k=i:=by omega
  subst this;exact⟨h1,by simp,0,by omega,rfl⟩;rw[aq h1]at h;obtain⟨a,b,j,hj,e⟩:=BA t f i n (k+1) h;refine⟨a,?_,j+1,by omega,by rw[←e];congr 1;omega⟩;rw[aq h0,b];split<;>rfl
theorem IZ (t:List Slot)(f:jD)(i:Nat)(hu:l7 (dJ t i) f=true)(huniq:∀j,j<8→l7 (dJ t j) f=true→j=i):∀n k,clear t f i n k=true→(∃j,j<n∧fP f (k+j)=i)→walk t f n k=(i:Int)
 |0,k,_,h=>by obtain⟨j,hj,_⟩:=h;omega
 |n+1,k,hc,⟨j,hj,e⟩=>by unfold walk;unfold clear at hc;by_cases h1:fP f k=i;rw[h1,aq,ar hu];intro h0;unfold l7 at hu;rw[h0]at hu;simp at hu;rw[aq h1]at hc;by_cases h0:(dJ t (fP f k)).1=0;rw[ar h0]at hc;cases hc;rw[aq h0]at hc;rw[aq h0,aq (λhu'=>h1 (huniq _ (C8 f k) hu'))];refine IZ t f i hu huniq n (k+1) hc ?_;cases j with|zero=>exact absurd e h1|succ j=>exact⟨j,by omega,by rw[←e];congr 1;omega⟩
theorem O0 (f:jD)(i:Nat)(hi:i<8):∃j,j<8∧fP f (0+j)=i:=by have:=Ee f;refine⟨(i+8-(tC f).toNat)%8,by omega,?_⟩;unfold fP;omega
theorem wu (f:jD):∀(t:List Slot)(m:Nat),(∃j,j<t.length∧l7 (dJ t j) f=true)→∃j,j<t.length∧l7 (dJ t j) f=true∧rj f t m=((m+j:Nat):Int)
 |[],_,h=>by obtain⟨j,hj,_⟩:=h;simp at hj
 |s::r,m,⟨j,hj,e⟩=>by
  unfold rj;by_cases hs:l7 s f=true;rw[ar hs];exact⟨0,by simp,by simpa[dJ]using hs,by simp⟩;rw[aq hs];cases j with
  |zero=>exact absurd (by simpa[dJ]using e) hs
  |succ j=>
   obtain⟨j',h1,h2,h3⟩:=wu f r (m+1) ⟨j,by simpa using hj,by simpa[dJ]using e⟩;refine⟨j'+1,by simpa using h1,by simpa[dJ]using h2,?_⟩;have:((m:Int)+1)=((m+1:Nat):Int):=by omega
   rw[this,h3];congr 1;omega
theorem HF (t:List Slot)(ht:t.length=8):(List.range 8).all (lX t)=(List.range 8).all (kt t):=by
 rw[bE,ay,ay];simp only[bw];constructor;intro h i hi;have hI:=h i hi;unfold lX at hI;unfold kt;simp only[ab,bU,aA,aM]at hI⊢;refine⟨hI.1,?_⟩;rcases hI.2 with h1|⟨h1,h2⟩;exact .inl h1;by_cases hu:((dJ t i).1==1)=true;right;have hu':l7 (dJ t i) (dJ t i).2.1=true:=by unfold l7;rw[hu];simp
 refine IZ t _ i hu' (λj hj huj=>?_) 8 0 h2 (O0 _ i hi);have hJ:=h j hj;unfold lX at hJ;unfold l7 at huj;simp only[ab,aI]at huj;simp only[ab,bU,aA,aM]at hJ;rcases hJ.2 with h3|⟨h3,_⟩;rw[huj.1]at h3;cases h3;rw[huj.2]at h3;omega;exact .inl (by simpa using hu);intro h i hi;have hI:=h i hi;unfold kt at hI;unfold lX;simp only[ab,bU,aA,aM]at hI⊢;refine⟨hI.1,?_⟩;rcases hI.2 with h1|h1;exact .inl h1;right;obtain⟨hu,hc,_⟩:=BA t _ i 8 0 h1;refine⟨?_,hc⟩;obtain⟨j,hj,huj,e⟩:=wu (dJ t i).2.1 t 0 ⟨i,by omega,hu⟩;have hJ:=h j (by omega);unfold kt at hJ;unfold l7 at huj;simp only[ab,aI]at huj;simp only[ab,bU,aA,aM]at hJ;rcases hJ.2 with h3|h3;rw[huj.1]at h3;cases h3;rw[huj.2,h1]at h3;have e':rj (dJ t i).2.1 t 0=((0+j:Nat):Int):=e;rw[e'];omega
theorem Jz (t:List Slot):mw t=some (rO t):=by
 rw[GZ,rO];by_cases ht:t.length=8;rw[HF t ht];have e2:(t.length==8)=false:=by simp[ht]
 rw[e2];rfl
def IK (n:Int):Bool:=(n==1)||(n==2)||(n==4)||(n==8)||(n==16)
theorem G8 (n:Int):oT n=some (IK n):=by simp only[oT,ba,ae,IK];cases (n==1)<;>cases (n==2)<;>cases (n==4)<;>cases (n==8)<;>rfl
def o4 (s:rf)(q:Int):Bool:=cx q 1 4&&((s.1.length:Int)==16)&&IK s.2.length&&s.2.all λx=>cx x 0 (q-1)
theorem zu (s:rf)(q:Int)(h:s.2.length≤1000000000):nS s q=some (o4 s q):=by
 unfold nS o4;simp only[ch,G8,ae,ba,bne];by_cases hq:cx q 1 4=true
 ·rw[lU (hit:=some false) (fin:=some true) (λx=>cx x 0 (q-1)) s.2 (by omega) (λi hi nx=>?hs) (λnx=>?hf)]
  case hs=>
   rw[bq]at hq
   simp only[kA]
   rw[ai (by omega),bH hi,wrap64 (n:=(i:Int)+1) (by omega) (by omega),wrap64 (n:=q-1) (by omega) (by omega)]
   simp only[ah,ae,ch];rfl
  case hf=>
   simp only[kA]
   rw[af (by omega)];rfl
  rw[hq];cases ((s.1.length:Int)==16)<;>cases IK s.2.length<;>cases s.2.all (λx=>cx x 0 (q-1))<;>rfl
 have hq':cx q 1 4=false:=by simpa using hq
 rw[hq'];rfl
theorem GY (s:rf)(q:Int)(h:s.2.length≤1000000000):qB s q=some (o4 s q):=by rw[←zu s q h];rfl
def dK (s:cd)(q:Int):Bool:=sS s.1&&rO s.2.1&&o4 s.2.2 q&&s.1.all (λr=> !(decide (r.2.2.2.2.2.2.2.2≥q)))&&s.2.1.all (λx=> !(decide (x.2.2≥q)))
theorem vf (s:cd)(q:Int)(h1:s.1.length≤1000000000)(h2:s.2.1.length≤1000000000)(h3:s.2.2.2.length≤1000000000):lB s q=some (dK s q):=by
 unfold lB dK;simp only[Br _ h1,KC,zu _ _ h3,ae,ba];rw[lU (hit:=some false) (fin:=cond (s.2.1.all (λx=> !(decide (x.2.2≥q)))) (some true) (some false)) (λr:kL=> !(decide (r.2.2.2.2.2.2.2.2≥q))) s.1 (by omega) (λi hi nx=>?hs) (λnx=>?hf)]
 case hs=>
  simp only[iG]
  rw[ai (by omega),bH hi,wrap64 (by omega) (by omega)]
  simp only[ah,ae,de];rfl
 case hf=>
  simp only[iG]
  rw[af (by omega)]
  simp only[ak]
  rw[lU (hit:=some false) (fin:=some true) (λx:Slot=> !(decide (x.2.2≥q))) s.2.1 (by omega) (λi hi nx=>?hs) (λnx=>?hf)]
  case hs=>
   simp only[iH]
   rw[ai (by omega),bH hi,wrap64 (by omega) (by omega)]
   simp only[ah,ae,de];rfl
  case hf=>
   simp only[iH]
   rw[af (by omega)];rfl
 cases sS s.1<;>cases rO s.2.1<;>cases o4 s.2.2 q<;>cases s.1.all (λr=> !(decide (r.2.2.2.2.2.2.2.2≥q)))<;>cases s.2.1.all (λx=> !(decide (x.2.2≥q)))<;>rfl
theorem Cx (s:cd)(q:Int)(h1:s.1.length≤1000000000)(h2:s.2.1.length≤1000000000)(h3:s.2.2.2.length≤1000000000):lg s q=some (dK s q):=by
 unfold lg dK;simp only[Jx _ h1,Jz,GY _ _ h3,ae,ba];rw[lU (hit:=some false) (fin:=cond (s.2.1.all (λx=> !((x.1==1)&&decide (x.2.2≥q)))) (some true) (some false)) (λr:kL=> !((r.2.2.2.2.2.2.2.1==0)&&decide (r.2.2.2.2.2.2.2.2≥q))) s.1 (by omega) (λi hi nx=>?hs) (λnx=>?hf)]
 case hs=>
  simp only[iv]
  rw[ai (by omega),bH hi,wrap64 (by omega) (by omega)]
  simp only[ah,ae,de,ba]
  cases (s.1[i].2.2.2.2.2.2.2.1==0)<;>rfl
 case hf=>
  simp only[iv]
  rw[af (by omega)]
  simp only[ak]
  rw[lU (hit:=some false) (fin:=some true) (λx:Slot=> !((x.1==1)&&decide (x.2.2≥q))) s.2.1 (by omega) (λi hi nx=>?hs) (λnx=>?hf)]
  case hs=>
   simp only[gI]
   rw[ai (by omega),bH hi,wrap64 (by omega) (by omega)]
   simp only[ah,ae,de,ba]
   cases (s.2.1[i].1==1)<;>rfl
  case hf=>
   simp only[gI]
   rw[af (by omega)];rfl
 cases hr:sS s.1 with
 |false=>rfl
 |true=>
  cases ht:rO s.2.1 with
  |false=>rfl
  |true=>
   cases hs:o4 s.2.2 q with
   |false=>rfl
   |true=>
    have hq:1≤q:=by unfold o4 at hs;simp only[ab,bq]at hs;exact hs.1.1.1.1
    have e1:s.1.all (λr=> !((r.2.2.2.2.2.2.2.1==0)&&decide (r.2.2.2.2.2.2.2.2≥q)))=s.1.all (λr=> !(decide (r.2.2.2.2.2.2.2.2≥q))):=by unfold sS at hr;simp only[ab,ay]at hr;rw[bE,ay,ay];refine forall_congr' λr=>forall_congr' λhm=>?_;rcases FC (hr.1 r hm)with h0|h0;rw[h0];simp;rw[h0];simp only[af (show¬(0:Int)≥q by omega),eU]
    have e2:s.2.1.all (λx=> !((x.1==1)&&decide (x.2.2≥q)))=s.2.1.all (λx=> !(decide (x.2.2≥q))):=by unfold rO at ht;simp only[ab,ay,bw,aM]at ht;rw[bE,ay,ay];refine forall_congr' λx=>forall_congr' λhm=>?_;obtain⟨i,hi,rfl⟩:=List.mem_iff_getElem.1 hm;have hsl:=ht.2 i (by omega);unfold kt FQ at hsl;rw[qY hi]at hsl;simp only[ab,bU,aM]at hsl;rcases hsl.1.2 with h0|⟨h0,_⟩;rw[h0];simp;rw[h0];simp only[af (show¬(0:Int)≥q by omega),eU]
    rw[e1,e2];cases s.1.all (λr=> !(decide (r.2.2.2.2.2.2.2.2≥q)))<;>cases s.2.1.all (λx=> !(decide (x.2.2≥q)))<;>rfl
theorem oq {n:Nat}(h:n<9223372036854775808):aw (n:Int)=(n:Int):=wrap64 (by omega) (by omega)
theorem vq {n:Nat}(h:n<4294967296):IntKind.wrap .u32 (n:Int)=(n:Int):=by simp only[aw,gA,IntKind.wrap,IntKind.bits,IntKind.signed];simp;omega
theorem uw (b:UInt8):b.toNat<256:=b.toNat_lt
def dA (v:Int):Bytes:=(bW v).getD []
theorem lO (v:Int):bW v=some (dA v):=by
 unfold dA;have:∃x,bW v=some x:=by simp only[bW,ch,ae];cases cx v 0 65535<;>exact⟨_,rfl⟩
 obtain⟨x,hx⟩:=this;rw[hx];rfl
theorem HS (v:Int):(dA v).length=bif cx v 0 65535 then 2 else 0:=by have h:=lO v;simp only[bW,ch,ae]at h;cases hb:cx v 0 65535<;>rw[hb]at h<;>(rw[←bu h];rfl)
theorem cr (v:Int):(dA v).length≤2:=by rw[HS];cases cx v 0 65535<;>simp
def dU (v:Int):Bytes:=(cV v).getD []
theorem iC (v:Int):cV v=some (dU v):=by
 unfold dU;have:∃x,cV v=some x:=by simp only[cV,ch,ae];cases cx v 0 4294967295<;>exact⟨_,rfl⟩
 obtain⟨x,hx⟩:=this;rw[hx];rfl
theorem yw (v:Int):oa v=some (dU v):=iC v
theorem HT (v:Int):(dU v).length=bif cx v 0 4294967295 then 4 else 0:=by have h:=iC v;simp only[cV,ch,ae]at h;cases hb:cx v 0 4294967295<;>rw[hb]at h<;>(rw[←bu h];rfl)
theorem cZ (v:Int):(dU v).length≤4:=by rw[HT];cases cx v 0 4294967295<;>simp
def cY (s:Bytes)(i:Nat):Nat:=(s.getD i 0).toNat
theorem dP (s:Bytes)(i:Nat):cY s i<256:=uw _
theorem n7 {s:Bytes}{i:Nat}(h:i<s.length):∃x,idx s (i:Int)=some x∧x.toNat=cY s i:=⟨s[i],bH h,by rw[cY,db h]⟩
def dC (s:Bytes)(a n:Int):Bool:=decide (0≤a∧a+n≤(s.length:Int))
theorem sU (s:Bytes)(a n:Int)(h:s.length≤1000000000)(hn:0≤n):hR s a n=some (dC s a n):=by unfold hR dC;by_cases h0:0≤a;by_cases h1:a≤(s.length:Int);rw[ai (show a≥0 from h0),ai h1,wrap64 (by omega) (by omega)];simp only[ah,ae];congr 1;rw[decide_eq_decide];omega;rw[ai (show a≥0 from h0),af h1,af (show¬(0≤a∧a+n≤(s.length:Int)) by omega)];rfl;rw[af (show¬a≥0 from h0),af (show¬(0≤a∧a+n≤(s.length:Int)) by omega)];rfl
def fA (s:Bytes)(a:Int):Int:=bif dC s a 2 then((cY s a.toNat*256+cY s (a.toNat+1):Nat):Int) else-1
def eA (s:Bytes)(a:Int):Int:=bif dC s a 4 then(((cY s a.toNat*256+cY s (a.toNat+1))*65536+(cY s (a.toNat+2)*256+cY s (a.toNat+3)):Nat):Int) else-1
theorem Bp (s:Bytes)(a:Int)(h:s.length≤1000000000):pL s a=some (fA s a):=by unfold pL fA;rw[sU s a 2 h (by omega),ae];cases hw:dC s a 2 with|false=>rfl|true=>simp only[dC,aI]at hw;obtain⟨n,rfl⟩:=bJ hw.1;obtain⟨x,hx,ex⟩:=n7 (s:=s) (i:=n) (by omega);obtain⟨y,hy,ey⟩:=n7 (s:=s) (i:=n+1) (by omega);have hxl:=dP s n;have hyl:=dP s (n+1);rw[wrap64 (n:=(n:Int)+1) (by omega) (by omega),hx,show(n:Int)+1=((n+1:Nat):Int) by omega,hy];simp only[ax,ak,ae,aS,ah];rw[aq (by omega),ex,ey,oq (by omega),oq (by omega)];have e8:min (Int.toNat 8) (IntKind.bits .i64)=8:=rfl;rw[e8,wrap64 (n:=((cY s n:Nat):Int)*2^8) (by omega) (by omega),wrap64 (by omega) (by omega)];congr 1;all_goals omega
theorem Kx (s:Bytes)(a:Int)(h:s.length≤1000000000):nk s a=some (eA s a):=by
 unfold nk eA;rw[sU s a 4 h (by omega),ae];cases hw:dC s a 4 with
 |false=>rfl
 |true=>
  simp only[dC,aI]at hw;obtain⟨n,rfl⟩:=bJ hw.1;have w1:dC s (n:Int) 2=true:=by simp only[dC,aI];omega
  have w2:dC s ((n:Int)+2) 2=true:=by simp only[dC,aI];omega
  have b0:=dP s n;have b1:=dP s (n+1);have b2:=dP s (n+2);have b3:=dP s (n+3);rw[wrap64 (n:=(n:Int)+2) (by omega) (by omega),Bp s _ h,Bp s _ h];simp only[ax,ak,ae,ah,fA,w1,w2,aS];rw[aq (by omega),show((n:Int)+2).toNat=n+2 by omega,show n+2+1=n+3 by omega];have e8:min (Int.toNat 16) (IntKind.bits .i64)=16:=rfl;rw[e8,wrap64 (n:=((cY s n*256+cY s (n+1):Nat):Int)*2^16) (by omega) (by omega),wrap64 (by omega) (by omega)];congr 1;all_goals omega
theorem aaa (a b:Nat)(ha:a<9223372036854775808)(hb:b<9223372036854775808):BitVec.toNat (BitVec.ofInt (IntKind.bits .i64) (a:Int)|||BitVec.ofInt (IntKind.bits .i64) (b:Int))=a|||b:=by show(BitVec.ofInt 64 (a:Int)|||BitVec.ofInt 64 (b:Int)).toNat=_;rw[b5,b5,BitVec.toNat_or,cj,cj,cp (by omega),cp (by omega)]
theorem Tt (a b:Nat)(ha:a<9223372036854775808)(hb:b<9223372036854775808):BitVec.toNat (BitVec.ofInt (IntKind.bits .i64) (a:Int)&&&BitVec.ofInt (IntKind.bits .i64) (b:Int))=a&&&b:=by show(BitVec.ofInt 64 (a:Int)&&&BitVec.ofInt 64 (b:Int)).toNat=_;rw[b5,b5,BitVec.toNat_and,cj,cj,cp (by omega),cp (by omega)]
theorem PY (a b:Nat)(ha:a<9223372036854775808)(hb:b<9223372036854775808):BitVec.toNat (BitVec.ofInt (IntKind.bits .i64) (a:Int)^^^BitVec.ofInt (IntKind.bits .i64) (b:Int))=a^^^b:=by show(BitVec.ofInt 64 (a:Int)^^^BitVec.ofInt 64 (b:Int)).toNat=_;rw[b5,b5,BitVec.toNat_xor,cj,cj,cp (by omega),cp (by omega)]
theorem Ts (a b:Nat)(ha:a<4294967296)(hb:b<4294967296):BitVec.toNat (BitVec.ofInt (IntKind.bits .u32) (a:Int)&&&BitVec.ofInt (IntKind.bits .u32) (b:Int))=a&&&b:=by show(BitVec.ofInt 32 (a:Int)&&&BitVec.ofInt 32 (b:Int)).toNat=_;rw[b5,b5,BitVec.toNat_and,cj,cj,cp (by omega),cp (by omega)]
theorem PX (a b:Nat)(ha:a<4294967296)(hb:b<4294967296):BitVec.toNat (BitVec.ofInt (IntKind.bits .u32) (a:Int)^^^BitVec.ofInt (IntKind.bits .u32) (b:Int))=a^^^b:=by show(BitVec.ofInt 32 (a:Int)^^^BitVec.ofInt 32 (b:Int)).toNat=_;rw[b5,b5,BitVec.toNat_xor,cj,cj,cp (by omega),cp (by omega)]
theorem Hu (x k y:Nat)(hy:y<2^k)(h:2^k*x+y<9223372036854775808):aw (BitVec.toNat (BitVec.ofInt (IntKind.bits .i64) ((2^k*x:Nat):Int)|||BitVec.ofInt (IntKind.bits .i64) (y:Int)):Int)=((2^k*x+y:Nat):Int):=by rw[aaa _ _ (by omega) (by omega),←Nat.two_pow_add_eq_or_of_lt hy];exact oq h
theorem F4 (s:Bytes)(a n:Int):(cond (decide (a<0)) (some true) (some (decide (a>(s.length:Int)-n))))=some (!dC s a n):=by cases hw:dC s a n with|true=>simp only[dC,aI]at hw;rw[af (show¬a<0 by omega),af (show¬a>(s.length:Int)-n by omega)];rfl|false=>simp only[dC,decide_eq_false_iff_not]at hw;by_cases h0:a<0;rw[ai h0];rfl;rw[af h0,ai (show a>(s.length:Int)-n by omega)];rfl
theorem Ju (s:Bytes)(a:Int)(h:s.length≤1000000000):pw s a=some (eA s a):=by
 unfold pw eA;rw[wrap64 (n:=(s.length:Int)-4) (by omega) (by omega)];rw[F4,ae];cases hw:dC s a 4 with
 |false=>rfl
 |true=>
  simp only[dC,aI]at hw;obtain⟨n,rfl⟩:=bJ hw.1;obtain⟨x0,h0,e0⟩:=n7 (s:=s) (i:=n) (by omega);obtain⟨x1,h1,e1⟩:=n7 (s:=s) (i:=n+1) (by omega);obtain⟨x2,h2,e2⟩:=n7 (s:=s) (i:=n+2) (by omega);obtain⟨x3,h3,e3⟩:=n7 (s:=s) (i:=n+3) (by omega);have b0:=dP s n;have b1:=dP s (n+1);have b2:=dP s (n+2);have b3:=dP s (n+3)
  rw[wrap64 (n:=(n:Int)+1) (by omega) (by omega),wrap64 (n:=(n:Int)+2) (by omega) (by omega),wrap64 (n:=(n:Int)+3) (by omega) (by omega),h0,show(n:Int)+1=((n+1:Nat):Int) by omega,h1,
   show(n:Int)+2=((n+2:Nat):Int) by omega,h2,show(n:Int)+3=((n+3:Nat):Int) by omega,h3]
  simp only[ax,ak,ah,ae,aS];rw[aq (by omega),aq (by omega),aq (by omega),e0,e1,e2,e3];generalize cY s n=p0 at*;generalize cY s (n+1)=p1 at*;generalize cY s (n+2)=p2 at*;generalize cY s (n+3)=p3 at*;have f24:min (Int.toNat 24) (IntKind.bits .i64)=24:=rfl;have f16:min (Int.toNat 16) (IntKind.bits .i64)=16:=rfl;have f8:min (Int.toNat 8) (IntKind.bits .i64)=8:=rfl
  rw[oq (n:=p0) (by omega),oq (n:=p1) (by omega),oq (n:=p2) (by omega),oq (n:=p3) (by omega),f24,f16,f8,
   show((p0:Nat):Int)*2^24=((2^24*p0:Nat):Int) by omega,show((p1:Nat):Int)*2^16=((2^16*p1:Nat):Int) by omega,show((p2:Nat):Int)*2^8=((2^8*p2:Nat):Int) by omega,
   oq (n:=2^24*p0) (by omega),oq (n:=2^16*p1) (by omega),oq (n:=2^8*p2) (by omega),Hu p0 24 (2^16*p1) (by omega) (by omega),
   show 2^24*p0+2^16*p1=2^16*(2^8*p0+p1) by omega,Hu _ 16 (2^8*p2) (by omega) (by omega),
   show 2^16*(2^8*p0+p1)+2^8*p2=2^8*(2^8*(2^8*p0+p1)+p2) by omega,Hu _ 8 p3 (by omega) (by omega)]
  congr 1;all_goals omega
def tT (c:Nat):Nat:=if c%2=1 then(c/2)^^^3988292384 else c/2
def l8:Nat→Nat→Nat
 |0,c=>c
 |n+1,c=>tT (l8 n c)
def W0 (c:Nat)(s:Bytes):Nat:=s.foldl (λc b=>l8 8 (c^^^b.toNat)) c
def wq (s:Bytes):Int:=4294967295-(W0 4294967295 s:Int)
theorem uk {a b:Nat}(ha:a<4294967296)(hb:b<4294967296):a^^^b<4294967296:=Nat.xor_lt_two_pow (n:=32) ha hb
theorem Jg {c:Nat}(h:c<4294967296):tT c<4294967296:=by unfold tT;split;exact uk (by omega) (by omega);omega
theorem uz {c:Nat}(h:c<4294967296):∀n,l8 n c<4294967296
 |0=>h
 |n+1=>Jg (uz h n)
theorem MC {R:Type}(k0:Int→Int→Option R)(k:Int→Option R)(hk:∀x y,k0 x y=k x)(v0:Bytes)(v4:Int)(c:Nat)(h:c<4294967296):bc (jd k0 v0 v4) fuel ((c:Int),0)=k (l8 8 c:Int):=by
 have hfu:=ee
 have key:=uP (T:=jd k0 v0 v4) 8 (λ(_:Unit) i=>((l8 i c:Int),(i:Int))) (λ_ s nx=>nx s) (λ_=>k (l8 8 c:Int))
  (λi s nx hi=>by
   have hc:=uz h i;simp only[jd];have a1:=Tt (l8 i c) 1 (by omega) (by omega);have x1:=PY (l8 i c/2) 3988292384 (by omega) (by omega);simp only[Int.natCast_one]at a1
   rw[ai (by omega),ah,a1,Nat.and_one_is_mod,
    show min (Int.toNat 1) (IntKind.bits .i64)=1 from rfl,show Int.fdiv ((l8 i c:Nat):Int) (2^1)=((l8 i c/2:Nat):Int) from by rw[Int.fdiv_eq_ediv_of_nonneg _ (by omega)];rfl,
    show(3988292384:Int)=((3988292384:Nat):Int) from rfl,x1,
    oq (n:=l8 i c%2) (by omega),oq (n:=(l8 i c/2)^^^3988292384) (by have:=uk (a:=l8 i c/2) (b:=3988292384) (by omega) (by omega);omega),aq (by omega),aq (by omega),wrap64 (n:=(i:Int)+1) (by omega) (by omega)]
   show _=nx ((tT (l8 i c):Int),((i+1:Nat):Int));unfold tT;by_cases hp:l8 i c%2=1;rw[hp,ar rfl];rfl;have h0:l8 i c%2=0:=by omega
   rw[h0,aq (by omega)];rfl)
  (λs nx=>by simp only[jd];rw[af (by omega),ak,hk])
  fuel 0 () (by omega) (by omega)
 refine key.trans ?_;rfl
theorem LB {R:Type}(k0:Int→Int→Option R)(k:Int→Option R)(hk:∀x y,k0 x y=k x)(v0:Bytes)(v4:Int)(c:Nat)(h:c<4294967296):bc (iZ k0 v0 v4) fuel ((c:Int),0)=k (l8 8 c:Int):=by
 have hfu:=ee
 have key:=uP (T:=iZ k0 v0 v4) 8 (λ(_:Unit) i=>((l8 i c:Int),(i:Int))) (λ_ s nx=>nx s) (λ_=>k (l8 8 c:Int))
  (λi s nx hi=>by
   have hc:=uz h i;simp only[iZ];have a1:=Ts (l8 i c) 1 (by omega) (by omega);have x1:=PX (l8 i c/2) 3988292384 (by omega) (by omega);simp only[Int.natCast_one]at a1
   rw[ai (by omega),ah,a1,Nat.and_one_is_mod,
    show min (Int.toNat 1) (IntKind.bits .u32)=1 from rfl,show Int.fdiv ((l8 i c:Nat):Int) (2^1)=((l8 i c/2:Nat):Int) from by rw[Int.fdiv_eq_ediv_of_nonneg _ (by omega)];rfl,
    show(3988292384:Int)=((3988292384:Nat):Int) from rfl,x1,
    vq (n:=l8 i c%2) (by omega),vq (n:=(l8 i c/2)^^^3988292384) (uk (by omega) (by omega)),aq (by omega),wrap64 (n:=(i:Int)+1) (by omega) (by omega)]
   show _=nx ((tT (l8 i c):Int),((i+1:Nat):Int));unfold tT;by_cases hp:l8 i c%2=1;rw[hp,ar rfl];rfl;have h0:l8 i c%2=0:=by omega
   rw[h0,aq (by omega)];rfl)
  (λs nx=>by simp only[iZ];rw[af (by omega),ak,hk])
  fuel 0 () (by omega) (by omega)
 refine key.trans ?_;rfl
theorem IM (s:Bytes)(h:s.length≤1000000000):pK s=some (wq s):=by
 unfold pK;have:=og (T:=kX (λ(y4:Int) (_:Int)=>some (aw (4294967295-y4))) s) s (λ(c:Nat) i=>((c:Int),(i:Int))) (λ_ c=>c<4294967296) (λb c=> .ok (l8 8 (c^^^b.toNat))) (λc=>some (4294967295-(c:Int))) (by omega) (λi hi c nx hI=>?hs) (λi hi c c' hI hg=>?hn) (λc nx hI=>?hf) 4294967295 (by omega)
 case hs=>
  have hb:=uw s[i]
  simp only[kX]
  rw[ai (by omega),bH hi,ah,ae,oq (n:=s[i].toNat) (by omega),PY c s[i].toNat (by omega) (by omega)]
  have hx:=uk hI (show s[i].toNat<4294967296 by omega)
  rw[oq (by omega),MC _ (λy=>nx (y,(i:Int)+1)) (λx y=>by rw[wrap64 (by omega) (by omega)]) _ _ _ hx];rfl
 case hn=>
  cases hg
  exact uz (uk hI (by have:=uw s[i];omega)) 8
 case hf=>
  simp only[kX]
  rw[af (by omega),ak,wrap64 (by omega) (by omega)]
 rw[u4]at this;exact this
theorem not_xor (c:Nat)(h:c<4294967296):BitVec.toNat (BitVec.ofInt (IntKind.bits .u32) (IntKind.max .u32)^^^BitVec.ofInt (IntKind.bits .u32) (c:Int))=4294967295-c:=by show(BitVec.ofInt 32 4294967295^^^BitVec.ofInt 32 (c:Int)).toNat=_;rw[show BitVec.ofInt 32 4294967295=BitVec.allOnes 32 by decide,b5,BitVec.allOnes_xor,BitVec.toNat_not,cj,cp (show c<2^32 by omega)]
theorem Oe (s:Bytes)(h:s.length≤1000000000):rm s=some (wq s):=by
 unfold rm;have:=og (T:=kQ (λ(y4:Int) (_:Int)=>some (aw (IntKind.wrap .u32 (BitVec.toNat (BitVec.ofInt (IntKind.bits .u32) (IntKind.max .u32)^^^BitVec.ofInt (IntKind.bits .u32) y4))))) s) s (λ(c:Nat) i=>((c:Int),(i:Int))) (λ_ c=>c<4294967296) (λb c=> .ok (l8 8 (c^^^b.toNat))) (λc=>some (4294967295-(c:Int))) (by omega) (λi hi c nx hI=>?hs) (λi hi c c' hI hg=>?hn) (λc nx hI=>?hf) 4294967295 (by omega)
 case hs=>
  have hb:=uw s[i]
  simp only[kQ]
  rw[ai (by omega),bH hi,ah,ae,vq (n:=s[i].toNat) (by omega),PX c s[i].toNat (by omega) (by omega)]
  have hx:=uk hI (show s[i].toNat<4294967296 by omega)
  rw[vq hx,LB _ (λy=>nx (y,(i:Int)+1)) (λx y=>by rw[wrap64 (by omega) (by omega)]) _ _ _ hx];rfl
 case hn=>
  cases hg
  exact uz (uk hI (by have:=uw s[i];omega)) 8
 case hf=>
  simp only[kQ]
  rw[af (by omega),ak,not_xor c hI,vq (by omega),oq (by omega)]
  congr 1
  all_goals omega
 rw[u4]at this;exact this
def dm (m:List Bytes):Bool:=m.all (λx=>(x.length:Int)==128)&&decide ((m.length:Int)≤64)
theorem uf (m:List Bytes)(h:m.length≤1000000000):kZ m=some (dm m):=by
 unfold kZ dm;rw[lU (hit:=some false) (fin:=some (decide ((m.length:Int)≤64))) (λx:Bytes=>(x.length:Int)==128) m (by omega) (λi hi nx=>?hs) (λnx=>?hf)]
 case hs=>
  simp only[kv]
  rw[ai (by omega),bH hi,wrap64 (by omega) (by omega)];rfl
 case hf=>
  simp only[kv]
  rw[af (by omega)];rfl
 cases m.all (λx=>(x.length:Int)==128)<;>rfl
theorem GW (m:List Bytes)(h:m.length≤1000000000):qA m=some (dm m):=uf m h
def yH:aQ:=(0,0,0,false)
def yG (m:aQ):Bool:=cx m.1 0 7&&(cx m.2.1 0 1023&&cx m.2.2.1 0 63)
def mD (d p:Int)(m:aQ):Bool:=(m.1==d)&&(m.2.1==p)
def yF (l:List aQ)(i:Nat):Bool:=yG (l.getD i yH)&&(List.range i).all (λj=> !(mD (l.getD i yH).1 (l.getD i yH).2.1 (l.getD j yH)))
def dQ (l:List aQ):Bool:=decide ((l.length:Int)≤96)&&(List.range l.length).all (yF l)
theorem CZ (l:List aQ)(h:l.length≤1000000000):lv l=some (dQ l):=by
 unfold lv dQ;rw[eC (hit:=some false) (fin:=some true) (yF l) l.length (by omega) (λi nx hi=>?hs) (λnx=>?hf)]
 case hs=>
  simp only[iE]
  rw[ai (by omega),bH hi,wrap64 (by omega) (by omega)]
  simp only[ah,ae,ch,ba]
  rw[eC (hit:=some false) (fin:=nx ((i:Int)+1)) (λj=> !(mD l[i].1 l[i].2.1 (l.getD j yH))) i (by omega) (λj nx hj=>?hs2) (λnx=>?hf2)]
  case hs2=>
   have hjl:j<l.length:=by omega
   simp only[gM]
   rw[ai (by omega),bH hjl,wrap64 (by omega) (by omega)]
   simp only[ah,ae,ba,db hjl,mD,cF,de];rfl
  case hf2=>
   simp only[gM]
   rw[af (by omega)];rfl
  simp only[yF,yG,db hi,cT]
  cases cx l[i].1 0 7<;>cases cx l[i].2.1 0 1023<;>cases cx l[i].2.2.1 0 63<;>cases (List.range i).all (λj=> !(mD l[i].1 l[i].2.1 (l.getD j yH)))<;>rfl
 case hf=>
  simp only[iE]
  rw[af (by omega)];rfl
 have e:decide ((l.length:Int)>96)= !decide ((l.length:Int)≤96):=by rw[bE];simp
 rw[e];cases decide ((l.length:Int)≤96)<;>cases (List.range l.length).all (yF l)<;>rfl
def ID (l:List aQ)(d p:Int):Int:=match l.findIdx? (mD d p)with|some i=>(i:Int)|none=> -1
theorem LJ (l:List aQ)(d p:Int)(h:l.length≤1000000000):ko l d p=some (ID l d p):=by
 unfold ko ID;rw[vD (hit:=λi=>some i) (fin:=some (-1)) (mD d p) l (by omega) (λi hi nx=>?hs) (λnx=>?hf)]
 case hs=>
  simp only[gJ]
  rw[ai (by omega),bH hi,wrap64 (by omega) (by omega)]
  simp only[ah,ae,ba,cF,mD];rfl
 case hf=>
  simp only[gJ]
  rw[af (by omega)];rfl
 cases l.findIdx? (mD d p)<;>rfl
theorem Hw (l:List aQ)(i:Nat)(hi:i<l.length):(ID l l[i].1 l[i].2.1==(i:Int))=(List.range i).all (λj=> !(mD l[i].1 l[i].2.1 (l.getD j yH))):=by
 have hself:mD l[i].1 l[i].2.1 l[i]=true:=by simp[mD]
 unfold ID;cases hq:l.findIdx? (mD l[i].1 l[i].2.1)with
 |none=>rw[List.findIdx?_eq_none_iff]at hq;rw[hq l[i] (aY hi)]at hself;cases hself
 |some k=>
  rw[List.findIdx?_eq_some_iff_getElem]at hq;obtain⟨hk,hpk,hlt⟩:=hq;rw[bE,ay];simp only[bw,aM,aA];constructor;intro e j hj;have hjl:j<l.length:=by omega
  rw[db hjl];have:=hlt j (by omega);simpa using this;intro hall;rcases Nat.lt_trichotomy k i with hki|hki|hki;have:=hall k hki;rw[db hk,hpk]at this;cases this;omega;have:=hlt i hki;rw[hself]at this;simp at this
theorem Cw (l:List aQ)(h:l.length≤1000000000):ld l=some (dQ l):=by
 unfold ld dQ;rw[eC (hit:=some false) (fin:=some (decide ((l.length:Int)≤96))) (yF l) l.length (by omega) (λi nx hi=>?hs) (λnx=>?hf)]
 case hs=>
  simp only[iu]
  rw[ai (by omega),bH hi,wrap64 (by omega) (by omega)]
  simp only[ah,ae,cX,ba,LJ _ _ _ h,bne,Hw l i hi,yF,yG,db hi]
  cases cx l[i].1 0 7<;>cases cx l[i].2.1 0 1023<;>cases cx l[i].2.2.1 0 63<;>cases (List.range i).all (λj=> !(mD l[i].1 l[i].2.1 (l.getD j yH)))<;>rfl
 case hf=>
  simp only[iu]
  rw[af (by omega)];rfl
 cases decide ((l.length:Int)≤96)<;>cases (List.range l.length).all (yF l)<;>rfl
def tB (n:Int)(l:List Int)(i:Nat):Bool:=cx (l.getD i 0) 0 (n-1)&& !((l.take i).contains (l.getD i 0))
def dy (p:du):Bool:=cx p.1 0 130944&&(cx p.2.1 1 512&&(cx p.2.2.1 0 16&&(List.range p.2.2.2.length).all (tB p.2.2.1 p.2.2.2)))
def sj (n:Int)(l:List Int):List Bool:=(List.range n.toNat).map λk:Nat=>l.contains (k:Int)
theorem Bm (n:Int)(l:List Int):(sj n l).length=n.toNat:=by simp[sj]
theorem tn (n:Int)(l:List Int)(k:Nat)(h:k<(sj n l).length):(sj n l)[k]=l.contains (k:Int):=by simp[sj]
theorem Kq (n:Int)(l:List Int)(k:Nat)(h:k<n.toNat):(sj n l).set k true=sj n (l++[(k:Int)]):=by
 apply List.ext_getElem;simp[sj];intro j h1 h2;rw[List.getElem_set];split;rename_i e;subst e;rw[tn];simp;rename_i e;rw[tn,tn];simp only[List.contains_append];have:([(k:Int)].contains (j:Int))=false:=by simp;omega
 rw[this];simp
theorem Ft {T:(List Bool×Int→Option Bool)→List Bool×Int→Option Bool}(n:Int)(l:List Int)(hl:l.length≤1000000000)
 (hs:∀i (hi:i<l.length)(s:List Bool) nx,T nx (s,(i:Int))=aa (cond (!(cx l[i] 0 (n-1))) (some true) (aa (idx s l[i]) λx=>some x)) λq=>
  cond q (some false) (aa (idx s l[i]) λ_=>aa (idx s l[i]) λ_=>nx (s.set l[i].toNat true,((i+1:Nat):Int)))) (hf:∀s nx,T nx (s,(l.length:Int))=some true):
 bc T fuel (List.replicate n.toNat false,0)=some ((List.range l.length).all (tB n l)):=by
 have e0:(List.replicate n.toNat false,(0:Int))=(sj n (l.take 0),((0:Nat):Int)):=by congr 1;simp only[sj,List.take_zero,List.contains_nil,List.map_const',List.length_range]
 rw[e0,vx (hit:=some false) (fin:=some true) (λi=>(sj n (l.take i),(i:Int))) (tB n l) l.length (by omega) (λi nx hi hp=>?hs) (λ_ nx=>hf _ nx)]
 case hs=>
  rw[hs i hi]
  unfold tB
  rw[db hi]
  by_cases hin:cx l[i] 0 (n-1)=true
  ·have hb:=hin
   rw[bq]at hb
   obtain⟨k,hk⟩:∃k:Nat,l[i]=(k:Int):=⟨l[i].toNat,by omega⟩
   have hkn:k<(sj n (l.take i)).length:=by rw[Bm];omega
   rw[hin,hk,bH hkn,tn]
   simp only[ax,ak,ae,bn,de,aS]
   rw[Kq _ _ _ (by rw[Bm]at hkn;exact hkn),←hk,←bC hi]
  ·have hin':cx l[i] 0 (n-1)=false:=by simpa using hin
   rw[hin'];rfl
 cases (List.range l.length).all (tB n l)<;>rfl
theorem vd (p:du)(h:p.2.2.2.length≤1000000000):l5 p=some (dy p):=by
 unfold l5 dy;simp only[ch,ae,ba];by_cases hn:cx p.2.2.1 0 16=true
 ·have hb:=hn;rw[bq]at hb;rw[ar (by omega),aW (by omega),Ft p.2.2.1 p.2.2.2 h (λi hi s nx=>?hs) (λs nx=>?hf)]
  case hs=>
   simp only[mN]
   rw[ai (by omega),bH hi,wrap64 (n:=(i:Int)+1) (by omega) (by omega),wrap64 (n:=p.2.2.1-1) (by omega) (by omega)]
   simp only[ah,ae,ch];rfl
  case hf=>
   simp only[mN]
   rw[af (by omega)];rfl
  rw[hn];cases cx p.1 0 130944<;>cases cx p.2.1 1 512<;>rfl
 have hn':cx p.2.2.1 0 16=false:=by simpa using hn
 rw[hn'];cases cx p.1 0 130944<;>cases cx p.2.1 1 512<;>rfl
theorem uJ (p:du)(h:p.2.2.2.length≤1000000000):jM p=some (dy p):=by
 unfold jM dy;simp only[cX,ae,ba];by_cases hn:cx p.2.2.1 0 16=true
 ·have hb:=hn;rw[bq]at hb;rw[ar (by omega),aW (by omega),Ft p.2.2.1 p.2.2.2 h (λi hi s nx=>?hs) (λs nx=>?hf)]
  case hs=>
   simp only[mq]
   rw[ai (by omega),bH hi,wrap64 (n:=(i:Int)+1) (by omega) (by omega),wrap64 (n:=p.2.2.1-1) (by omega) (by omega)]
   simp only[ah,ae,cX];rfl
  case hf=>
   simp only[mq]
   rw[af (by omega)];rfl
  rw[hn];cases cx p.1 0 130944<;>cases cx p.2.1 1 512<;>rfl
 have hn':cx p.2.2.1 0 16=false:=by simpa using hn
 rw[hn'];cases cx p.1 0 130944<;>cases cx p.2.1 1 512<;>rfl
def eE (n:Int):Bool:=(n==2)||((n==4)||((n==8)||(n==16)))
theorem tY (n:Int):mQ n=some (eE n):=by simp only[mQ,ba,ae,eE,cT]
theorem sR (n:Int):kR n=some (eE n):=tY n
theorem eN {n:Int}:eE n=true↔n=2∨n=4∨n=8∨n=16:=by simp[eE]
theorem tu (x:Int)(k:Nat)(hk:k≤64):aw x%(2^k:Int)=x%(2^k:Int):=by
 obtain⟨c,hc⟩:∃c:Int,(18446744073709551616:Int)=2^k*c:=⟨2^(64-k),by rw[←Int.pow_add,show k+(64-k)=64 by omega];rfl⟩
 have:aw x=x∨∃q:Int,aw x=x+18446744073709551616*q:=by
  right;simp only[aw,gA,IntKind.wrap,IntKind.bits,IntKind.signed];simp;have h1:x=x%18446744073709551616+18446744073709551616*(x/18446744073709551616):=by omega
  split;exact⟨-(x/18446744073709551616)-1,by omega⟩;exact⟨-(x/18446744073709551616),by omega⟩
 rcases this with h|⟨q,h⟩;rw[h];rw[h,hc,Int.mul_assoc,Int.add_mul_emod_self_left]
theorem uq (x:Int)(k:Nat)(hk:k<63):((BitVec.ofInt (IntKind.bits .i64) x&&&BitVec.ofInt (IntKind.bits .i64) (2^k-1)).toNat:Int)=x%2^k:=by
 have h2:(2:Int)^k≤2^62:=by have:(2:Nat)^k≤2^62:=Nat.pow_le_pow_right (by omega) (by omega);exact_mod_cast this
 have h0:(1:Int)≤2^k:=by have:1≤(2:Nat)^k:=Nat.one_le_two_pow;exact_mod_cast this
 have hm:(BitVec.ofInt (IntKind.bits .i64) (2^k-1)).toNat=2^k-1:=by
  show(BitVec.ofInt 64 (2^k-1)).toNat=2^k-1;rw[BitVec.toNat_ofInt,Int.emod_eq_of_lt (by omega) (by omega)];have:((2:Int)^k-1)=((2^k-1:Nat):Int):=by have:1≤(2:Nat)^k:=Nat.one_le_two_pow;push_cast [this];rfl
  rw[this];rfl
 rw[BitVec.toNat_and,hm,Nat.and_two_pow_sub_one_eq_mod];show(((BitVec.ofInt 64 x).toNat%2^k:Nat):Int)=x%2^k;rw[BitVec.toNat_ofInt];have hx:0≤x%18446744073709551616:=by omega
 have e:(((x%18446744073709551616).toNat%2^k:Nat):Int)=(x%18446744073709551616)%2^k:=by push_cast;rw[Int.toNat_of_nonneg hx]
 refine e.trans ?_;exact Int.emod_emod_of_dvd x ⟨2^(64-k),by rw[←Int.pow_add,show k+(64-k)=64 by omega];rfl⟩
theorem JN (x n:Int)(h0:0<n)(h1:n≤4611686018427387904):gj x n=some (x%n):=by
 unfold gj;have:=dX x (show n≠0 by omega);have:=ez x h0;have hn:(n.natAbs:Int)=n:=by omega
 rw[aq (by omega),Int.tmod_eq_emod];split;rw[af (by omega)];simp;rw[ai (by omega),wrap64 (by omega) (by omega)];simp only[ah,hn];congr 1;omega
def ed (r:(Int×Int×Int×Int)):Int:=if eE r.2.1 then(r.2.2.2-r.2.2.1)%(2*r.2.1) else 0
theorem FY (r:(Int×Int×Int×Int)):k7 r=some (ed r):=by
 unfold k7 ed;rw[tY,ae];cases hs:eE r.2.1 with
 |false=>rfl
 |true=>
  simp only[ax,ak,aX];congr 1;rcases eN.1 hs with h|h|h|h<;>rw[h];have e:aw (aw (2*2)-1)=2^2-1:=by decide
  rw[e,uq _ 2 (by omega),tu _ 2 (by omega),wrap64 (by omega) (by omega)];rfl;have e:aw (aw (2*4)-1)=2^3-1:=by decide
  rw[e,uq _ 3 (by omega),tu _ 3 (by omega),wrap64 (by omega) (by omega)];rfl;have e:aw (aw (2*8)-1)=2^4-1:=by decide
  rw[e,uq _ 4 (by omega),tu _ 4 (by omega),wrap64 (by omega) (by omega)];rfl;have e:aw (aw (2*16)-1)=2^5-1:=by decide
  rw[e,uq _ 5 (by omega),tu _ 5 (by omega),wrap64 (by omega) (by omega)];rfl
theorem LM (r:(Int×Int×Int×Int)):nD r=some (ed r):=by unfold nD ed;rw[sR,ae];cases hs:eE r.2.1 with|false=>rfl|true=>simp only[ax,ak,aX];have hb:=eN.1 hs;rw[wrap64 (n:=2*r.2.1) (by omega) (by omega)];have a1:=dX r.2.2.2 (show 2*r.2.1≠0 by omega);have a2:=ez r.2.2.2 (show 0<2*r.2.1 by omega);have a3:=dX r.2.2.1 (show 2*r.2.1≠0 by omega);have a4:=ez r.2.2.1 (show 0<2*r.2.1 by omega);simp only[JN _ (2*r.2.1) (show 0<2*r.2.1 by omega) (by omega),ae];rw[wrap64 (by omega) (by omega),←Int.sub_emod]
def ef (r:(Int×Int×Int×Int)):Bool:=cx r.1 0 130944&&(eE r.2.1&&(cx r.2.2.1 0 (2*r.2.1-1)&&(cx r.2.2.2 0 (2*r.2.1-1)&&decide (ed r≤r.2.1))))
theorem wa {n:Int}(h:eE n=true):aw (aw (2*n)-1)=2*n-1:=by have:=eN.1 h;rw[wrap64 (n:=2*n) (by omega) (by omega),wrap64 (by omega) (by omega)]
theorem zt (r:(Int×Int×Int×Int)):l6 r=some (ef r):=by unfold l6 ef;simp only[ch,tY,FY,ae,ba,cF];cases hs:eE r.2.1 with|false=>rfl|true=>rw[wa hs]
theorem Ek (r:(Int×Int×Int×Int)):n9 r=some (ef r):=by unfold n9 ef;simp only[cX,sR,LM,ae,ba,cF];cases hs:eE r.2.1 with|false=>rfl|true=>rw[wa hs]
theorem G9 (p:du)(h:p.2.2.2.length≤1000000000):oY p=some p:=by unfold oY;rw[aW (by simp;omega)];rfl
theorem jG (l:List Int)(h:l.length≤1000000000):ei l=some l:=by unfold ei;rw[aW (by simp;omega)];rfl
theorem su (p:du)(h:p.2.2.2.length≤1000000000):gv p=some p:=by unfold gv;rw[jG _ h];rfl
def rC (p:du)(l:List Int):du:=(p.1,p.2.1,p.2.2.1,p.2.2.2++l)
def uF (p:du)(l:List Int):Bool:=dy p&&dy (rC p l)
def Jo (p:du)(l:List Int):du×Bool:=bif uF p l then(rC p l,true) else(p,false)
theorem LD (p:du)(l:List Int)(h:p.2.2.2.length+l.length≤1000000000):fB p l=some (Jo p l):=by unfold fB;rw[su p (by omega),ae,aW (by omega),uJ p (by omega)];rw[uJ (p.1,p.2.1,p.2.2.1,p.2.2.2++l) (by simp;omega)];simp only[ae,ba,Jo,uF];show _=some (bif dy p&&dy (p.1,p.2.1,p.2.2.1,p.2.2.2++l) then _ else _);cases dy p<;>cases dy (p.1,p.2.1,p.2.2.1,p.2.2.2++l)<;>rfl
theorem Qr (p:du)(l:List Int):(Jo p l).2=uF p l:=by unfold Jo;cases uF p l<;>rfl
def mI (n:Int)(s:mZ):Bool:=cx s.2.1 1 n&&cx s.1 0 65535
def eD (l:List mZ):List Int:=l.flatMap (·.2.2)
def ka (l:List mZ):Int:=(l.map (·.2.1)).sum
def SC (t:jq):Bool:=ef t.1&&(dy t.2.1&&(cx t.2.2.2 0 65535&&(t.2.2.1.all (mI t.1.2.1)&&(uF t.2.1 (eD t.2.2.1)&&decide (ka t.2.2.1≤t.1.2.1)))))
theorem uy (n:Int):∀l:List mZ,l.all (mI n)=true→0≤ka l
 |[],_=>by simp[ka]
 |x::l,h=>by simp only[a6,ab]at h;have:=uy n l h.2;have hx:=h.1;unfold mI at hx;simp only[ab,bq]at hx;simp only[ka,cn,List.sum_cons]at this⊢;omega
theorem AQ (p:du)(n:Int)(hn:n≤16)(fin:Int×List Int→Option Bool)(hfin:∀s:Int×List Int,p.2.2.2.length+s.2.length≤1000000000→fin s=some (uF p s.2)):
 ∀(l:List mZ)(left:Int)(acc:List Int),0≤left→left≤n→p.2.2.2.length+(acc.length+(eD l).length)≤1000000000→
 po (λx (s:Int×List Int) k=>cond (decide (x.2.1<1)||(decide (x.2.1>s.1)|| !(cx x.1 0 65535))) (some false) (room (s.2.length+x.2.2.length) (k (aw (s.1-x.2.1),s.2++x.2.2)))) fin l (left,acc)
  =some (l.all (mI n)&&(uF p (acc++eD l)&&decide (ka l≤left)))
 |[],left,acc,h0,h1,h2=>by rw[po,hfin _ (by simp[eD]at h2;exact h2)];simp[eD,ka,h0]
 |x::l,left,acc,h0,h1,h2=>by
  have hb:eD (x::l)=x.2.2++eD l:=by simp[eD]
  have hc:ka (x::l)=x.2.1+ka l:=by simp only[ka,cn,List.sum_cons]
  rw[hb,aj]at h2;rw[po,a6,hb,hc];by_cases c1:x.2.1<1;have e:mI n x=false:=by unfold mI cx;rw[af (show¬1≤x.2.1 by omega)];rfl
  rw[e,ai c1];rfl;rw[af c1];by_cases c2:x.2.1>left;rw[ai c2];simp only[Bool.or_true,cH,eY,ah];cases ha:l.all (mI n)with|false=>simp|true=>have:=uy n l ha;rw[af (show¬x.2.1+ka l≤left by omega)];simp
  rw[af c2];have e:mI n x=cx x.1 0 65535:=by have:cx x.2.1 1 n=true:=bq.2 ⟨by omega,by omega⟩;unfold mI;rw[this];rfl
  rw[e];cases cx x.1 0 65535 with
  |false=>rfl
  |true=>
   simp only[cH,ax,ak,bn];rw[aW (by omega),wrap64 (by omega) (by omega),AQ p n hn fin hfin l _ _ (by omega) (by omega) (by rw[aj];omega),aE];have e:decide (ka l≤left-x.2.1)=decide (x.2.1+ka l≤left):=by rw[bE];simp;omega
   rw[e]
theorem Qu (t:jq)(h1:t.2.2.1.length≤1000000000)(h2:t.2.1.2.2.2.length+(eD t.2.2.1).length≤1000000000):ti t=some (SC t):=by
 unfold ti SC;simp only[Ek,uJ _ (show t.2.1.2.2.2.length≤1000000000 by omega),cX,ae,ba];cases hr:ef t.1 with
 |false=>rfl
 |true=>
  have hn:0≤t.1.2.1∧t.1.2.1≤16:=by unfold ef at hr;simp only[ab]at hr;have:=eN.1 hr.2.1;omega
  have hfu:=ee;have key:=qR (R:=Bool) (T:=mx (λ(_:Int) (y9:List Int) (_:Int)=>aa (fB t.2.1 y9) λr11=>some r11.2) (λ(y12:Bool) (_:Int) (_:List Int) (_:Int)=>some y12) false t.2.2.1 ((List.length t.2.2.1:Int)) t) t.2.2.1 (λ(s:Int×List Int) i=>(s.1,s.2,(i:Int))) (λx (s:Int×List Int) k=>cond (decide (x.2.1<1)||(decide (x.2.1>s.1)|| !(cx x.1 0 65535))) (some false) (room (s.2.length+x.2.2.length) (k (aw (s.1-x.2.1),s.2++x.2.2)))) (λs=>aa (fB t.2.1 s.2) λr12=>some r12.2) (λi hi s nx=>by simp only[mx];rw[ai (by omega),bH hi,wrap64 (n:=(i:Int)+1) (by omega) (by omega)];simp only[ah,ae,cX,ba,cT];rfl) (λs nx=>by simp only[mx];rw[af (by omega)];rfl) fuel 0 (t.1.2.1,([]:List Int)) (by omega) (by omega);rw[cI,AQ t.2.1 t.1.2.1 (by omega) _ (λs hs=>by rw[LD _ _ hs,ae,Qr]) _ _ _ (by omega) (by omega) (by simpa using h2)]at key;cases dy t.2.1 with|false=>rfl|true=>cases cx t.2.2.2 0 65535 with|false=>rfl|true=>refine key.trans ?_;simp
def lN (s:dB):Bool:=cx s.2.1 0 65535&&(cx s.2.2.1 0 65535&&(!decide ((List.length s.2.2.2.2.2.2.2:Int)>320)&&
 (bif s.1==17 then(s.2.2.2.1==0)&&((s.2.2.2.2.1==0)&&((s.2.2.2.2.2.1==0)&&(s.2.2.2.2.2.2.1==0)))
  else(s.1==6)&&(cx s.2.2.2.1 0 4294967295&&(cx s.2.2.2.2.1 0 4294967295&&(cx s.2.2.2.2.2.1 0 31&&cx s.2.2.2.2.2.2.1 0 65535))))))
theorem IP (s:dB):jS s=some (lN s):=by simp only[jS,ch,ae,ba,cF,cT,cN,Bool.not_or,de,Bool.and_assoc,lN]
theorem Of (s:dB):mu s=some (lN s):=by simp only[mu,cX,ae,ba,cF,cT,cN,Bool.not_or,de,Bool.and_assoc,lN];by_cases h:s.1=17;rw[h];rfl;rw[show(s.1==17)=false from by simpa using h];cases s.1==6<;>rfl
def vG (f:Int):Bool:=(f==16)||(f==17)||(f==24)||(f==25)
theorem yn (f:Int)(h:cx f 0 31=true):(aw (BitVec.toNat (BitVec.ofInt (IntKind.bits .i64) f&&&~~~ BitVec.ofInt (IntKind.bits .i64) 9))==16)=vG f:=by
 have key:∀k:Fin 32,(aw (BitVec.toNat (BitVec.ofInt (IntKind.bits .i64) (k.val:Int)&&&~~~ BitVec.ofInt (IntKind.bits .i64) 9))==16)=vG (k.val:Int):=by decide
 rw[bq]at h;have:=key ⟨f.toNat,by omega⟩;rwa[show((f.toNat:Nat):Int)=f by omega]at this
theorem GM (f:Int)(h:cx f 0 31=true):mC f=some (vG f):=by
 have key:∀k:Fin 32,((aw (BitVec.toNat (BitVec.ofInt (IntKind.bits .i64) (k.val:Int)&&&BitVec.ofInt (IntKind.bits .i64) 16)) !=0)&&(aw (BitVec.toNat (BitVec.ofInt (IntKind.bits .i64) (k.val:Int)&&&~~~ BitVec.ofInt (IntKind.bits .i64) 25))==0))=vG (k.val:Int):=by decide
 rw[bq]at h;have:=key ⟨f.toNat,by omega⟩;rw[show((f.toNat:Nat):Int)=f by omega]at this;simp only[mC,ba,ae,cF];rw[this]
theorem vZ {s:dB}(h:lN s=true)(h6:(s.1==6)=true):cx s.2.2.2.2.2.1 0 31=true:=by
 have:s.1=6:=by simpa using h6
 unfold lN at h;rw[this]at h;simp only[ab]at h;have h:=h.2.2.2;simp at h;exact h.2.2.1
def mY (p:bf):Bool:=cx p.1 0 281474976710655&&(cx p.2.1 0 281474976710655&&(cx p.2.2.1 (-1) 4095&&(cx p.2.2.2.1 0 255&&(cx p.2.2.2.2.2.1 0 255&&(cx p.2.2.2.2.1 0 65535&&(cx p.2.2.2.2.2.2.1 0 4294967295&&(cx p.2.2.2.2.2.2.2.1 0 4294967295&&lN p.2.2.2.2.2.2.2.2)))))))
def jk (p:bf):Bool:=mY p&&(decide ((List.length p.2.2.2.2.2.2.2.2.2.2.2.2.2.2.2:Int)≤128)||(p.2.2.2.2.2.2.2.2.1==6)&&vG p.2.2.2.2.2.2.2.2.2.2.2.2.2.1)
theorem uG {p:bf}(h:mY p=true):lN p.2.2.2.2.2.2.2.2=true:=by unfold mY at h;simp only[ab]at h;exact h.2.2.2.2.2.2.2.2
theorem Bs (p:bf):mP p=some (jk p):=by unfold mP jk;simp only[ch,IP,ae,ba,cF,cT,cN,Bool.not_or,de];rw[show(cx p.1 0 281474976710655&&(cx p.2.1 0 281474976710655&&(cx p.2.2.1 (-1) 4095&&(cx p.2.2.2.1 0 255&&(cx p.2.2.2.2.2.1 0 255&&(cx p.2.2.2.2.1 0 65535&&(cx p.2.2.2.2.2.2.1 0 4294967295&&(cx p.2.2.2.2.2.2.2.1 0 4294967295&&lN p.2.2.2.2.2.2.2.2))))))))=mY p from rfl];cases hh:mY p with|false=>rfl|true=>cases h6:p.2.2.2.2.2.2.2.2.1==6 with|false=>simp|true=>rw[yn _ (vZ (uG hh) h6)];simp[Bool.or_comm]
theorem Jy (p:bf):oE p=some (jk p):=by
 unfold oE jk;simp only[cX,Of,ae];have e:∀X:Option Bool,(cond (cx p.1 0 281474976710655) (cond (cx p.2.1 0 281474976710655) (cond (cx p.2.2.1 (-1) 4095) (cond (cx p.2.2.2.1 0 255) (cond (cx p.2.2.2.2.2.1 0 255) (cond (cx p.2.2.2.2.1 0 65535) (cond (cx p.2.2.2.2.2.2.1 0 4294967295) (cond (cx p.2.2.2.2.2.2.2.1 0 4294967295) (cond (lN p.2.2.2.2.2.2.2.2) X (some false)) (some false)) (some false)) (some false)) (some false)) (some false)) (some false)) (some false)) (some false))=cond (mY p) X (some false):=by
  intro X;unfold mY;cases cx p.1 0 281474976710655 with|false=>rfl|true=>?_
  cases cx p.2.1 0 281474976710655 with|false=>rfl|true=>?_
  cases cx p.2.2.1 (-1) 4095 with|false=>rfl|true=>?_
  cases cx p.2.2.2.1 0 255 with|false=>rfl|true=>?_
  cases cx p.2.2.2.2.2.1 0 255 with|false=>rfl|true=>?_
  cases cx p.2.2.2.2.1 0 65535 with|false=>rfl|true=>?_
  cases cx p.2.2.2.2.2.2.1 0 4294967295 with|false=>rfl|true=>?_
  cases cx p.2.2.2.2.2.2.2.1 0 4294967295<;>rfl
 rw[e];cases hh:mY p with|false=>rfl|true=>cases h6:p.2.2.2.2.2.2.2.2.1==6 with|false=>simp[ba]|true=>rw[GM _ (vZ (uG hh) h6)];simp only[ah,ae,ba,cT,bn]
def rE (q:(Int×Int×Int)):Bool:=cx q.1 0 130944&&(eE q.2.1&&cx q.2.2 0 (aw ((aw (2*q.2.1))-1)))
theorem Jw (q:(Int×Int×Int)):mr q=some (rE q):=by simp only[mr,cX,sR,ae,ba,cF,rE]
def Sz:HX:=((0,0,0,0,0,0,0,0,0,0,0,0,0,0,0,([]:Bytes)),0,0)
def IV (p:HX):Bool:=(p.1.1==0)&&((p.1.2.1==0)&&((p.1.2.2.1==0)&&((p.1.2.2.2.1==0)&&((p.1.2.2.2.2.1==0)&&((p.1.2.2.2.2.2.1==0)&&((p.1.2.2.2.2.2.2.1==0)&&((p.1.2.2.2.2.2.2.2.1==0)&&((p.1.2.2.2.2.2.2.2.2.1==0)&&((p.1.2.2.2.2.2.2.2.2.2.1==0)&&((p.1.2.2.2.2.2.2.2.2.2.2.1==0)&&((p.1.2.2.2.2.2.2.2.2.2.2.2.1==0)&&((p.1.2.2.2.2.2.2.2.2.2.2.2.2.1==0)&&((p.1.2.2.2.2.2.2.2.2.2.2.2.2.2.1==0)&&((p.1.2.2.2.2.2.2.2.2.2.2.2.2.2.2.1==0)&&((p.1.2.2.2.2.2.2.2.2.2.2.2.2.2.2.2==([]:Bytes))&&((p.2.1==0)&&((p.2.2==0)&&true)))))))))))))))))
def NP (r:dG):Bool:=(ef r.1&&(rE r.2.1&&(rE r.2.2.1&&((r.2.1.1==r.2.2.1.1)&&((r.2.1.2.1==r.2.2.1.2.1)&&cx r.2.2.2.2.2 0 1000000000000)))))&&
 (bif r.2.2.2.2.1 then jk r.2.2.2.1.1&&(cx r.2.2.2.1.2.1 0 320&&cx r.2.2.2.1.2.2 1 320) else IV r.2.2.2.1)
theorem MR (p:HX):IV p=true↔p=Sz:=by obtain⟨⟨a,b,c,d,e,f,g,h,i,j,k,l,m,n,o,q⟩,r,s⟩:=p;simp only[IV,Sz,eB,ab,aM,Prod.mk.injEq,and_assoc]
theorem Qt (r:dG):th r=some (NP r):=by unfold th NP IV;simp only[Ek,Jw,cX,Jy,ae,ba,cF,cT,cN,Bool.not_or,de,bne];cases r.2.2.2.2.1<;>rfl
def jz (v:Vector):Bool:=(jf v).getD false
theorem zv (v:Vector):jf v=some (jz v):=by
 have:∃b,jf v=some b:=by simp only[jf,qt,ch,ae,ba];exact⟨_,rfl⟩
 obtain⟨b,hb⟩:=this;rw[jz,hb];rfl
theorem G0 (v:Vector):qC v=some (jz v):=zv v
theorem vV {α:Type}(l:List α)(p:α→Bool):(List.range l.length).all (λi=>l[i]?.all p)=l.all p:=by rw[bE,ay,ay];constructor;intro h x hx;obtain⟨i,hi,rfl⟩:=List.getElem_of_mem hx;have:=h i (bw.2 hi);rwa[List.getElem?_eq_getElem hi]at this;intro h i hi;rw[List.getElem?_eq_getElem (bw.1 hi)];exact h _ (aY _)
theorem HZ {α:Type}(l:List α)(p q:α→Bool):l.all (λx=>p x&&q x)=(l.all p&&l.all q):=by induction l with|nil=>rfl|cons x l ih=>simp only[a6,ih];cases p x<;>cases q x<;>cases l.all p<;>rfl
def fZ (h:Host):List Int:=[h.2.2.2.2.2.2.2.2.2.2.2.2.2.2.1,h.2.2.2.2.2.2.2.2.2.2.2.2.2.2.2.1,h.2.2.2.2.2.2.2.2.2.2.2.2.2.2.2.2.1,h.2.2.2.2.2.2.2.2.2.2.2.2.2.2.2.2.2.1,h.2.2.2.2.2.2.2.2.2.2.2.2.2.2.2.2.2.2]
def uR (h:Host):Bool:=cx (h.2.2.2.1.length:Int) 1 2&&(((h.2.2.2.2.1.length:Int)==(h.2.2.2.1.length:Int))&&(((h.2.2.2.2.2.1.length:Int)==(h.2.2.2.1.length:Int))&&((h.2.2.2.2.2.2.1.length:Int)==(h.2.2.2.1.length:Int))))
def II (h:Host):Bool:=h.2.2.2.1.all NP&&(h.2.2.2.2.1.all dy&&h.2.2.2.2.2.1.all jz)
def wz (h:Host):Bool:=dm h.1&&(dQ h.2.1&&(SC h.2.2.1&&(cQ h.2.2.2.2.2.2.2.1&&(uR h&&(dK h.2.2.2.2.2.2.2.2.1 (h.2.2.2.1.length:Int)&&(II h&&(fZ h).all (λx=>cx x 0 1000000000000)))))))
structure Ga (h:Host):Prop where
 a1:h.1.length≤1000000000
 a2:h.2.1.length≤1000000000
 t1:h.2.2.1.2.2.1.length≤1000000000
 t2:h.2.2.1.2.1.2.2.2.length+(eD h.2.2.1.2.2.1).length≤1000000000
 f1:h.2.2.2.2.2.2.2.1.2.2.length≤1000000000
 s1:h.2.2.2.2.2.2.2.2.1.1.length≤1000000000
 s2:h.2.2.2.2.2.2.2.2.1.2.1.length≤1000000000
 s3:h.2.2.2.2.2.2.2.2.1.2.2.2.length≤1000000000
 p1:∀p∈h.2.2.2.2.1,p.2.2.2.length≤1000000000
theorem xp {h:Host}(l:uR h=true):h.2.2.2.1.length≤2∧h.2.2.2.2.1.length=h.2.2.2.1.length∧h.2.2.2.2.2.1.length=h.2.2.2.1.length∧h.2.2.2.2.2.2.1.length=h.2.2.2.1.length:=by unfold uR at l;simp only[ab,bq,aM]at l;omega
theorem Kn {R:Type}{T:(Int→Option R)→Int→Option R}{fin hit:Option R}{h:Host}(l:uR h=true)(hs:∀i (hi:i<h.2.2.2.1.length) nx,T nx (i:Int)=cond (!(NP h.2.2.2.1[i]&&(dy (h.2.2.2.2.1[i]'((xp l).2.1▸hi))&&jz (h.2.2.2.2.2.1[i]'((xp l).2.2.1▸hi))))) hit (nx ((i+1:Nat):Int)))(hf:∀nx,T nx (h.2.2.2.1.length:Int)=fin):bc T fuel 0=cond (II h) fin hit:=by
 have hl:=xp l;rw[eC (fin:=fin) (hit:=hit) (λi=>h.2.2.2.1[i]?.all NP&&(h.2.2.2.2.1[i]?.all dy&&h.2.2.2.2.2.1[i]?.all jz)) h.2.2.2.1.length (by omega) ?hs hf]
 case hs=>
  intro i nx hi
  rw[hs i hi,List.getElem?_eq_getElem hi,List.getElem?_eq_getElem (hl.2.1▸hi),List.getElem?_eq_getElem (hl.2.2.1▸hi)]
  rfl
 rw[HZ,HZ,vV];have e1:=vV h.2.2.2.2.1 dy;have e2:=vV h.2.2.2.2.2.1 jz;rw[hl.2.1]at e1;rw[hl.2.2.1]at e2;rw[e1,e2];rfl
theorem Ds {R:Type}{T:(Int→Option R)→Int→Option R}{fin hit:Option R}(h:Host)(hs:∀i (hi:i<(fZ h).length) nx,T nx (i:Int)=cond (!(cx (fZ h)[i] 0 1000000000000)) hit (nx ((i+1:Nat):Int)))(hf:∀nx,T nx ((fZ h).length:Int)=fin):bc T fuel 0=cond ((fZ h).all (λx=>cx x 0 1000000000000)) fin hit:=lU (λx=>cx x 0 1000000000000) (fZ h) (by simp[fZ]) hs hf
theorem LG (h:Host)(z:Ga h):qg h=some (wz h):=by
 unfold qg wz;simp only[GW _ z.a1,Cw _ z.a2,Qu _ z.t1 z.t2,lL _ z.f1,Cx _ _ z.s1 z.s2 z.s3,cX,ae,ba];cases dm h.1 with|false=>rfl|true=>?_
 cases dQ h.2.1 with|false=>rfl|true=>?_
 cases SC h.2.2.1 with|false=>rfl|true=>?_
 cases cQ h.2.2.2.2.2.2.2.1 with|false=>rfl|true=>?_
 simp only[ax,ak,cT,bne];rw[show(!cx (h.2.2.2.1.length:Int) 1 2||(!((h.2.2.2.2.1.length:Int)==(h.2.2.2.1.length:Int))||(!((h.2.2.2.2.2.1.length:Int)==(h.2.2.2.1.length:Int))|| !((h.2.2.2.2.2.2.1.length:Int)==(h.2.2.2.1.length:Int)))))= !(uR h) by unfold uR;simp only[Bool.not_and]];cases hl:uR h with|false=>rfl|true=>?_
 have hL:=xp hl;simp only[ax,ak,bn];rw[Kn (h:=h) (hit:=some false) (fin:=some ((fZ h).all (λx=>cx x 0 1000000000000)&&dK h.2.2.2.2.2.2.2.2.1 (h.2.2.2.1.length:Int))) hl ?hs ?hf]
 case hs=>
  intro i hi nx
  simp only[mm]
  rw[ai (by omega),bH hi,bH (hL.2.1▸hi),bH (hL.2.2.1▸hi),wrap64 (n:=(i:Int)+1) (by omega) (by omega)]
  simp only[ah,ae,Qt,G0,uJ _ (z.p1 _ (aY _)),ba,cT,Bool.not_and]
  rfl
 case hf=>
  intro nx
  simp only[mm]
  rw[af (by omega)]
  simp only[ak]
  refine(Ds (fin:=some (dK h.2.2.2.2.2.2.2.2.1 (h.2.2.2.1.length:Int))) (hit:=some false) h ?_ ?_).trans ?_
  ·intro i hi nx
   simp only[lb]
   have hi':i<5:=hi
   change (bif decide ((i:Int)<5) then aa (idx (fZ h) (i:Int)) _ else _)=_
   rw[ai (by omega),bH hi,wrap64 (n:=(i:Int)+1) (by omega) (by omega),ae,cX]
   rfl
  ·intro nx
   simp only[lb]
   rw[af (by simp[fZ])];rfl
  ·cases (fZ h).all (λx=>cx x 0 1000000000000)<;>rfl
 cases II h<;>cases dK h.2.2.2.2.2.2.2.2.1 (h.2.2.2.1.length:Int)<;>cases (fZ h).all (λx=>cx x 0 1000000000000)<;>rfl
def hasB (l:List Int)(v:Int):Bool:=l.any (·==v)
theorem Ec {l:List Int}{v:Int}:hasB l v=true↔v∈l:=by simp only[hasB,List.any_eq_true,aM];constructor;rintro⟨x,hx,rfl⟩;exact hx;intro h;exact⟨v,h,rfl⟩
theorem CY (l:List Int)(v:Int)(h:l.length≤1000000000):oh l v=some (hasB l v):=by
 unfold oh hasB;rw[Dg (hit:=some true) (fin:=some false) (λx:Int=>x==v) l (by omega) (λi hi nx=>?hs) (λnx=>?hf)]
 case hs=>
  simp only[mT]
  rw[ai (by omega),bH hi,wrap64 (by omega) (by omega)];rfl
 case hf=>
  simp only[mT]
  rw[af (by omega)];rfl
 cases l.any (λx=>x==v)<;>rfl
theorem uI (l:List Int)(v:Int)(h:l.length≤1000000000):ig l v=some (hasB l v):=CY l v h
def ins (v:Int):List Int→List Int
 |[]=>[v]
 |x::l=>bif decide (v<x) then v::x::l else x::ins v l
theorem Cy (v:Int):∀l,(ins v l).length=l.length+1
 |[]=>rfl
 |x::l=>by rw[ins];cases decide (v<x)with|true=>rfl|false=>simp only[ak,bO,Cy v l]
theorem Iw (v x:Int):∀l,x∈ins v l↔x=v∨x∈l
 |[]=>by simp[ins]
 |y::l=>by rw[ins];cases decide (v<y)with|true=>simp|false=>simp only[ak,bg,Iw v x l];constructor<;>(rintro(h|h|h)<;>simp[h])
theorem LO (v:Int):∀l:List Int,v∉l→l.take (l.findIdx (λx=> !decide (x<v)))++[v]++l.drop (l.findIdx (λx=> !decide (x<v)))=ins v l
 |[],_=>rfl
 |x::l,h=>by rw[ins,List.findIdx_cons];have hx:v≠x:=λe=>h (by simp[e]);have hl:v∉l:=λe=>h (by simp[e]);by_cases c:x<v;rw[ai c,af (show¬v<x by omega)];have:=LO v l hl;simpa using this;rw[af c,ai (show v<x by omega)];rfl
def na (l:List Int)(v:Int):List Int:=bif hasB l v then l else ins v l
theorem uo (l:List Int)(v:Int):(na l v).length≤l.length+1:=by unfold na;cases hasB l v with|true=>simp|false=>simp only[ak,Cy];omega
theorem L3 {l:List Int}{v x:Int}(h:x∈l):x∈na l v:=by unfold na;cases hasB l v with|true=>exact h|false=>exact(Iw v x l).2 (.inr h)
theorem I6 {l:List Int}{v:Int}(h:v∈l):na l v=l:=by unfold na;rw[Ec.2 h];rfl
theorem ra:∀(vs l:List Int),(vs.foldl na l).length≤l.length+vs.length
 |[],l=>by simp
 |v::vs,l=>by have:=ra vs (na l v);have:=uo l v;simp only[cm,bO];omega
theorem vO:∀(vs:List Int){l:List Int}{x:Int},x∈l→x∈vs.foldl na l
 |[],_,_,h=>h
 |v::vs,l,x,h=>vO vs (l:=na l v) (L3 h)
theorem Ls {α R:Type}(p:α→Bool)(k:Int→Option R)(l:List α):(match l.findIdx? p with|some i=>k (i:Int)|none=>k (l.length:Int))=k (l.findIdx p:Int):=by cases h:l.findIdx? p with|none=>rw[List.findIdx?_eq_none_iff_findIdx_eq]at h;rw[h]|some i=>rw[List.findIdx?_eq_some_iff_findIdx_eq]at h;rw[h.2]
theorem F3 {α:Type}(l:List α)(j:Nat)(h:j≤l.length):sub l 0 (j:Int)=some (l.take j):=by unfold sub;rw[ar (by omega)];simp
theorem MO {α:Type}(l:List α)(j:Nat)(h:j≤l.length):sub l (j:Int) (l.length:Int)=some (l.drop j):=by unfold sub;rw[ar (by omega)];simp
theorem Bu (a vs:List Int)(h:a.length+vs.length≤1000000000):k9 a vs=some (vs.foldl na a):=by
 unfold k9;rw[aW (by simp only[List.length_nil];omega)];rw[bm];have:=og (T:=ic (λ(y10:List Int) (_:Int)=>some y10) vs) vs (λ(s:List Int) i=>(s,(i:Int))) (λi s=>s.length≤a.length+i) (λv s=> .ok (na s v)) (λs=>some s) (by omega) (λi hi s nx hI=>?hs) (λi hi s s' hI hg=>?hn) (λs nx hI=>?hf) a (by simp)
 case hs=>
  simp only[ic]
  rw[ai (by omega),bH hi,wrap64 (n:=(i:Int)+1) (by omega) (by omega)]
  simp only[ah,ae,CY s vs[i] (by omega)]
  unfold na
  cases hh:hasB s vs[i]with
  |true=>rfl
  |false=>
   have hm:vs[i]∉s:=λe=>by rw[Ec.2 e]at hh;cases hh
   simp only[ak]
   rw[vD (hit:=λy6=>aa (sub s 0 y6) λx7=>room (List.length ([]:List Int)+List.length x7) (room (List.length (([]:List Int)++x7)+List.length ([vs[i]])) (aa (sub s y6 (s.length:Int)) λx9=>room (List.length ((([]:List Int)++x7)++([vs[i]]))+List.length x9) (nx (((([]:List Int)++x7)++([vs[i]]))++x9,(i:Int)+1)))))
    (fin:=aa (sub s 0 (s.length:Int)) λx7=>room (List.length ([]:List Int)+List.length x7) (room (List.length (([]:List Int)++x7)+List.length ([vs[i]])) (aa (sub s (s.length:Int) (s.length:Int)) λx9=>room (List.length ((([]:List Int)++x7)++([vs[i]]))+List.length x9) (nx (((([]:List Int)++x7)++([vs[i]]))++x9,(i:Int)+1)))))
    (λx=> !decide (x<vs[i])) s (by omega) (λj hj nx'=>?hs2) (λnx'=>?hf2)]
   case hs2=>
    simp only[kE]
    rw[ai (by omega),bH hj,bH hi,wrap64 (n:=(j:Int)+1) (by omega) (by omega)]
    simp only[ah,ae]
    cases decide (s[j]<vs[i])<;>rfl
   case hf2=>
    simp only[kE]
    rw[af (by omega)];rfl
   refine Eq.trans (Ls (λx=> !decide (x<vs[i])) (λy6=>aa (sub s 0 y6) λx7=>room (List.length ([]:List Int)+List.length x7) (room (List.length (([]:List Int)++x7)+List.length ([vs[i]])) (aa (sub s y6 (s.length:Int)) λx9=>room (List.length ((([]:List Int)++x7)++([vs[i]]))+List.length x9) (nx (((([]:List Int)++x7)++([vs[i]]))++x9,(i:Int)+1))))) s) ?_
   have hle:s.findIdx (λx=> !decide (x<vs[i]))≤s.length:=List.findIdx_le_length
   have e:=LO vs[i] s hm
   generalize s.findIdx (λx=> !decide (x<vs[i]))=j at*
   rw[F3 s j hle,MO s j hle]
   simp only[ae,bm]
   rw[aW (by simp;omega),aW (by simp;omega),aW (by simp;omega),e];rfl
 case hn=>
  cases hg
  have:=uo s vs[i]
  omega
 case hf=>
  simp only[ic]
  rw[af (by omega)];rfl
 rw[u4]at this;exact this
theorem Cp (l:List Int)(v:Int)(h:l.length≤1000000000):eZ l v=some (ins v l):=by
 unfold eZ
 have hgo:∀(l:List Int)(acc:List Int)(d:Bool),acc.length+l.length+(bif d then 0 else 1)≤1073741824→
  po (λ(x:Int) (s:List Int×Bool) (k:List Int×Bool→Option (List Int))=>cond (cond (!s.2) (decide (v<x)) false) (room (List.length s.1+List.length ([v])) (room (List.length (s.1++([v]))+List.length ([x])) (k ((s.1++([v]))++([x]),true)))) (room (List.length s.1+List.length ([x])) (k (s.1++([x]),s.2))))
   (λs=>cond (!s.2) (room (List.length s.1+List.length ([v])) (some (s.1++([v])))) (some s.1)) l (acc,d)=some (acc++bif d then l else ins v l):=by
  intro l
  induction l with
  |nil=>
   intro acc d hl
   rw[po]
   simp only[List.length_nil]at hl
   cases d with
   |true=>simp
   |false=>
    simp only[bZ,ah,ak]at hl⊢
    rw[aW (by simp;omega)];rfl
  |cons x l ih=>
   intro acc d hl
   simp only[bO]at hl
   rw[po]
   cases d with
   |true=>
    simp only[ax,ak,ah]at hl⊢
    rw[aW (by simp;omega),ih _ _ (by simp;omega)]
    simp
   |false=>
    simp only[bZ,ah,ak]at hl⊢
    rw[ins]
    cases decide (v<x)with
    |true=>
     simp only[ah]
     rw[aW (by simp;omega),aW (by simp;omega)]
     rw[ih _ _ (by simp;omega)];simp
    |false=>
     simp only[ak]
     rw[aW (by simp;omega),ih _ _ (by simp;omega)]
     simp
 have hfu:=ee;have key:=qR (T:=fK (λ(y3:List Int) (y4:Bool) (_:Int)=>cond (!y4) (room (List.length y3+List.length ([v])) (some (y3++([v])))) (some y3)) v l (l.length:Int)) l (λ(s:List Int×Bool) i=>(s.1,s.2,(i:Int))) (λ(x:Int) (s:List Int×Bool) (k:List Int×Bool→Option (List Int))=>cond (cond (!s.2) (decide (v<x)) false) (room (List.length s.1+List.length ([v])) (room (List.length (s.1++([v]))+List.length ([x])) (k ((s.1++([v]))++([x]),true)))) (room (List.length s.1+List.length ([x])) (k (s.1++([x]),s.2)))) (λs=>cond (!s.2) (room (List.length s.1+List.length ([v])) (some (s.1++([v])))) (some s.1)) (λi hi s nx=>by simp only[fK];rw[ai (by omega),bH hi,wrap64 (n:=(i:Int)+1) (by omega) (by omega)];simp only[ah,ae,ba];rfl) (λs nx=>by simp only[fK];rw[af (by omega)];rfl) fuel 0 (([]:List Int),false) (by omega) (by omega);rw[cI,hgo l [] false (by simp;omega)]at key;exact key
def sQ:Port:=(0,[],0,false)
def CM (p:Port):Bool:=cQ (p.1,false,p.2.1)&&hasB p.2.1 p.2.2.1
def yU (l:List Port)(i:Nat):Bool:=CM (l.getD i sQ)&&(List.range i).all (λj=> !((j !=0)&&((l.getD j sQ).1==(l.getD i sQ).1)))
def kK (l:List Port):Bool:=cx (l.length:Int) 1 8&&(List.range l.length).all (yU l)
theorem HC (i:Nat)(q:Nat→Bool):(List.range (i-1)).all (λj=> !(q (j+1)))=(List.range i).all (λj=> !((j !=0)&&q j)):=by
 rw[bE,ay,ay];simp only[bw];constructor;intro h j hj;cases j with|zero=>rfl|succ j=>have:=h j (by omega);simpa using this
 intro h j hj;have:=h (j+1) (by omega);simpa using this
theorem KA (l:List Port)(h:l.length≤1000000000)(hv:∀p∈l,p.2.1.length≤1000000000):mO l=some (kK l):=by
 unfold mO kK;rw[eC (hit:=some false) (fin:=some true) (yU l) l.length (by omega) (λi nx hi=>?hs) (λnx=>?hf)]
 case hs=>
  have hvi:=hv _ (aY hi)
  simp only[ly]
  rw[ai (by omega),bH hi,wrap64 (by omega) (by omega)]
  simp only[ah,ae,rK (l[i].1,false,l[i].2.1) hvi,CY _ _ hvi]
  have e1:(1:Int)=(((0:Nat)+1:Nat):Int):=rfl
  rw[e1,vx (hit:=some false) (fin:=nx ((i:Int)+1)) (λj=>((j+1:Nat):Int)) (λj=> !((l.getD (j+1) sQ).1==l[i].1)) (i-1) (by omega) (λj nx' hj hp=>?hs2) (λhp nx'=>?hf2)]
  case hs2=>
   have hjl:j+1<l.length:=by omega
   simp only[lz]
   rw[ai (by omega),bH hjl,bH hi,wrap64 (by omega) (by omega)]
   simp only[ah,ae,db hjl,de];rfl
  case hf2=>
   simp only[lz]
   rw[af (by omega)];rfl
  rw[HC i (λj=>(l.getD j sQ).1==l[i].1)]
  simp only[yU,CM,db hi]
  cases cQ (l[i].1,false,l[i].2.1)<;>cases hasB l[i].2.1 l[i].2.2.1<;>cases (List.range i).all (λj=> !((j !=0)&&((l.getD j sQ).1==l[i].1)))<;>rfl
 case hf=>
  simp only[ly]
  rw[af (by omega)];rfl
 simp only[ch,ae];cases cx (l.length:Int) 1 8<;>cases (List.range l.length).all (yU l)<;>rfl
def vE (p:Nat→Bool):List Nat→Int
 |[]=> -1
 |j::r=>bif p j then(j:Int) else vE p r
theorem DZ (p:Nat→Bool):∀n s i,s≤i→i<s+n→p i=true→(vE p (List.range' s n)==(i:Int))=(List.range' s (i-s)).all (λj=> !(p j))
 |0,s,i,h1,h2,_=>by omega
 |n+1,s,i,h1,h2,hp=>by
  rw[List.range'_succ,vE];rcases bl s i with hlt|hge;obtain⟨k,hk⟩:∃k,i-s=k+1:=⟨i-s-1,by omega⟩
  rw[hk,List.range'_succ,a6];cases hps:p s with
  |true=>
   simp only[ah,ax,dx];have:¬(s:Int)=(i:Int):=by omega
   simpa using this
  |false=>simp only[ak,bZ,bn];rw[DZ p n (s+1) i (by omega) (by omega) hp,show i-(s+1)=k by omega]
  have:s=i:=by omega
  subst this;rw[hp,Nat.sub_self];simp
theorem ze {R:Type}(p:Nat→Bool)(hit:Nat→Option R)(fin:Option R)(k:Int→Option R)(h1:∀j:Nat,hit j=k (j:Int))(h2:fin=k (-1)):∀l:List Nat,rH (λ(j:Nat) (s:Unit)=>bif p j then .error (hit j) else .ok ()) (λ_=>fin) l ()=k (vE p l)
 |[]=>h2
 |j::l=>by rw[rH,vE];cases p j with|true=>exact h1 j|false=>exact ze p hit fin k h1 h2 l
theorem LN (l:List Port)(a:Int)(h:l.length≤1000000000):nI l a=some (vE (λj=>(j !=0)&&((l.getD j sQ).1==a)) (List.range' 0 l.length)):=by
 unfold nI;have:=og (T:=gT (λ(_:Int)=>some (-1)) (λ(y4:Int) (_:Int)=>some y4) a 0 l (l.length:Int)) (List.range' 0 l.length) (λ(_:Unit) i=>(i:Int)) (λ_ _=>True) (λ(j:Nat) (s:Unit)=>bif (j !=0)&&((l.getD j sQ).1==a) then .error (some (j:Int)) else .ok ()) (λ_=>some (-1)) (by simp;omega) (λi hi s nx _=>?hs) (λ_ _ _ _ _ _=>trivial) (λs nx _=>?hf) () trivial
 case hs=>
  have hil:i<l.length:=by simpa using hi
  have e:(List.range' 0 l.length)[i]=i:=by simp
  rw[e]
  simp only[gT]
  rw[ai (by omega),bH hil,wrap64 (by omega) (by omega)]
  simp only[ah,ae,db hil,ba,cF]
  have e2:((i:Int) !=0)=(i !=0):=by rw[bE];simp
  rw[e2]
  cases (i !=0)&&(l[i].1==a)<;>rfl
 case hf=>
  simp only[gT]
  rw[af (by simp)];rfl
 rw[ze (λj=>(j !=0)&&((l.getD j sQ).1==a)) _ _ (λx=>some x) (λ_=>rfl) rfl]at this;exact this
theorem AP (l:List Port)(h:l.length≤1000000000)(hv:∀p∈l,p.2.1.length≤1000000000):ki l=some (kK l):=by
 unfold ki kK;rw[eC (hit:=some false) (fin:=some true) (yU l) l.length (by omega) (λi nx hi=>?hs) (λnx=>?hf)]
 case hs=>
  have hvi:=hv _ (aY hi)
  simp only[lf]
  rw[ai (by omega),bH hi,wrap64 (by omega) (by omega)]
  simp only[ah,ae,qD,lL (l[i].1,false,l[i].2.1) hvi,uI _ _ hvi,LN l _ h,ba,bne]
  have e2:((i:Int)==0)=(i==0):=by rw[bE];simp
  rw[e2]
  simp only[yU,CM,db hi]
  cases h0:i==0 with
  |true=>
   have:i=0:=by simpa using h0
   subst this
   cases cQ (l[0].1,false,l[0].2.1)<;>cases hasB l[0].2.1 l[0].2.2.1<;>rfl
  |false=>
   have hne:(i !=0)=true:=by simp only[bne,h0,bZ]
   have fa:=DZ (λj=>(j !=0)&&((l.getD j sQ).1==l[i].1)) l.length 0 i (by omega) (by omega) (by simp only[hne,db hi,bn,beq_self_eq_true])
   rw[Nat.sub_zero,←List.range_eq_range' (n:=i)]at fa
   simp only[bne]at fa⊢
   rw[fa]
   cases cQ (l[i].1,false,l[i].2.1)<;>cases hasB l[i].2.1 l[i].2.2.1<;>cases (List.range i).all (λj=> !((!(j==0))&&((l.getD j sQ).1==l[i].1)))<;>rfl
 case hf=>
  simp only[lf]
  rw[af (by omega)];rfl
 simp only[cX,ae];cases cx (l.length:Int) 1 8<;>cases (List.range l.length).all (yU l)<;>rfl
def fj (m:aJ):Bool:=cQ m.1&&(cx m.2.1 0 1000000000000&&cx m.2.2.2 0 1000000000000)
theorem MK (m:aJ)(h:m.1.2.2.length≤1000000000):mK m=some (fj m):=by simp only[mK,rK _ h,ch,ae,ba,cF,fj]
theorem Ej (m:aJ)(h:m.1.2.2.length≤1000000000):jL m=some (fj m):=by simp only[jL,lL _ h,cX,ae,ba,cF,fj]
theorem pA {m:aJ}(h:fj m=true):m.1.2.2.length≤8:=by unfold fj cQ at h;simp only[ab,aI]at h;omega
def CN (m:aJ):Port:=(m.1.1,m.1.2.2.foldl na [0],0,true)
def sm (s:List Int×List Port)(m:aJ):List Int×List Port:=(m.1.2.2.foldl na s.1,s.2++[CN m])
def jv (ms:List aJ):List Port:=(0,(ms.foldl sm ([0],[])).1,0,false)::(ms.foldl sm ([0],[])).2
def c9 (ms:List aJ):List Port×Bool:=bif cx (ms.length:Int) 1 3&&(ms.all fj&&kK (jv ms)) then(jv ms,true) else([],false)
theorem zd {α σ R:Type}(p:α→Bool)(f:σ→α→σ)(r:Option R)(fin:σ→Option R):∀(l:List α)(s:σ),rH (λx s=>bif p x then .ok (f s x) else .error r) fin l s=bif l.all p then fin (l.foldl f s) else r
 |[],s=>rfl
 |x::l,s=>by rw[rH,a6,cm];cases p x with|false=>rfl|true=>simp only[ah,bn];exact zd p f r fin l (f s x)
def Db (i:Nat)(s:List Int×List Port):Prop:=s.1.length≤1+9*i∧s.2.length=i∧∀p∈s.2,p.2.1.length≤9
theorem Db.port {i:Nat}{s:List Int×List Port}(h:Db i s){m:aJ}(hm:fj m=true)(U:List Int)(hU:U.length≤s.1.length+9):Db (i+1) (U,s.2++[CN m]):=by have hl:=pA hm;have:=ra m.1.2.2 [0];refine⟨?_,?_,?_⟩;have:=h.1;simp only;omega;have:=h.2.1;simp;omega;intro p hp;rcases al.1 hp with hp|hp;exact h.2.2 p hp;simp only[bz]at hp;subst hp;simp only[CN,cE]at this⊢;omega
theorem sO {i:Nat}{s:List Int×List Port}(h:Db i s)(hi:i≤3):((0,s.1,0,false)::s.2:List Port).length≤1000000000∧∀p∈((0,s.1,0,false)::s.2:List Port),p.2.1.length≤1000000000:=by have h1:=h.1;have h2:=h.2.1;refine⟨by simp only[bO];omega,λp hp=>?_⟩;rcases bg.1 hp with rfl|hp;simp only;omega;have:=h.2.2 p hp;omega
theorem FV (ms:List aJ)(h:∀m∈ms,m.1.2.2.length≤1000000000):oM ms=some (c9 ms):=by
 unfold oM c9;simp only[ch,ae];cases hn:cx (ms.length:Int) 1 3 with
 |false=>rfl
 |true=>
  have hn':=bq.1 hn;simp only[ax,ak,bn];have:=og (T:=iP (λ(y12:List Port) (_:Int)=>aa (mO y12) λr14=>cond (!r14) (some (([]:List Port),false)) (some (y12,true))) (λ(y15:List Port) (y16:Bool) (_:List Port) (_:Int)=>some (y15,y16)) ms ([]:List Port) false) ms (λ(s:List Int×List Port) i=>((0,s.1,0,false)::s.2,(i:Int))) Db (λm s=>bif fj m then .ok (sm s m) else .error (some (([]:List Port),false))) (λs=>some (bif kK ((0,s.1,0,false)::s.2) then((0,s.1,0,false)::s.2,true) else([],false))) (by omega) (λi hi s nx hI=>?hs) (λi hi s s' hI hg=>?hn) (λs nx hI=>?hf) ([0],[]) ⟨by simp,rfl,by simp⟩
  case hs=>
   simp only[iP]
   have hm:=h _ (aY hi)
   rw[ai (by omega),bH hi,wrap64 (n:=(i:Int)+1) (by omega) (by omega)]
   simp only[ah,ae,MK _ hm]
   cases hmb:fj ms[i]with
   |false=>rfl
   |true=>
    have hl:=pA hmb
    have hU:=hI.1
    have hP:=hI.2.1
    have e0:idx ((0,s.1,0,false)::s.2:List Port) 0=some (0,s.1,0,false):=rfl
    simp only[ax,ak,ah,e0,ae]
    rw[Bu s.1 _ (by omega),Bu [0] _ (by simp;omega)]
    simp only[ae]
    rw[aW (by simp;omega)]
    rfl
  case hn=>
   cases hmb:fj ms[i]with
   |false=>rw[hmb]at hg;cases hg
   |true=>
    rw[hmb]at hg
    cases hg
    have:=ra ms[i].1.2.2 s.1
    have:=pA hmb
    exact hI.port hmb _ (by omega)
  case hf=>
   simp only[iP]
   rw[af (by omega)]
   have hb:=sO hI (by omega)
   simp only[ak,KA _ hb.1 hb.2,ae]
   cases kK ((0,s.1,0,false)::s.2)<;>rfl
  rw[zd]at this;refine Eq.trans this ?_;unfold jv;cases ms.all fj<;>rfl
def Bv (s:List Int×List Port)(m:aJ):List Int×List Port:=(([0]++m.1.2.2).foldl na s.1,s.2++[CN m])
theorem MN {s:List Int×List Port}{m:aJ}(h:(0:Int)∈s.1):Bv s m=sm s m:=by unfold Bv sm;rw[List.foldl_append];simp only[cm,List.foldl_nil,I6 h]
theorem zA:∀(ms:List aJ)(s:List Int×List Port),(0:Int)∈s.1→ms.foldl Bv s=ms.foldl sm s
 |[],_,_=>rfl
 |m::ms,s,h=>by rw[cm,cm,MN h];exact zA ms _ (vO _ h)
theorem F1 (ms:List aJ)(h:ms≠[]):ms.foldl Bv ([],[])=ms.foldl sm ([0],[]):=by cases ms with|nil=>exact absurd rfl h|cons m ms=>rw[cm,cm];have e:Bv ([],[]) m=sm ([0],[]) m:=rfl;rw[e];exact zA ms _ (vO _ (by simp))
theorem Jv {R:Type}(k0:List Int→List Int→Int→Option R)(k:List Int→List Int→Option R)(hk:∀a b i,k0 a b i=k a b)(v2:List Port)(v3:Bool)(v4:List Port)(v18:List aJ)(v19 v20:Int)(b7:aJ)(vs all:List Int)(h:all.length+vs.length≤1000000000): bc (fC k0 v2 v3 v4 v18 v19 v20 vs (vs.length:Int) b7) fuel (all,([]:List Int),0)=k (vs.foldl na all) (vs.foldl na []):=by
 have:=og (T:=fC k0 v2 v3 v4 v18 v19 v20 vs (vs.length:Int) b7) vs (λ(s:List Int×List Int) i=>(s.1,s.2,(i:Int))) (λi s=>s.1.length≤all.length+i∧s.2.length≤i) (λv s=> .ok (na s.1 v,na s.2 v)) (λs=>k s.1 s.2) (by omega) (λi hi s nx hI=>?hs) (λi hi s s' hI hg=>?hn) (λs nx hI=>?hf) (all,[]) ⟨by simp,by simp⟩
 case hs=>
  simp only[fC]
  rw[ai (by omega),bH hi,wrap64 (n:=(i:Int)+1) (by omega) (by omega)]
  simp only[ah,ae,uI s.2 vs[i] (by omega),uI s.1 vs[i] (by omega),Cp s.2 vs[i] (by omega),Cp s.1 vs[i] (by omega),na]
  cases hasB s.2 vs[i]<;>cases hasB s.1 vs[i]<;>rfl
 case hn=>
  cases hg
  have:=uo s.1 vs[i]
  have:=uo s.2 vs[i]
  have h1:=hI.1
  have h2:=hI.2
  exact⟨by simp only;omega,by simp only;omega⟩
 case hf=>
  simp only[fC]
  rw[af (by omega)]
  simp only[ak,hk]
 rw[u4]at this;refine Eq.trans this ?_;have e:∀(l:List Int)(s:List Int×List Int),l.foldl (λs v=>(na s.1 v,na s.2 v)) s=(l.foldl na s.1,l.foldl na s.2):=by intro l;induction l with|nil=>intro s;rfl|cons x l ih=>intro s;rw[cm,ih];rfl
 rw[e]
theorem sI (ms:List aJ)(h:∀m∈ms,m.1.2.2.length≤1000000000):kh ms=some (c9 ms):=by
 unfold kh c9;simp only[cX,ae];cases hn:cx (ms.length:Int) 1 3 with
 |false=>rfl
 |true=>
  have hn':=bq.1 hn;simp only[ax,ak,bn];have:=og (T:=iK (λ(y14:List Port) (y15:List Int) (_:Int)=>aa (idx y14 0) λx17=>aa (idx y14 0) λx18=>aa (ki (List.set y14 (Int.toNat 0) (x18.1,y15,x18.2.2))) λr19=>cond (!r19) (some (([]:List Port),false)) (some (List.set y14 (Int.toNat 0) (x18.1,y15,x18.2.2),true))) (λ(y20:List Port) (y21:Bool) (_:List Port) (_:List Int) (_:Int)=>some (y20,y21)) ([]:List Port) false ms (ms.length:Int)) ms (λ(s:List Int×List Port) i=>((0,[],0,false)::s.2,s.1,(i:Int))) Db (λm s=>bif fj m then .ok (Bv s m) else .error (some (([]:List Port),false))) (λs=>some (bif kK ((0,s.1,0,false)::s.2) then((0,s.1,0,false)::s.2,true) else([],false))) (by omega) (λi hi s nx hI=>?hs) (λi hi s s' hI hg=>?hn) (λs nx hI=>?hf) ([],[]) ⟨by simp,rfl,by simp⟩
  case hs=>
   simp only[iK]
   have hm:=h _ (aY hi)
   rw[ai (by omega),bH hi,wrap64 (n:=(i:Int)+1) (by omega) (by omega)]
   simp only[ah,ae,Ej _ hm]
   cases hmb:fj ms[i]with
   |false=>rfl
   |true=>
    have hl:=pA hmb
    have hU:=hI.1
    have hP:=hI.2.1
    simp only[ax,ak,ah]
    rw[aW (by simp;omega)]
    refine(Jv _ (λa b=>room (List.length ((0,[],0,false)::s.2:List Port)+List.length ([(ms[i].1.1,b,0,true)]:List Port)) (nx (((0,[],0,false)::s.2)++([(ms[i].1.1,b,0,true)]),a,(i:Int)+1))) (λ_ _ _=>rfl) _ _ _ _ _ _ _ ([0]++ms[i].1.2.2) s.1 (by simp only[aj,cE];omega)).trans ?_
    rw[aW (by simp;omega)]
    rfl
  case hn=>
   cases hmb:fj ms[i]with
   |false=>rw[hmb]at hg;cases hg
   |true=>
    rw[hmb]at hg
    cases hg
    have hu:=ra ([0]++ms[i].1.2.2) s.1
    have hl:=pA hmb
    simp only[aj,cE]at hu
    exact hI.port hmb _ (by omega)
  case hf=>
   simp only[iK]
   rw[af (by omega)]
   have hb:=sO hI (by omega)
   have e0:idx ((0,[],0,false)::s.2:List Port) 0=some (0,[],0,false):=rfl
   have e1:List.set ((0,[],0,false)::s.2:List Port) (Int.toNat 0) (0,s.1,0,false)=(0,s.1,0,false)::s.2:=rfl
   simp only[ak,e0,ae,e1,AP _ hb.1 hb.2]
   cases kK ((0,s.1,0,false)::s.2)<;>rfl
  rw[zd,F1 ms (by rintro rfl;simp at hn')]at this;refine Eq.trans this ?_;unfold jv;cases ms.all fj<;>rfl
def GO (p:bf):Int×Int×Int×Int×Int:=(p.2.2.2.2.2.2.2.2.1,p.2.2.2.2.2.2.1,p.2.2.2.2.2.2.2.1,p.2.2.2.2.2.2.2.2.2.1,p.2.2.2.2.2.2.2.2.2.2.1)
def K1 (a b:Int):Int:=(gn a b).getD 0
theorem CW (a b:Int):gn a b=some (K1 a b):=by
 unfold K1;have:∃x,gn a b=some x:=by simp only[gn,ch,ae];cases cx a 0 65535<;>cases cx b 0 65535<;>cases decide (aw (a+b)>65535)<;>exact⟨_,rfl⟩
 obtain⟨x,hx⟩:=this;rw[hx];rfl
theorem NS {a b:Int}(h:0≤a∧a≤65535)(k:0≤b∧b≤65535):0≤K1 a b∧K1 a b≤65535:=by have e:=CW a b;simp only[gn,ch,ae,bq.2 h,bq.2 k,ax,ak]at e;rw[wrap64 (n:=a+b) (by omega) (by omega)]at e;by_cases hc:a+b>65535;rw[ai hc,ah,wrap64 (by omega) (by omega)]at e;rw[←bu e];omega;rw[af hc,ak]at e;rw[←bu e];omega
def sw (s:Bytes):Nat→Int
 |0=>0
 |j+1=>K1 (sw s j) ((cY s (2*j)*256+cY s (2*j+1):Nat):Int)
theorem Pn (s:Bytes):∀j,0≤sw s j∧sw s j≤65535
 |0=>by simp[sw]
 |j+1=>by have b0:=dP s (2*j);have b1:=dP s (2*j+1);exact NS (Pn s j) (by omega)
theorem Gx {s:Bytes}{i:Nat}(h:s.length≤i):cY s i=0:=by unfold cY;rw[List.getD_eq_getElem?_getD,List.getElem?_eq_none h];rfl
theorem OR (s:Bytes)(h:s.length≤1000000000):nT s=some (sw s ((s.length+1)/2)):=by
 unfold nT;refine ie (λj=>(sw s j,((2*j:Nat):Int))) ((s.length+1)/2) (by omega) (λj nx hj=>?_) (λnx=>?_);have b0:=dP s (2*j);have b1:=dP s (2*j+1);obtain⟨x,hx,ex⟩:=n7 (s:=s) (i:=2*j) (by omega);simp only[kB];rw[ai (by omega),ah,hx,ae,aq (by omega),wrap64 (n:=((2*j:Nat):Int)+1) (by omega) (by omega),wrap64 (n:=((2*j:Nat):Int)+2) (by omega) (by omega),ex,oq (by omega)];have e8:min (Int.toNat 8) (IntKind.bits .i64)=8:=rfl;have en:((2*j:Nat):Int)+2=((2*(j+1):Nat):Int):=by omega
 rw[e8,wrap64 (n:=((cY s (2*j):Nat):Int)*2^8) (by omega) (by omega)];by_cases hc:2*j+1<s.length;obtain⟨y,hy,ey⟩:=n7 (s:=s) (i:=2*j+1) hc;rw[ai (by omega),ah,show((2*j:Nat):Int)+1=((2*j+1:Nat):Int) by omega,hy,ae,ey,oq (n:=cY s (2*j+1)) (by omega),wrap64 (by omega) (by omega),CW,ae,en,show((cY s (2*j):Nat):Int)*2^8+((cY s (2*j+1):Nat):Int)=((cY s (2*j)*256+cY s (2*j+1):Nat):Int) by omega];rfl;have hz:=Gx (s:=s) (i:=2*j+1) (by omega);rw[af (by omega),ak,CW,ae,en,show((cY s (2*j):Nat):Int)*2^8=((cY s (2*j)*256+cY s (2*j+1):Nat):Int) by rw[hz];omega];rfl;simp only[kB];rw[af (by omega)];rfl
def NM (s:Bytes):Int:=65535-sw s ((s.length+1)/2)
theorem CX (s:Bytes)(h:s.length≤1000000000):jc s=some (NM s):=by have:=Pn s ((s.length+1)/2);simp only[jc,OR s h,ae];rw[wrap64 (by omega) (by omega)];rfl
def yW (s:Bytes)(a:Int)(p:Bytes):Bytes:=bif dC s a (p.length:Int) then(s.take a.toNat++p)++s.drop (a.toNat+p.length) else s
theorem Fz (s:Bytes)(a:Int)(p:Bytes):(yW s a p).length=s.length:=by unfold yW;cases hw:dC s a (p.length:Int)with|false=>rfl|true=>simp only[dC,aI]at hw;simp only[ah,aj,bh,aZ];omega
theorem Mn (s:Bytes)(a:Int)(p:Bytes)(h:s.length≤1000000000)(hw:dC s a (p.length:Int)=true): (aa (sub s 0 a) λx2=>room (List.length x2+List.length p) (aa (sub s (aw (a+((List.length p:Int)))) ((List.length s:Int))) λx3=>room (List.length (x2++p)+List.length x3) (some ((x2++p)++x3))))=some (yW s a p):=by
 have hw':=hw;simp only[dC,aI]at hw';obtain⟨n,rfl⟩:=bJ hw'.1;have e1:sub s 0 (n:Int)=some (s.take n):=by unfold sub;rw[ar (by omega)];rfl
 have e2:sub s (((n+p.length:Nat):Int)) (s.length:Int)=some (s.drop (n+p.length)):=by unfold sub;rw[ar (by omega),aS,aS,da]
 rw[e1,wrap64 (by omega) (by omega),show(n:Int)+(p.length:Int)=((n+p.length:Nat):Int) by omega,e2,ae,aW (by simp only[bh];omega),ae,aW (by simp only[aj,bh,aZ];omega)];unfold yW;rw[hw];rfl
theorem xu (s:Bytes)(a:Int)(p:Bytes)(h:s.length≤1000000000):eP s a p=some (yW s a p):=by unfold eP;rw[sU s a _ h (by omega),ae];cases hw:dC s a (p.length:Int)with|false=>simp only[bZ,ah,yW,hw,ak]|true=>exact Mn s a p h hw
def Tv (x y:Int):Bytes:=bytesOf [x,y]
theorem BJ (x y:Int):(Tv x y).length=2:=rfl
def u0 (a b k n:Int):Bool:=cx a 0 4294967295&&(cx b 0 4294967295&&(cx k 0 255&&cx n 0 65535))
def ud (a b k n:Int):Bytes:=((dU a++dU b)++Tv 0 (gA k))++dA n
theorem Kh (a b k n:Int):(ud a b k n).length≤12:=by have:=cZ a;have:=cZ b;have:=cr n;simp only[ud,aj,BJ];omega
theorem zr (a b k n:Int):gq a b k n=some (bif u0 a b k n then(ud a b k n,true) else([],false)):=by
 have:=cZ a;have:=cZ b;have:=cr n;unfold gq u0;simp only[ch,ae,iC,lO];cases cx a 0 4294967295 with|false=>rfl|true=>?_
 cases cx b 0 4294967295 with|false=>rfl|true=>?_
 cases cx k 0 255 with|false=>rfl|true=>?_
 cases cx n 0 65535 with|false=>rfl|true=>?_
 simp only[ax,ak,df,ah,ae];have e:(bytesOf [0,gA k]).length=2:=rfl;rw[aW (by omega),aW (by simp only[aj,e];omega),aW (by simp only[aj,e];omega)];rfl
def bare (g:dB):Bytes:=bif g.1==6 then
    (((((dA g.2.1++dA g.2.2.1)++dU g.2.2.2.1)++dU g.2.2.2.2.1)++Tv 80 (gA g.2.2.2.2.2.1))++dA g.2.2.2.2.2.2.1)++dU 0++g.2.2.2.2.2.2.2
 else(((dA g.2.1++dA g.2.2.1)++dA (8+(g.2.2.2.2.2.2.2.length:Int)))++dA 0)++g.2.2.2.2.2.2.2
theorem H2 (g:dB):(bare g).length≤20+g.2.2.2.2.2.2.2.length:=by have:=cr g.2.1;have:=cr g.2.2.1;have:=cZ g.2.2.2.1;have:=cZ g.2.2.2.2.1;have:=cr g.2.2.2.2.2.2.1;have:=cZ 0;have:=cr 0;have:=cr (8+(g.2.2.2.2.2.2.2.length:Int));unfold bare;cases g.1==6<;>simp only[ah,ak,aj,BJ]<;>omega
def MQ (a b:Int)(g:dB):Int:=bif (NM (ud a b g.1 ((bare g).length:Int)++bare g)==0)&&(g.1==17) then 65535 else NM (ud a b g.1 ((bare g).length:Int)++bare g)
def MA (a b:Int)(g:dB):Bytes:=yW (bare g) (bif g.1==6 then 16 else 6) (dA (MQ a b g))
def CU (a b:Int)(g:dB):Bool:=lN g&&u0 a b g.1 ((bare g).length:Int)
def Am (a b:Int)(g:dB):Bytes×Bool:=bif CU a b g then(MA a b g,true) else([],false)
theorem zi {g:dB}(h:lN g=true):g.2.2.2.2.2.2.2.length≤320:=by simp only[lN,ab,aA,decide_eq_false_iff_not]at h;omega
theorem FX (a b:Int)(g:dB):jw a b g=some (Am a b g):=by
 unfold jw Am CU;rw[IP,ae];cases hg:lN g with|false=>rfl|true=>?_
 have hb:=zi hg;have hl:=H2 g;have hp:=Kh a b g.1 ((bare g).length:Int);have:=cr g.2.1;have:=cr g.2.2.1;have:=cZ g.2.2.2.1;have:=cZ g.2.2.2.2.1;have:=cr g.2.2.2.2.2.2.1;have:=cZ 0;have:=cr 0;have:=cr (8+(g.2.2.2.2.2.2.2.length:Int));have e:∀x,(bytesOf [80,gA x]).length=2:=λ_=>rfl;rw[wrap64 (n:=8+(g.2.2.2.2.2.2.2.length:Int)) (by omega) (by omega)];simp only[lO,iC,ae,ax,ak,bn];rw[aW (by omega)];cases h6:g.1==6 with
 |true=>
  have hbare:bare g=(((((dA g.2.1++dA g.2.2.1)++dU g.2.2.2.1)++dU g.2.2.2.2.1)++bytesOf [80,gA g.2.2.2.2.2.1])++dA g.2.2.2.2.2.2.1)++dU 0++g.2.2.2.2.2.2.2:=by unfold bare;rw[h6];rfl
  simp only[ah];rw[aW (by simp only[aj,e];omega),aW (by simp only[aj,e];omega),aW (by simp only[aj,e];omega),aW (by simp only[aj,e];omega),aW (by simp only[aj,e];omega),aW (by simp only[aj,e];omega),←hbare,zr,ae];cases u0 a b g.1 ((bare g).length:Int)with|false=>rfl|true=>?_
  simp only[ah,ax,ak];rw[aW (by omega),CX _ (by simp only[aj];omega)];simp only[ae,ba,xu _ _ _ (show(bare g).length≤1000000000 by omega),MA,MQ,h6,ah,cF];cases (NM (ud a b g.1 ((bare g).length:Int)++bare g)==0)&&(g.1==17)<;>rfl
 |false=>
  have hbare:bare g=(((dA g.2.1++dA g.2.2.1)++dA (8+(g.2.2.2.2.2.2.2.length:Int)))++dA 0)++g.2.2.2.2.2.2.2:=by unfold bare;rw[h6];rfl
  simp only[ak];rw[aW (by simp only[aj];omega),aW (by simp only[aj];omega),aW (by simp only[aj];omega),←hbare,zr,ae];cases u0 a b g.1 ((bare g).length:Int)with|false=>rfl|true=>?_
  simp only[ah,ax,ak];rw[aW (by omega),CX _ (by simp only[aj];omega)];simp only[ae,ba,xu _ _ _ (show(bare g).length≤1000000000 by omega),MA,MQ,h6,ak,cF];cases (NM (ud a b g.1 ((bare g).length:Int)++bare g)==0)&&(g.1==17)<;>rfl
theorem OK (a b:Int)(g:dB):(Am a b g).1.length≤340:=by unfold Am;cases h:CU a b g with|false=>exact cl _|true=>simp only[CU,ab]at h;have:=zi h.1;have:=H2 g;show(yW _ _ _).length≤340;rw[Fz];omega
def Oi (d:Ip):Bool:=cx d.1 0 255&&(cx d.2.2.1 0 255&&(cx d.2.2.2.1 0 255&&(cx d.2.1 0 65535&&(cx d.2.2.2.2.1 0 4294967295&&(cx d.2.2.2.2.2.1 0 4294967295&&decide ((d.2.2.2.2.2.2.length:Int)≤380))))))
theorem MJ (d:Ip):tp d=some (Oi d):=by simp only[tp,ch,ae,ba,cF,Oi]
def En (d:Ip):Bytes:=((((((Tv 69 (gA d.1)++dA (20+(d.2.2.2.2.2.2.length:Int)))++dA d.2.1)++dA 16384)++Tv (gA d.2.2.1) (gA d.2.2.2.1))++dA 0)++dU d.2.2.2.2.1)++dU d.2.2.2.2.2.1
theorem Eo (d:Ip):(En d).length≤20:=by have:=cr (20+(d.2.2.2.2.2.2.length:Int));have:=cr d.2.1;have:=cr 16384;have:=cr 0;have:=cZ d.2.2.2.2.1;have:=cZ d.2.2.2.2.2.1;simp only[En,aj,BJ];omega
def Cz (d:Ip):Bytes:=yW (En d) 10 (dA (NM (En d)))
theorem HG (d:Ip):nQ d=some (bif Oi d then(Cz d,true) else([],false)):=by
 unfold nQ;rw[MJ,ae];cases hd:Oi d with|false=>rfl|true=>?_
 have hn:(d.2.2.2.2.2.2.length:Int)≤380:=by simp only[Oi,ab,aI]at hd;omega
 have:=cr (20+(d.2.2.2.2.2.2.length:Int));have:=cr d.2.1;have:=cr 16384;have:=cr 0;have:=cZ d.2.2.2.2.1;have:=cZ d.2.2.2.2.2.1;have hl:=Eo d;have e:∀x y,(bytesOf [x,y]).length=2:=λ_ _=>rfl;rw[wrap64 (n:=20+(d.2.2.2.2.2.2.length:Int)) (by omega) (by omega)];simp only[lO,iC,ae,ax,ak,ah];rw[aW (by simp only[aj,e];omega),aW (by simp only[aj,e];omega),aW (by simp only[aj,e];omega),aW (by simp only[aj,e];omega),aW (by simp only[aj,e];omega),aW (by simp only[aj,e];omega),aW (by simp only[aj,e];omega)];have hp:((((((bytesOf [69,gA d.1]++dA (20+(d.2.2.2.2.2.2.length:Int)))++dA d.2.1)++dA 16384)++bytesOf [gA d.2.2.1,gA d.2.2.2.1])++dA 0)++dU d.2.2.2.2.1)++dU d.2.2.2.2.2.1=En d:=rfl;rw[hp,CX _ (by omega),ae,xu _ _ _ (by omega)];rfl
def Qx (d:Ip):Bytes×Bool:=bif Oi d then(Cz d++d.2.2.2.2.2.2,true) else([],false)
theorem AR (d:Ip):(Cz d).length≤20:=by unfold Cz;rw[Fz];exact Eo d
theorem Sy (d:Ip):oI d=some (Qx d):=by
 unfold oI Qx;rw[HG,ae];cases hd:Oi d with|false=>rfl|true=>?_
 have hn:(d.2.2.2.2.2.2.length:Int)≤380:=by simp only[Oi,ab,aI]at hd;omega
 have:=AR d;simp only[ah,ax,ak];rw[aW (by omega)]
def re (n:Nat):Bytes:=bytesOf (List.replicate n (0:Int))
theorem wh (n:Nat):(re n).length=n:=by simp[re,bytesOf]
theorem zn (n:Nat)(h:n≤1000000000):dq (n:Int) 0=some (re n):=by unfold dq;rw[ar (by omega),aW (by rw[aS];omega),aS];refine ie (λi=>(List.replicate n (0:Int),(i:Int))) n (by omega) (λi nx hi=>?_) (λnx=>?_);simp only[iQ];rw[ai (by omega),bH (by simpa using hi),wrap64 (by omega) (by omega)];simp only[ah,ae,aS,List.set_replicate_self];rfl;simp only[iQ];rw[af (by omega)];rfl
def pad (s:Bytes):Bytes:=if s.length<46 then s++re (46-s.length) else s
theorem OC (s:Bytes):(pad s).length=max 46 s.length:=by unfold pad;split;simp only[aj,wh];omega;omega
theorem OQ (s:Bytes)(h:s.length≤1000000000):oL s=some (pad s):=by unfold oL pad;by_cases hc:s.length<46;rw[ai (by omega),ar hc,wrap64 (by omega) (by omega),show(46:Int)-(s.length:Int)=((46-s.length:Nat):Int) by omega,zn _ (by omega)];simp only[ah,ae];rw[aW (by rw[wh];omega)];rw[af (by omega),aq hc];rfl
def DT (e:KN):Bool:=cx e.1 0 281474976710655&&(cx e.2.1 0 281474976710655&&(cx e.2.2.1 (-1) 4095&&(cx e.2.2.2.1 1536 65535&&((e.2.2.2.1 !=33024)&&cx (e.2.2.2.2.length:Int) 46 400))))
theorem Kv (e:KN):rL e=some (DT e):=by simp only[rL,ch,ae,ba,cF,DT]
def Pd (a:Int):Bytes:=(ff a).getD []
theorem vc (a:Int):ff a=some (Pd a)∧(Pd a).length≤6:=by
 have h:∃x,ff a=some x∧x.length≤6:=by unfold ff;rw[aq (by omega)];simp only[lO,iC,ae];have h1:=cr (Int.fdiv a (2^(min (Int.toNat 32) (IntKind.bits .i64))));have h2:=cZ (aw (BitVec.toNat (BitVec.ofInt (IntKind.bits .i64) a&&&BitVec.ofInt (IntKind.bits .i64) 4294967295)));rw[aW (by omega)];exact⟨_,rfl,by simp only[aj];omega⟩
 obtain⟨x,hx,hl⟩:=h;unfold Pd;rw[hx];exact⟨rfl,hl⟩
def Il (e:KN):Bytes:=(bif decide (e.2.2.1≥0) then(((Pd e.1++Pd e.2.1)++dA 33024)++dA e.2.2.1) else Pd e.1++Pd e.2.1)++dA e.2.2.2.1++e.2.2.2.2
theorem Lo (e:KN):(Il e).length≤18+e.2.2.2.2.length:=by have:=(vc e.1).2;have:=(vc e.2.1).2;have:=cr 33024;have:=cr e.2.2.1;have:=cr e.2.2.2.1;unfold Il;cases decide (e.2.2.1≥0)<;>simp only[ah,ak,aj]<;>omega
def N9 (e:KN):Bytes×Bool:=bif DT e then(Il e,true) else([],false)
theorem OO (e:KN):nM e=some (N9 e):=by
 unfold nM N9;rw[Kv,ae];cases he:DT e with|false=>rfl|true=>?_
 have hn:(e.2.2.2.2.length:Int)≤400:=by simp only[DT,ab,bq]at he;omega
 have:=(vc e.1).2;have:=(vc e.2.1).2;have:=cr 33024;have:=cr e.2.2.1;have:=cr e.2.2.2.1;simp only[(vc _).1,lO,ae,ax,ak,ah,Il];rw[aW (by omega)];cases decide (e.2.2.1≥0)with|true=>simp only[ah];rw[aW (by simp only[aj];omega),aW (by simp only[aj];omega),aW (by simp only[aj];omega),aW (by simp only[aj];omega)]|false=>simp only[ak];rw[aW (by simp only[aj];omega),aW (by simp only[aj];omega)]
def OJ (p:bf):Bytes×Bool:=Am p.2.2.2.2.2.2.1 p.2.2.2.2.2.2.2.1 p.2.2.2.2.2.2.2.2
def Qw (p:bf):Bytes×Bool:=Qx (p.2.2.2.1,p.2.2.2.2.1,p.2.2.2.2.2.1,p.2.2.2.2.2.2.2.2.1,p.2.2.2.2.2.2.1,p.2.2.2.2.2.2.2.1,(OJ p).1)
def Uv (p:bf):Bytes×Bool:=N9 (p.1,p.2.1,p.2.2.1,2048,pad (Qw p).1)
def vI (p:bf):Bytes×Bool:=bif jk p then Uv p else([],false)
theorem LU (p:bf):(Qw p).1.length≤360:=by have h1:=OK p.2.2.2.2.2.2.1 p.2.2.2.2.2.2.2.1 p.2.2.2.2.2.2.2.2;unfold Qw Qx;cases Oi (p.2.2.2.1,p.2.2.2.2.1,p.2.2.2.2.2.1,p.2.2.2.2.2.2.2.2.1,p.2.2.2.2.2.2.1,p.2.2.2.2.2.2.2.1,(OJ p).1)with|false=>exact cl _|true=>have h2:=AR (p.2.2.2.1,p.2.2.2.2.1,p.2.2.2.2.2.1,p.2.2.2.2.2.2.2.2.1,p.2.2.2.2.2.2.1,p.2.2.2.2.2.2.2.1,(OJ p).1);have h3:(OJ p).1.length≤340:=h1;simp only[ah,aj];omega
theorem Ky (p:bf):lr p=some (vI p):=by have hl:=LU p;unfold lr vI;simp only[Bs,FX,Sy,ae];rw[show(Qx (p.2.2.2.1,p.2.2.2.2.1,p.2.2.2.2.2.1,p.2.2.2.2.2.2.2.2.1,p.2.2.2.2.2.2.1,p.2.2.2.2.2.2.2.1,(Am p.2.2.2.2.2.2.1 p.2.2.2.2.2.2.2.1 p.2.2.2.2.2.2.2.2).1))=Qw p from rfl,OQ _ (by omega),ae,OO];cases jk p<;>rfl
theorem AO (p:bf):(vI p).1.length≤378:=by have hl:=LU p;have hp:=OC (Qw p).1;unfold vI Uv N9;cases jk p with|false=>exact cl _|true=>cases DT (p.1,p.2.1,p.2.2.1,2048,pad (Qw p).1)with|false=>exact cl _|true=>have:=Lo (p.1,p.2.1,p.2.2.1,2048,pad (Qw p).1);simp only[ah]at this⊢;omega
def fcs (c:Int):Bytes:=bytesOf [gA c,gA (Int.fdiv c (2^(min (Int.toNat 8) (IntKind.bits .i64)))),gA (Int.fdiv c (2^(min (Int.toNat 16) (IntKind.bits .i64)))),gA (Int.fdiv c (2^(min (Int.toNat 24) (IntKind.bits .i64))))]
def C9 (s:Bytes):Bytes:=s++fcs (wq s)
theorem Oa (c:Int):(fcs c).length=4:=rfl
theorem OP (s:Bytes)(h:s.length≤1000000000):oQ s=some (C9 s):=by unfold oQ;rw[IM s h,ae,aq (by omega),aq (by omega),aq (by omega)];exact aW (by show s.length+4≤_;omega)
def qk (p:bf):Bool:=jk p&&decide ((p.2.2.2.2.2.2.2.2.2.2.2.2.2.2.2.length:Int)≤128)
theorem HH (p:bf):nR p=some (qk p):=by simp only[nR,Bs,ae,ba,cF,qk]
def Cn (p:bf):Bytes×Bool:=bif qk p then(C9 (vI p).1,true) else([],false)
theorem Kw (p:bf):lq p=some (Cn p):=by have hl:=AO p;simp only[lq,HH,Ky,OP _ (show(vI p).1.length≤1000000000 by omega),ae,Cn];cases qk p<;>rfl
theorem Jm (p:bf):(Cn p).1.length≤382:=by have hl:=AO p;unfold Cn;cases qk p with|false=>exact cl _|true=>simp only[ah,C9,aj,Oa];omega
def Qp:KN:=(0,0,0,0,([]:Bytes))
def Iv (s:Bytes)(a:Int):Int:=fA s a*4294967296+eA s (a+2)
def Uu (s:Bytes):KN:=(Iv s 0,Iv s 6,fA s 14,fA s 16,s.drop 18)
def O7 (s:Bytes):KN:=(Iv s 0,Iv s 6, -1,fA s 12,s.drop 14)
def Mj (s:Bytes):KN×Bool:=bif decide ((s.length:Int)<18) then(Qp,false) else
 bif fA s 12==33024 then(bif DT (Uu s) then(Uu s,true) else(Qp,false)) else bif DT (O7 s) then(O7 s,true) else(Qp,false)
def ip0:Ip:=(0,0,0,0,0,0,([]:Bytes))
def Qv (s:Bytes):Ip:=((cY s 1:Int),fA s 4,(cY s 8:Int),(cY s 9:Int),eA s 12,eA s 16,(s.take (fA s 2).toNat).drop 20)
def OD (s:Bytes):Ip×Bool:=bif decide ((s.length:Int)<20)||(decide (fA s 2<20)||decide (fA s 2>(s.length:Int))) then(ip0,false) else
 bif (Qx (Qv s)).2&&((Qx (Qv s)).1==s.take (fA s 2).toNat) then(Qv s,true) else(ip0,false)
def Su:dB:=(0,0,0,0,0,0,0,([]:Bytes))
def Sv (k:Int)(s:Bytes):dB:=(k,fA s 0,fA s 2,eA s 4,eA s 8,(cY s 13:Int),fA s 14,s.drop 20)
def Sw (k:Int)(s:Bytes):dB:=(k,fA s 0,fA s 2,0,0,0,0,s.drop 8)
def Mk (a b k:Int)(s:Bytes):dB×Bool:=
 bif (k==6)&&decide ((s.length:Int)≥20) then(bif (Am a b (Sv k s)).2&&((Am a b (Sv k s)).1==s) then(Sv k s,true) else(Su,false)) else
 bif (k==17)&&decide ((s.length:Int)≥8) then(bif (Am a b (Sw k s)).2&&((Am a b (Sw k s)).1==s) then(Sw k s,true) else(Su,false)) else(Su,false)
def WN:bf:=(0,0,0,0,0,0,0,0,0,0,0,0,0,0,0,([]:Bytes))
def Pk (s:Bytes):bf×Int:=
 let e:=Mj s
 bif !e.2||(e.1.2.2.2.1 !=2048) then(WN,2) else
 let i:=OD e.1.2.2.2.2
 bif !i.2 then(WN,3) else
 let g:=Mk i.1.2.2.2.2.1 i.1.2.2.2.2.2.1 i.1.2.2.2.1 i.1.2.2.2.2.2.2
 bif !g.2 then(WN,4) else
 bif !jk (e.1.1,e.1.2.1,e.1.2.2.1,i.1.1,i.1.2.1,i.1.2.2.1,i.1.2.2.2.2.1,i.1.2.2.2.2.2.1,g.1) then(WN,5) else
 ((e.1.1,e.1.2.1,e.1.2.2.1,i.1.1,i.1.2.1,i.1.2.2.1,i.1.2.2.2.2.1,i.1.2.2.2.2.2.1,g.1),0)
theorem zU (a:List Bytes)(h:a.length≤1073741824):lj a=some a:=by simp only[lj,dZ];rw[aW (by simpa using h)];rfl
theorem ru (a:List Bytes)(h:a.length≤1073741824):gr a=some a:=by simp only[gr];rw[aW (by simpa using h)];rfl
def zQ {α:Type}(a b:α):Bool:= @decide (a=b) (Classical.propDecidable _)
theorem s8 {α:Type}{a b:α}:zQ a b=true↔a=b:=by unfold zQ;exact @decide_eq_true_iff _ (Classical.propDecidable _)
theorem Ch {α:Type}{a b:α}{x:Bool}(h:x=true↔a=b):x=zQ a b:=by rw[bE,s8];exact h
theorem WZ {α:Type}[BEq α][LawfulBEq α](a b:α):(a==b)=zQ a b:=Ch aM
theorem Lm {α β:Type}(a b:α)(c d:β):zQ (a,c) (b,d)=(zQ a b&&zQ c d):=by rw[bE];simp only[ab,s8,Prod.mk.injEq]
theorem DR {α β:Type}(a b:α×β):zQ a b=(zQ a.1 b.1&&zQ a.2 b.2):=Lm a.1 b.1 a.2 b.2
theorem DS {α:Type}{a b:α}(h:a=b):zQ a b=true:=s8.2 h
theorem Jh {α:Type}{a b:α}(h:¬a=b):zQ a b=false:=by rw[Bool.eq_false_iff,ne_eq,s8];exact h
theorem Ln {α R:Type}{T:(Int→Option R)→Int→Option R}{fin hit:Option R}(p:α→α→Bool)(hp:∀x y,p x y=true↔x=y)(a b:List α)(hl:a.length=b.length)(h:a.length≤1000000000)(hs:∀i (hi:i<a.length) nx,T nx (i:Int)=cond (!(p a[i] (b[i]'(hl▸hi)))) hit (nx ((i+1:Nat):Int)))(hf:∀nx,T nx (a.length:Int)=fin): bc T fuel 0=cond (zQ a b) fin hit:=by
 have hq:∀i,i<a.length→i<b.length:=λi hi=>hl▸hi;rw[eC (fin:=fin) (hit:=hit) (λi=>zQ a[i]? b[i]?) a.length (by omega) ?hs hf]
 case hs=>
  intro i nx hi
  rw[hs i hi,List.getElem?_eq_getElem hi,List.getElem?_eq_getElem (hq i hi)]
  have:p a[i] (b[i]'(hq i hi))=zQ (some a[i]) (some (b[i]'(hq i hi))):=Ch (by rw[hp,aH])
  rw[this]
 congr 1;apply Ch;rw[ay];constructor;intro k;apply List.ext_getElem?;intro i;by_cases hi:i<a.length;exact s8.1 (k i (bw.2 hi));rw[List.getElem?_eq_none (by omega),List.getElem?_eq_none (by omega)];rintro rfl i _;exact DS rfl
theorem N8 {α:Type}{T:(Int→Option Bool)→Int→Option Bool}(p:α→α→Bool)(hp:∀x y,p x y=true↔x=y)(a b:List α)(h:a.length≤1000000000)(hs:a.length=b.length→∀i (hi:i<a.length)(hi':i<b.length) nx,T nx (i:Int)=cond (!(p a[i] b[i])) (some false) (nx ((i+1:Nat):Int)))(hf:∀nx,T nx (a.length:Int)=some true): cond ((a.length:Int) !=(b.length:Int)) (some false) (bc T fuel 0)=some (zQ a b):=by by_cases hl:a.length=b.length;rw[Ln p hp a b hl h (λi hi nx=>hs hl i hi (hl▸hi) nx) hf];rw[show((a.length:Int) !=(b.length:Int))=false by simp[hl]];cases zQ a b<;>rfl;rw[Jh (λe=>hl (by rw[e]))];rw[show((a.length:Int) !=(b.length:Int))=true by simp;omega];rfl
theorem LH (a b:List Int)(h:a.length≤1000000000):ks a b=some (zQ a b):=by unfold ks;refine N8 (λx y=>x==y) (λx y=>aM) a b h (λhl i hi hi' nx=>?_) (λnx=>?_);simp only[gL];rw[ai (by omega),bH hi,bH hi',wrap64 (by omega) (by omega)];rfl;simp only[gL];rw[af (by omega)];rfl
theorem Cv (a b:Filter)(h:a.2.2.length≤1000000000):ln a b=some (zQ a b):=by simp only[ln,LH _ _ h,ae,ba,cF,DR a b,DR a.2 b.2,WZ]
theorem ou (l:List Bytes)(h:l.length≤1000000000):dZ l=some l:=by simp only[dZ,fM h,bm]
theorem gR (f:Filter)(h:f.2.2.length≤1000000000):cK f=some f:=by simp only[cK,jG _ h,ae]
theorem pJ (f:Filter)(h:f.2.2.length≤1000000000):mR f=some f:=by simp only[mR,fM h,bm]
theorem xe (l:List Stream)(h:l.length≤1000000000):km l=some l:=by simp only[km,fM h,bm]
theorem zZ (t:List Slot)(h:t.length≤1000000000):mz t=some t:=by simp only[mz,fM h,bm]
theorem yv (s:rf)(h:s.2.length≤1000000000):ll s=some s:=by simp only[ll,jG _ h,ae]
theorem zY (s:cd)(h1:s.1.length≤1000000000)(h2:s.2.1.length≤1000000000)(h3:s.2.2.2.length≤1000000000):jt s=some s:=by simp only[jt,fM h1,zZ _ h2,yv _ h3,ae,bm]
theorem Ap (t:List Slot)(h:t.length≤1000000000):oU t=some t:=by simp only[oU,fM h,bm]
theorem tI (s:cd)(h1:s.1.length≤1000000000)(h2:s.2.1.length≤1000000000)(h3:s.2.2.2.length≤1000000000):oW s=some s:=by simp only[oW,fM h1,Ap _ h2,fM h3,ae,bm]
theorem Kt (l:List mZ)(i:Nat)(hi:i<l.length):l.take i++[(l[i].1,l[i].2.1,l[i].2.2)]=l.take (i+1):=(bC hi).symm
theorem Cs (l:List mZ)(h:l.length≤1000000000)(hx:∀x∈l,x.2.2.length≤1000000000):nH l=some l:=by unfold nH;refine(ie (λi=>(l.take i,(i:Int))) l.length (by omega) (λi nx hi=>?_) (λnx=>?_));simp only[kl];rw[ai (by omega),bH hi,wrap64 (by omega) (by omega)];simp only[ah,ae,jG _ (hx _ (aY hi))];rw[aW (by simp;omega),Kt l i hi];rfl;simp only[kl];rw[af (by omega),da];rfl
structure P9 (t:jq):Prop where
 p:t.2.1.2.2.2.length≤1000000000
 w:t.2.2.1.length≤1000000000
 x:∀x∈t.2.2.1,x.2.2.length≤1000000000
theorem GU (t:jq)(z:P9 t):qh t=some t:=by simp only[qh,su _ z.p,Cs _ z.w z.x,ae]
theorem VE {h:Host}(z:oA 1000000000 jn h):P9 h.2.2.1:=⟨z.2.2.1.2.1.2.2.2.1,z.2.2.1.2.2.1.1,λx hx=>(z.2.2.1.2.2.1.2 x hx).2.2.1⟩
theorem Cr (h:Host)(z:oA 1000000000 jn h):nG h=some h:=by have hp:h.2.2.2.2.1.length≤1000000000:=z.2.2.2.2.1.1;have hm:h.1.length≤1000000000:=z.1.1;unfold nG;simp only[zU _ (show h.1.length≤1073741824 by omega),my,fM z.2.1.1,GU _ (VE z),fM z.2.2.2.1.1,ae,bm];refine(ie (λi=>((i:Int),h.1,h.2.1,h.2.2.1,h.2.2.2.1,h.2.2.2.2.1.take i,h.2.2.2.2.2)) h.2.2.2.2.1.length (by omega) (λi nx hi=>?_) (λnx=>?_));simp only[kk];rw[ai (by omega),bH hi,wrap64 (by omega) (by omega)];simp only[ah,ae,su _ (z.2.2.2.2.1.2 _ (aY hi)).2.2.2.1];rw[aW (by simp;omega),←bC hi];rfl;simp only[kk];rw[af (by omega),da];simp only[ak,fM z.2.2.2.2.2.1.1,fM z.2.2.2.2.2.2.1.1,gR _ z.2.2.2.2.2.2.2.1.2.2.1,zY _ z.2.2.2.2.2.2.2.2.1.1.1 z.2.2.2.2.2.2.2.2.1.2.1.1 z.2.2.2.2.2.2.2.2.1.2.2.2.1,xe _ z.2.2.2.2.2.2.2.2.2.1.1,ou _ z.2.2.2.2.2.2.2.2.2.2.2.1.1,jG _ z.2.2.2.2.2.2.2.2.2.2.2.2.1.1,jG _ z.2.2.2.2.2.2.2.2.2.2.2.2.2.1.1,ae,bm]
theorem H6:∀l:List mZ,(eD l).length≤Aw (.sl ma) l
 |[]=>by simp[eD]
 |x::l=>by have:=H6 l;simp only[eD,Aw,List.flatMap_cons,aj,cn,List.sum_cons,bO]at this⊢;omega
def atF (f:Int×Int×Int×Int×Int)(s:Stream):Bool:=decide (s.1=f)
def HO:Stream:=((0,0,0,0,0),0,([]:Bytes),false)
def body (p:bf):Bytes:=p.2.2.2.2.2.2.2.2.2.2.2.2.2.2.2
def udp (p:bf):Bytes:=dA ((body p).length:Int)++body p
def NV (p:bf)(b:Int):Bool:=aw (BitVec.toNat (BitVec.ofInt (IntKind.bits .i64) p.2.2.2.2.2.2.2.2.2.2.2.2.2.1&&&BitVec.ofInt (IntKind.bits .i64) b)) !=0
def Gf (s:Stream)(p:bf):Int:=(s.2.1-p.2.2.2.2.2.2.2.2.2.2.2.1)%4294967296
def aae (s:Stream)(p:bf):Stream:=(s.1,(s.2.1+((body p).length:Int)-Gf s p)%4294967296,s.2.2.1++(body p).drop (Gf s p).toNat,NV p 1)
def Lh (l:List Stream)(p:bf):List Stream:=
 bif !jk p then l else
 match l.findIdx? (atF (GO p))with
 |none=>
  bif p.2.2.2.2.2.2.2.2.1==17 then l++[(GO p,0,udp p,false)] else
  bif NV p 2 then l++[(GO p,Int.tmod (aw (p.2.2.2.2.2.2.2.2.2.2.2.1+1)) 4294967296,([]:Bytes),false)] else l
 |some i=>
  bif p.2.2.2.2.2.2.2.2.1==17 then l.set i ((l.getD i HO).1,(l.getD i HO).2.1,(l.getD i HO).2.2.1++udp p,(l.getD i HO).2.2.2) else
  bif NV p 2 then l else
  bif (l.getD i HO).2.2.2||NV p 4 then l else
  bif decide (Gf (l.getD i HO) p≤((body p).length:Int)) then l.set i (aae (l.getD i HO) p) else l
theorem AN {s:Bytes}{a:Nat}:fA s (a:Int)=bif decide (a+2≤s.length) then((cY s a*256+cY s (a+1):Nat):Int) else-1:=by unfold fA dC;rw[aS,show decide ((0:Int)≤a∧(a:Int)+2≤(s.length:Int))=decide (a+2≤s.length) from decide_eq_decide.2 (by omega)]
theorem D7 {s t:Bytes}{a:Nat}(hl:s.length=t.length)(h0:cY s a=cY t a)(h1:cY s (a+1)=cY t (a+1)):fA s (a:Int)=fA t (a:Int):=by rw[AN,AN,hl,h0,h1]
def ox (s:Bytes):Nat:=bif fA s 12==33024 then 18 else 14
def yz (s:Bytes):Nat:=cY s (ox s+9)
def OS (k:Nat):Nat:=bif (k:Int)==6 then 16 else 6
def HQ (s:Bytes):Nat:=ox s+10
def Av (s:Bytes):Nat:=ox s+20+OS (yz s)
theorem OT (k:Nat):OS k=16∧k=6∨OS k=6∧k≠6:=by unfold OS;by_cases h:k=6;subst h;exact .inl ⟨rfl,rfl⟩;exact .inr ⟨by rw[show((k:Int)==6)=false from by rw[cU];omega];rfl,h⟩
theorem K7 (s:Bytes):ox s=18∧(fA s 12==33024)=true∨ox s=14∧(fA s 12==33024)=false:=by unfold ox;cases fA s 12==33024 with|true=>exact .inl ⟨rfl,rfl⟩|false=>exact .inr ⟨rfl,rfl⟩
def AA (s t:Bytes):Prop:=s.length=t.length∧∀i,i<HQ t∨(HQ t+2≤i∧i<Av t)∨Av t+2≤i→cY s i=cY t i
theorem Fq (t:Bytes):(ox t=14∨ox t=18)∧HQ t=ox t+10∧ox t+26≤Av t∧Av t≤ox t+36∧(Av t=ox t+36∧yz t=6∨Av t=ox t+26∧yz t≠6):=by have h1:=K7 t;have h2:=OT (yz t);unfold HQ Av;omega
theorem AA.body {s t:Bytes}(h:AA s t):ox s=ox t:=by have:=Fq t;unfold ox;have e:fA s ((12:Nat):Int)=fA t ((12:Nat):Int):=D7 h.1 (h.2 _ (by omega)) (h.2 _ (by omega));rw[show(12:Int)=((12:Nat):Int) from rfl,e]
theorem AA.kind {s t:Bytes}(h:AA s t):yz s=yz t:=by have:=Fq t;unfold yz;rw[h.body,h.2 _ (by omega)]
theorem AA.aab {s t:Bytes}(h:AA s t):HQ s=HQ t∧Av s=Av t:=by unfold HQ Av;rw[h.body,h.kind];exact⟨rfl,rfl⟩
theorem PU (a k:Nat):Int.tdiv (a:Int) (k:Int)=((a/k:Nat):Int):=(Int.ofNat_tdiv a k).symm
theorem PV (a k:Nat):Int.tmod (a:Int) (k:Int)=((a%k:Nat):Int):=(Int.ofNat_tmod a k).symm
theorem mem_iff {m:List Bytes}:dm m=true↔(∀x∈m,x.length=128)∧m.length≤64:=by simp only[dm,ab,ay,aM,aI];constructor;rintro⟨h1,h2⟩;exact⟨λx hx=>by have:=h1 x hx;omega,by omega⟩;rintro⟨h1,h2⟩;exact⟨λx hx=>by have:=h1 x hx;omega,by omega⟩
def Wy (m:List Bytes)(a n:Nat):Bytes:=(m.flatten.drop a).take n
def jC (m:List Bytes)(a n:Int):Bool:=dm m&&decide (0≤n∧0≤a∧a+n≤128*(m.length:Int))
theorem wL (m:List Bytes)(a n:Int)(h:m.length≤1000000000):ib m a n=some (jC m a n):=by unfold ib jC;rw[uf m h,ae,wrap64 (n:=128*(m.length:Int)) (by omega) (by omega)];cases hm:dm m with|false=>rfl|true=>simp only[ah,bn];by_cases h1:n≥0;by_cases h3:a≥0;by_cases h2:a≤128*(m.length:Int);rw[wrap64 (n:=128*(m.length:Int)-a) (by omega) (by omega)];simp only[ai h1,ai h2,ai h3,ah,ae];exact congrArg some (decide_eq_decide.2 (by omega));simp only[ai h1,af h2,ai h3,ah,ak,ae];exact congrArg some (af (by omega)).symm;simp only[ai h1,af h3,ah,ak,ae];exact congrArg some (af (by omega)).symm;simp only[af h1,ak,ae];exact congrArg some (af (by omega)).symm
def Ab (d p:Int)(w:Bool)(x:aQ):Bool:=mD d p x&&(x.2.2.2|| !w)
def si (l:List aQ)(d p:Int)(w:Bool):Int:=match l.findIdx? (Ab d p w)with|some i=>(l.getD i yH).2.2.1|none=> -1
theorem ML (l:List aQ)(d p:Int)(w:Bool)(h:l.length≤1000000000):oX l d p w=some (si l d p w):=by unfold oX si;refine Eq.trans (vD (p:=Ab d p w) (hit:=λi=>aa (idx l i) λx=>some x.2.2.1) (fin:=some (-1)) l (by omega) (λi hi nx=>?_) (λnx=>?_)) ?_;simp only[lF];rw[ai (by omega),bH hi,wrap64 (by omega) (by omega)];simp only[ah,ae,Ab,mD];cases l[i].1==d<;>cases l[i].2.1==p<;>cases l[i].2.2.2<;>cases w<;>rfl;simp only[lF];rw[af (by omega)];rfl;cases hf:l.findIdx? (Ab d p w)with|none=>rfl|some i=>obtain⟨hi,_⟩:=List.findIdx?_eq_some_iff_getElem.1 hf;simp only[bH hi,ae,db hi]
theorem L1 {l:List aQ}(h:dQ l=true){i:Nat}(hi:i<l.length):yG l[i]=true∧∀j (hj:j<i),mD l[i].1 l[i].2.1 (l[j]'(by omega))=false:=by simp only[dQ,ab,ay,bw]at h;have:=h.2 i hi;simp only[yF,ab,ay,bw,db hi,aA]at this;exact⟨this.1,λj hj=>by have:=this.2 j hj;rwa[db (by omega)]at this⟩
theorem JI {d p:Int}{m:aQ}:mD d p m=true↔m.1=d∧m.2.1=p:=by simp[mD]
theorem Mg {l:List aQ}(h:dQ l=true)(d p:Int)(w:Bool)(h1:0≤si l d p w):si l d p w≤63∧0≤p∧p≤1023:=by unfold si at h1⊢;cases hf:l.findIdx? (Ab d p w)with|none=>rw[hf]at h1;simp at h1|some i=>obtain⟨hi,h2,_⟩:=List.findIdx?_eq_some_iff_getElem.1 hf;have h3:=(L1 h hi).1;simp only[Ab,ab,JI]at h2;simp only[yG,ab,bq]at h3;simp only[db hi];omega
def mH (l:List aQ)(m:List Bytes)(d:Int)(w:Bool):Nat→Nat→Nat→Option (List (Int×Int))
 |0,_,_=>some []
 |n+1,a,r=>if r=0 then some [] else
  if 0≤si l d ((a/128:Nat):Int) w∧si l d ((a/128:Nat):Int) w<(m.length:Int) then
   (mH l m d w n (a+min (128-a%128) r) (r-min (128-a%128) r)).map (λq=>(si l d ((a/128:Nat):Int) w*128+((a%128:Nat):Int),((min (128-a%128) r:Nat):Int))::q)
  else none
theorem F7 {m:List Bytes}(hm:dm m=true){f:Int}(h0:0≤f):jC m (f*128) 128=decide (f<(m.length:Int)):=by rw[jC,hm,bn];exact decide_eq_decide.2 (by omega)
theorem ve {l:List aQ}{m:List Bytes}(hl:dQ l=true)(hL:l.length≤1000000000)(hm:dm m=true)(d:Int)(w:Bool):∀(n a r f:Nat)(acc:List (Int×Int)),r≤n→n<f→acc.length+n≤1000000→a≤9223372036854775807→
 bc (fF (λ(y10:Int) (y11:Int) (y12:List Int) (y13:List Int)=>some (y12,y13,true)) (λ(y14:Int) (y15:Int) (y16:List Int) (y17:List Int) (y18:Bool) (y19:List Int) (y20:List Int)=>some (y16,y17,y18)) l d w ([]:List Int) ([]:List Int) false m) f ((a:Int),(r:Int),acc.map (·.1),acc.map (·.2))
  =match mH l m d w n a r with|some q=>some ((acc++q).map (·.1),(acc++q).map (·.2),true)|none=>some ([],[],false)
 |n,a,r,0,acc,_,hf,_,_=>by omega
 |0,a,r,f+1,acc,hr,hf,hA,ha=>by rw[bc];simp only[fF];rw[af (by omega)];simp[mH]
 |n+1,a,r,f+1,acc,hr,hf,hA,ha=>by
  have h64:=(mem_iff.1 hm).2;rw[bc];simp only[fF,mH];by_cases h0:r=0;rw[af (by omega),ar h0];simp;have e1:Int.tdiv (a:Int) 128=((a/128:Nat):Int):=PU a 128;have e2:Int.tmod (a:Int) 128=((a%128:Nat):Int):=PV a 128;have hin:=Mg hl d ((a/128:Nat):Int) w;rw[ai (show(r:Int)>0 by omega),ai (show(a:Int)≥0 by omega),aq h0];simp only[ah];rw[aq (by omega),e1,e2,wrap64 (n:=((a/128:Nat):Int)) (by omega) (by omega),ML l _ _ w hL,ae,aq (by omega),wrap64 (n:=128-((a%128:Nat):Int)) (by omega) (by omega)];obtain⟨c,hc⟩:∃c,min (128-a%128) r=c:=⟨_,rfl⟩
  rw[hc,show(if 128-((a%128:Nat):Int)<(r:Int) then 128-((a%128:Nat):Int) else(r:Int))=(c:Int) by split<;>omega];generalize hP:si l d ((a/128:Nat):Int) w=P at hin⊢;by_cases hP0:0≤P;have hin:=hin hP0;rw[af (show¬P<0 by omega),wrap64 (n:=P*128) (by omega) (by omega),wL m _ _ (by omega),F7 hm hP0];simp only[ak,ae];by_cases hP1:P<(m.length:Int);rw[ai hP1,ar ⟨hP0,hP1⟩];simp only[ax,ak];rw[aW (by simp;omega),aW (by simp;omega),wrap64 (n:=P*128+((a%128:Nat):Int)) (by omega) (by omega),wrap64 (n:=(a:Int)+(c:Int)) (by omega) (by omega),wrap64 (n:=(r:Int)-(c:Int)) (by omega) (by omega)];have key:=ve hl hL hm d w n (a+c) (r-c) f (acc++[(P*128+((a%128:Nat):Int),(c:Int))]) (by omega) (by omega) (by simp;omega) (by omega);rw[show((a+c:Nat):Int)=(a:Int)+(c:Int) by omega,show((r-c:Nat):Int)=(r:Int)-(c:Int) by omega,List.map_append,List.map_append]at key;refine Eq.trans key ?_;cases mH l m d w n (a+c) (r-c)with|none=>rfl|some q=>simp
  rw[af hP1,aq (by omega)];rfl;rw[aq (by omega),ai (by omega)];rfl
def kW (l:List aQ)(m:List Bytes)(d a n:Int)(w:Bool):List (Int×Int)×Bool:=
 bif dQ l&&(dm m&&cx n 0 4096) then
  (bif n==0 then([],true) else bif decide (a<0) then([],false) else match mH l m d w n.toNat a.toNat n.toNat with|some q=>(q,true)|none=>([],false))
 else([],false)
theorem Kz (l:List aQ)(m:List Bytes)(d a n:Int)(w:Bool)(hl:l.length≤1000000000)(hm:m.length≤1000000000)(ha:a≤9223372036854775807):nV l m d a n w=some ((kW l m d a n w).1.map (·.1),(kW l m d a n w).1.map (·.2),(kW l m d a n w).2):=by
 have hfu:=ee;unfold nV kW;simp only[CZ l hl,uf m hm,ch,ae];cases hB:dQ l with|false=>rfl|true=>?_
 cases hM:dm m with|false=>rfl|true=>?_
 cases hN:cx n 0 4096 with|false=>rfl|true=>?_
 have hn:=bq.1 hN;simp only[ax,ak,ae,df,ah];obtain⟨n,rfl⟩:=bJ hn.1;cases h0:((n:Int)==0)with
 |true=>
  have:n=0:=by simpa using h0
  subst this;obtain⟨f,hf⟩:∃f,fuel=f+1:=⟨fuel-1,by omega⟩
  rw[hf,bc];rfl
 |false=>
  have hn0:n≠0:=by simpa using h0
  by_cases hA:a<0;obtain⟨f,hf⟩:∃f,fuel=f+1:=⟨fuel-1,by omega⟩
  rw[ai hA,hf,bc];simp only[fF];rw[ai (by omega),af (by omega)];rfl;rw[af hA];simp only[ak];obtain⟨a,rfl⟩:=bJ (show 0≤a by omega);refine Eq.trans (ve hB hl hM d w n a n fuel [] (by omega) (by omega) (by simp;omega) (by omega)) ?_;simp only[aS];cases mH l m d w n a n<;>rfl
def tF (x:Bytes)(o:Nat)(t:Bytes):Bytes:=x.take o++(t++x.drop (o+t.length))
theorem Bh {x:Bytes}{o:Nat}{t:Bytes}(h:o+t.length≤x.length):(tF x o t).length=x.length:=by simp only[tF,aj,bh,aZ];omega
theorem Mm {x:Bytes}{o:Nat}{t:Bytes}(h:o+t.length≤x.length):yW x (o:Int) t=tF x o t:=by unfold yW dC;rw[ai ⟨by omega,by omega⟩];simp only[ah,aS,tF,aE]
def qK:Nat→List Bytes→Nat→Bytes→List Bytes
 |0,m,_,_=>m
 |n+1,m,a,s=>if s.length=0 then m else
  qK n (m.set (a/128) (tF (m.getD (a/128) []) (a%128) (s.take (128-a%128)))) (a+min (128-a%128) s.length) (s.drop (128-a%128))
def sM (m:List Bytes):Prop:=(∀x∈m,x.length=128)∧m.length≤64
theorem ni {m:List Bytes}:dm m=true↔sM m:=mem_iff
theorem Bi {m:List Bytes}{p:Nat}{x:Bytes}(h:sM m)(hx:x.length=128):sM (m.set p x):=by refine⟨λy hy=>?_,by rw[aG];exact h.2⟩;rcases List.mem_or_eq_of_mem_set hy with g|g;exact h.1 y g;rw[g];exact hx
theorem uj {m:List Bytes}(h:sM m){a:Nat}{s:Bytes}(hs:s.length≠0)(ha:a+s.length≤128*m.length): ∃(hp:a/128<m.length),(m[a/128]'hp).length=128∧(tF (m[a/128]'hp) (a%128) (s.take (128-a%128))).length=128:=by
 have hp:a/128<m.length:=by omega
 have hl:=h.1 _ (aY hp);refine⟨hp,hl,?_⟩;rw[Bh (by rw[bh,hl];omega),hl]
theorem rT:∀(n:Nat){m:List Bytes}{a:Nat}{s:Bytes},sM m→a+s.length≤128*m.length→sM (qK n m a s)∧(qK n m a s).length=m.length
 |0,m,a,s,h,_=>⟨h,rfl⟩
 |n+1,m,a,s,h,ha=>by rw[qK];split;exact⟨h,rfl⟩;rename_i hs;obtain⟨hp,hl,ho⟩:=uj h hs ha;rw[db hp];have:=rT n (m:=m.set (a/128) (tF m[a/128] (a%128) (s.take (128-a%128)))) (a:=a+min (128-a%128) s.length) (s:=s.drop (128-a%128)) (Bi h ho) (by rw[aG,aZ];omega);rw[aG]at this;exact this
theorem tJ {R:Type}(K:Int→Bytes→List Bytes→Option R)(K':List Bytes→Option R)(hK:∀a m,K a [] m=K' m):∀(n:Nat)(m:List Bytes)(a:Nat)(s:Bytes)(f:Nat),s.length≤n→n<f→sM m→a+s.length≤128*m.length→
 bc (gN K ([]:List Bytes)) f ((a:Int),s,m)=K' (qK n m a s)
 |n,m,a,s,0,_,hf,_,_=>by omega
 |n,m,a,s,f+1,hs,hf,hm,ha=>by
  rw[bc];simp only[gN];by_cases h0:s.length=0;have:s=[]:=bt h0;subst this;rw[af (by simp),ak,hK];cases n<;>simp[qK];cases n with
  |zero=>omega
  |succ n=>
   obtain⟨hp,hl,ho⟩:=uj hm h0 ha;have h64:=hm.2;have e1:Int.tdiv (a:Int) 128=((a/128:Nat):Int):=PU a 128;have e2:Int.tmod (a:Int) 128=((a%128:Nat):Int):=PV a 128;rw[ai (by omega),ah,aq (by omega),aq (by omega),aq (by omega),e1,e2,wrap64 (n:=((a/128:Nat):Int)) (by omega) (by omega),wrap64 (n:=128-((a%128:Nat):Int)) (by omega) (by omega),bH hp,ae];obtain⟨c,hc⟩:∃c,min (128-a%128) s.length=c:=⟨_,rfl⟩
   rw[show(if 128-((a%128:Nat):Int)<(s.length:Int) then 128-((a%128:Nat):Int) else(s.length:Int))=(c:Int) by split<;>omega];have ht:s.take c=s.take (128-a%128):=by by_cases h3:128-a%128≤s.length;rw[←hc,Nat.min_eq_left h3];rw[←hc,Nat.min_eq_right (by omega),br (aL _),br (by omega)]
   have hdr:s.drop c=s.drop (128-a%128):=by by_cases h3:128-a%128≤s.length;rw[←hc,Nat.min_eq_left h3];rw[←hc,Nat.min_eq_right (by omega),bR (aL _),bR (by omega)]
   have hs1:sub s 0 (c:Int)=some (s.take (128-a%128)):=by rw[←ht];unfold sub;rw[ar (by omega)];simp
   have hs2:sub s (c:Int) (s.length:Int)=some (s.drop (128-a%128)):=by rw[←hdr];unfold sub;rw[ar (by omega)];simp
   rw[hs1,ae,xu _ _ _ (by omega),ae,ae,ae,hs2,ae,Mm (by rw[bh,hl];omega),wrap64 (n:=(a:Int)+(c:Int)) (by omega) (by omega),aS];rw[qK,aq h0,db hp,hc,show(a:Int)+(c:Int)=((a+c:Nat):Int) by omega];exact tJ K K' hK n _ _ _ f (by rw[aZ];omega) (by omega) (Bi hm ho) (by rw[aG,aZ];omega)
def n0 (m:List Bytes)(a:Int)(s:Bytes):List Bytes×Bool:=bif jC m a (s.length:Int) then(qK s.length m a.toNat s,true) else(m,false)
theorem HI (m:List Bytes)(a:Int)(s:Bytes)(h:m.length≤1000000000)(hs:s.length≤1000000000):kC m a s=some (n0 m a s):=by
 have hfu:=ee;unfold kC n0;rw[ru m (by omega),ae,wL m _ _ h,ae];cases hw:jC m a (s.length:Int)with|false=>rfl|true=>?_
 simp only[jC,ab,aI]at hw;obtain⟨a,rfl⟩:=bJ hw.2.2.1;simp only[ax,ak,ah,aS];exact tJ _ (λm=>some (m,true)) (λ_ _=>rfl) s.length m a s fuel (aL _) (by omega) (ni.1 hw.1) (by omega)
theorem xa (m:List Bytes)(a:Int)(s:Bytes):(n0 m a s).1.length=m.length:=by
 unfold n0;cases hw:jC m a (s.length:Int)with|false=>rfl|true=>?_
 simp only[jC,ab,aI]at hw;exact(rT s.length (ni.1 hw.1) (by omega)).2
def Al:List (Int×Int)→List Bytes→Bytes→List Bytes
 |[],m,_=>m
 |p::q,m,s=>Al q (n0 m p.1 (s.take p.2.toNat)).1 (s.drop p.2.toNat)
theorem FA:∀(q:List (Int×Int))(m:List Bytes)(s:Bytes),(Al q m s).length=m.length
 |[],m,s=>rfl
 |p::q,m,s=>by rw[Al,FA q,xa]
def zE (q:List (Int×Int)):Int:=(q.map (·.2)).sum
theorem IU:∀(q:List (Int×Int)),(∀p∈q,0≤p.2)→0≤zE q
 |[],_=>dS _
 |p::q,h=>by have:=IU q (λx hx=>h x (by simp[hx]));have:=h p (by simp);simp only[zE,cn,List.sum_cons]at*;omega
theorem Mo {p:Int×Int}{q:List (Int×Int)}(hc:∀x∈p::q,0≤x.2){s:Bytes}(hs:(s.length:Int)=zE (p::q)):0≤p.2∧p.2≤(s.length:Int)∧((s.drop p.2.toNat).length:Int)=zE q:=by
 have h1:=hc p (by simp);have h2:=IU q (λx hx=>hc x (by simp[hx]));have h3:zE (p::q)=p.2+zE q:=by simp[zE]
 rw[h3]at hs;refine⟨h1,by omega,?_⟩;rw[aZ];omega
theorem KF {s:Bytes}{c:Int}(h0:0≤c)(h1:c≤(s.length:Int)):sub s 0 c=some (s.take c.toNat):=by unfold sub;rw[ar (by omega)];simp
theorem MP {s:Bytes}{c:Int}(h0:0≤c)(h1:c≤(s.length:Int)):sub s c (s.length:Int)=some (s.drop c.toNat):=by unfold sub;rw[ar (by omega)];simp
theorem wK (K:Bytes→Int→List Bytes→Option (List Bytes×Bool))(hK:∀s i m,K s i m=some (m,true)):∀(rest pre:List (Int×Int))(m:List Bytes)(s:Bytes)(f:Nat),rest.length<f→pre.length+rest.length≤1000000→(∀x∈rest,0≤x.2)→(s.length:Int)=zE rest→m.length≤1000000000→s.length≤1000000→
 bc (gZ K ((pre++rest).map (·.1)) ((pre++rest).map (·.2)) ([]:List Bytes)) f (s,(pre.length:Int),m)=some (Al rest m s,true)
 |rest,pre,m,s,0,hf,_,_,_,_,_=>by omega
 |[],pre,m,s,f+1,_,_,_,_,_,_=>by rw[bc];simp only[gZ];rw[af (by simp),ak,hK];rfl
 |p::q,pre,m,s,f+1,hf,hn,hc,hs,hm,hl=>by
  obtain⟨h1,h2,h3⟩:=Mo hc hs;simp only[bO]at hf hn;have hi:pre.length<(pre++p::q).length:=by simp
  have hp:(pre++p::q)[pre.length]=p:=by simp
  have i1:idx ((pre++p::q).map (·.1)) (pre.length:Int)=some p.1:=by rw[bH (by simp),List.getElem_map,hp]
  have i2:idx ((pre++p::q).map (·.2)) (pre.length:Int)=some p.2:=by rw[bH (by simp),List.getElem_map,hp]
  rw[bc];simp only[gZ];rw[ai (by simp;omega),i1,i2,wrap64 (by omega) (by omega)];simp only[ah,ae,KF h1 h2,MP h1 h2,HI m _ _ hm (show(s.take p.2.toNat).length≤1000000000 by rw[bh];omega)];have key:=wK K hK q (pre++[p]) (n0 m p.1 (s.take p.2.toNat)).1 (s.drop p.2.toNat) f (by omega) (by simp;omega) (λx hx=>hc x (by simp[hx])) h3 (by rw[xa];exact hm) (by rw[aZ];omega);have el:((pre++[p]).length:Int)=(pre.length:Int)+1:=by simp
  rw[aE,List.singleton_append,el]at key;rw[Al];exact key
theorem yS (l:List aQ)(m:List Bytes)(d:Int)(w:Bool):∀(n a r:Nat)(q:List (Int×Int)),r≤n→mH l m d w n a r=some q→zE q=(r:Int)∧(∀p∈q,0≤p.2)∧q.length≤n
 |0,a,r,q,hr,h=>by simp only[mH,aH]at h;subst h;exact⟨by show(0:Int)=_;omega,by simp,by simp⟩
 |n+1,a,r,q,hr,h=>by simp only[mH]at h;split at h;simp only[aH]at h;subst h;exact⟨by show(0:Int)=_;omega,by simp,by simp⟩;split at h;simp only[Option.map_eq_some_iff]at h;obtain⟨q',h1,rfl⟩:=h;obtain⟨i1,i2,i3⟩:=yS l m d w n _ _ q' (by omega) h1;refine⟨?_,?_,by simp only[bO];omega⟩;simp only[zE,cn,List.sum_cons]at i1⊢;rw[i1];omega;intro p hp;rcases bg.1 hp with rfl|hp;show(0:Int)≤((min (128-a%128) r:Nat):Int);omega;exact i2 p hp;cases h
theorem Ko (l:List aQ)(m:List Bytes)(d a n:Int)(w:Bool)(h:(kW l m d a n w).2=true):zE (kW l m d a n w).1=n∧(∀p∈(kW l m d a n w).1,0≤p.2)∧(kW l m d a n w).1.length≤4096∧n≤4096:=by
 unfold kW at h⊢;cases hB:dQ l&&(dm m&&cx n 0 4096)with|false=>rw[hB]at h;simp at h|true=>?_
 rw[hB]at h;simp only[ab,bq]at hB;simp only[ah]at h⊢;cases h0:n==0 with
 |true=>
  have:n=0:=by simpa using h0
  subst this;exact⟨rfl,by simp,by simp,by omega⟩
 |false=>rw[h0]at h;simp only[ak]at h⊢;cases ha:decide (a<0)with|true=>rw[ha]at h;simp at h|false=>rw[ha]at h;simp only[ak]at h⊢;cases hq:mH l m d w n.toNat a.toNat n.toNat with|none=>rw[hq]at h;cases h|some q=>obtain⟨i1,i2,i3⟩:=yS l m d w _ _ _ q (aL _) hq;exact⟨by simp only;rw[i1];omega,i2,by simp only;omega,by omega⟩
def pF (l:List aQ)(m:List Bytes)(d a:Int)(s:Bytes)(w:Bool):List Bytes×Bool:=
 bif (kW l m d a (s.length:Int) w).2 then(Al (kW l m d a (s.length:Int) w).1 m s,true) else(m,false)
theorem yY (l:List aQ)(m:List Bytes)(d a:Int)(s:Bytes)(w:Bool):(pF l m d a s w).1.length=m.length:=by unfold pF;cases (kW l m d a (s.length:Int) w).2 with|false=>rfl|true=>exact FA _ _ _
theorem u7 (l:List aQ)(m:List Bytes)(d a:Int)(s:Bytes)(hl:l.length≤1000000000)(hm:m.length≤1000000000)(ha:a≤9223372036854775807):kY l m d a s=some (pF l m d a s true):=by
 have hfu:=ee;unfold kY pF;rw[Kz l m d a _ true hl hm ha,ae,ru m (by omega),ae];have hS:=Ko l m d a (s.length:Int) true;generalize kW l m d a (s.length:Int) true=r at hS⊢;cases hr:r.2 with|false=>rfl|true=>?_
 obtain⟨h1,h2,h3,h4⟩:=hS hr;simp only[ax,ak,ah];exact wK _ (λ_ _ _=>rfl) r.1 [] m s fuel (by omega) (by simp;omega) h2 h1.symm hm (by omega)
def NJ (x:aQ):aQ:=(x.1,x.2.1,x.2.2.1,true)
theorem getD_map {l:List aQ}{i:Nat}(hi:i<l.length):(l.map NJ).getD i yH=NJ (l.getD i yH):=by rw[db (by simpa using hi),db hi,List.getElem_map]
theorem CC (l:List aQ):dQ (l.map NJ)=dQ l:=by
 unfold dQ;rw[List.length_map];congr 1;rw[bE,ay,ay];have key:∀i,i<l.length→yF (l.map NJ) i=yF l i:=by
  intro i hi;unfold yF;rw[getD_map hi];congr 1;rw[bE,ay,ay];constructor;intro h j hj;have hjl:j<l.length:=by have:=bw.1 hj;omega
  have:=h j hj;rw[getD_map hjl]at this;exact this;intro h j hj;have hjl:j<l.length:=by have:=bw.1 hj;omega
  rw[getD_map hjl];exact h j hj
 constructor;intro h i hi;rw[←key i (bw.1 hi)];exact h i hi;intro h i hi;rw[key i (bw.1 hi)];exact h i hi
theorem Mh (l:List aQ)(d p:Int):si (l.map NJ) d p true=si l d p false:=by
 unfold si;rw[List.findIdx?_map];have e:(Ab d p true∘NJ)=Ab d p false:=by funext x;simp only[Function.comp,Ab,mD,NJ,bZ,Bool.or_true,eY]
 rw[e];cases hf:l.findIdx? (Ab d p false)with|none=>rfl|some i=>obtain⟨hi,_⟩:=List.findIdx?_eq_some_iff_getElem.1 hf;simp only[getD_map hi];rfl
theorem Bk (l:List aQ)(m:List Bytes)(d:Int):∀n a r,mH (l.map NJ) m d true n a r=mH l m d false n a r
 |0,a,r=>rfl
 |n+1,a,r=>by simp only[mH,Mh,Bk l m d n]
theorem OF (l:List aQ)(m:List Bytes)(d a:Int)(s:Bytes):pF (l.map NJ) m d a s true=pF l m d a s false:=by
 have e:kW (l.map NJ) m d a (s.length:Int) true=kW l m d a (s.length:Int) false:=by simp only[kW,CC,Bk]
 simp only[pF,e]
theorem Aq (l:List aQ)(m:List Bytes)(d a:Int)(s:Bytes)(hl:l.length≤1000000000)(hm:m.length≤1000000000)(ha:a≤9223372036854775807):mJ l m d a s=some (pF l m d a s false):=by unfold mJ;refine ie (λi=>((l.take i).map NJ,(i:Int))) l.length (by omega) (λi nx hi=>?_) (λnx=>?_);simp only[jx];rw[ai (by omega),bH hi,wrap64 (by omega) (by omega)];simp only[ah,ae];rw[aW (by simp;omega),bC hi,List.map_append];rfl;simp only[jx];rw[af (by omega),ak,da,u7 _ m d a s (by rw[List.length_map];exact hl) hm ha,OF];rfl
def Ij (d:Int×Int×Int×Int×Int×Int):Bool:=cx d.1 0 3&&(cx d.2.1 0 3&&(cx d.2.2.1 0 65535&&(cx d.2.2.2.2.1 0 65535&&(cx d.2.2.2.2.2 0 65535&&cx d.2.2.2.1 0 4294967295))))
theorem MF (d:Int×Int×Int×Int×Int×Int):qp d=some (Ij d):=by simp only[qp,ch,ae,Ij];cases cx d.1 0 3<;>cases cx d.2.1 0 3<;>cases cx d.2.2.1 0 65535<;>cases cx d.2.2.2.2.1 0 65535<;>cases cx d.2.2.2.2.2 0 65535<;>rfl
def N7 (d:Int×Int×Int×Int×Int×Int):Bytes:=
 bif Ij d then((((bytesOf [gA d.1,gA d.2.1]++dA d.2.2.1)++dU d.2.2.2.1)++dA d.2.2.2.2.1)++dA d.2.2.2.2.2)++dU 0 else []
theorem ON (d:Int×Int×Int×Int×Int×Int):lu d=some (N7 d):=by
 have h1:=cr d.2.2.1;have h2:=cZ d.2.2.2.1;have h3:=cr d.2.2.2.2.1;have h4:=cr d.2.2.2.2.2;have h5:=cZ 0;have h0:(bytesOf [gA d.1,gA d.2.1]).length=2:=rfl;unfold lu N7;rw[MF,ae];cases Ij d with|false=>rfl|true=>?_
 simp only[ax,ak,ah,lO,iC,ae];rw[aW (by omega),aW (by simp only[aj];omega),aW (by simp only[aj];omega),aW (by simp only[aj];omega),aW (by simp only[aj];omega)]
def mX (r:Int×Int×Int×Int):Int:=bif ef r then aw (r.2.1-ed r) else 0
def sk (r:Int×Int×Int×Int)(c:Int):Int:=bif !ef r||decide (c<0) then-1 else r.1+Int.tmod c r.2.1*16
theorem rG {r:Int×Int×Int×Int}(h:ef r=true):0≤r.1∧r.1≤130944∧(r.2.1=2∨r.2.1=4∨r.2.1=8∨r.2.1=16)∧0≤r.2.2.1∧r.2.2.1≤2*r.2.1-1∧0≤r.2.2.2∧r.2.2.2≤2*r.2.1-1:=by simp only[ef,ab,bq]at h;exact⟨h.1.1,h.1.2,eN.1 h.2.1,h.2.2.1.1,h.2.2.1.2,h.2.2.2.1.1,h.2.2.2.1.2⟩
theorem FP (r:Int×Int×Int×Int)(c:Int): -1≤sk r c∧sk r c≤200000:=by
 unfold sk;cases hc: !ef r||decide (c<0)with
 |true=>exact⟨dS _,by simp⟩
 |false=>
  simp only[Bool.or_eq_false_iff,Bool.not_eq_false',decide_eq_false_iff_not]at hc;have h:=rG hc.1;have h2:0≤Int.tmod c r.2.1∧Int.tmod c r.2.1<r.2.1:=by rw[dN (by omega)];exact⟨dX _ (by omega),ez _ (by omega)⟩
  simp only[ak];omega
def dk (l:List aQ)(m:List Bytes)(d:Int)(r:Int×Int×Int×Int)(s:Bytes):List Bytes×(Int×Int×Int×Int)×Bool:=
 bif (mX r==0)||((s.length:Int) !=16) then(m,r,false) else
 bif !(pF l m d (sk r r.2.2.2) s true).2 then(m,r,false) else
 ((pF l m d (sk r r.2.2.2) s true).1,(r.1,r.2.1,r.2.2.1,Int.tmod (r.2.2.2+1) (2*r.2.1)),true)
theorem Ki {l:List aQ}{m:List Bytes}{d a:Int}{s:Bytes}{w:Bool}(h:(pF l m d a s w).2=false):(pF l m d a s w).1=m:=by unfold pF at h⊢;cases hr:(kW l m d a (s.length:Int) w).2 with|false=>rfl|true=>rw[hr]at h;cases h
theorem wc (r:Int×Int×Int×Int):k6 r=some (mX r):=by
 unfold k6 mX;rw[zt,ae];cases ef r with|false=>rfl|true=>?_
 simp only[ax,ak,ah,FY,ae]
theorem KB (r:Int×Int×Int×Int)(c:Int):kz r c=some (sk r c):=by
 have hin:=FP r c;unfold kz;rw[zt,ae];unfold sk at hin⊢;cases hb:ef r with|false=>rfl|true=>?_
 have h:=rG hb;by_cases hc:c<0;rw[ai hc];rfl;rw[hb,af hc]at hin;rw[af hc];have h2:0≤Int.tmod c r.2.1∧Int.tmod c r.2.1<r.2.1:=by rw[dN (by omega)];exact⟨dX _ (by omega),ez _ (by omega)⟩
 simp only[ax,ak,ae,Bool.or_self]at hin⊢;rw[aq (by omega),wrap64 (n:=16*Int.tmod c r.2.1) (by omega) (by omega),wrap64 (by omega) (by omega)];congr 1;omega
theorem FW (l:List aQ)(m:List Bytes)(d:Int)(r:Int×Int×Int×Int)(s:Bytes)(hl:l.length≤1000000000)(hm:m.length≤1000000000):oN l m d r s=some (dk l m d r s):=by
 have hA:=FP r r.2.2.2;unfold oN dk;simp only[wc,ae,KB,u7 l m d _ s hl hm (show sk r r.2.2.2≤9223372036854775807 by omega),ru m (show m.length≤1073741824 by omega)];cases hf:mX r==0 with|true=>rfl|false=>?_
 cases (s.length:Int) !=16 with|true=>rfl|false=>?_
 have hb:ef r=true:=by cases hb:ef r with|true=>rfl|false=>unfold mX at hf;rw[hb]at hf;cases hf
 have h:=rG hb;simp only[ak,ae,Bool.or_self];cases hp:(pF l m d (sk r r.2.2.2) s true).2 with|false=>simp only[bZ,ah,Ki hp]|true=>simp only[ax,ak];rw[wrap64 (n:=2*r.2.1) (by omega) (by omega),aq (by omega),wrap64 (n:=r.2.2.2+1) (by omega) (by omega)]
theorem CL {p:du}(h:dy p=true):0≤p.1∧p.1≤130944∧1≤p.2.1∧p.2.1≤512∧0≤p.2.2.1∧p.2.2.1≤16:=by simp only[dy,ab,bq]at h;exact⟨h.1.1,h.1.2,h.2.1.1,h.2.1.2,h.2.2.1.1,h.2.2.1.2⟩
def Jc (p:du)(i:Int):Int:=bif !dy p|| !cx i 0 (p.2.2.1-1) then-1 else p.1+i*p.2.1
theorem NY {p:du}{i:Int}(hp:dy p=true)(hi:cx i 0 (p.2.2.1-1)=true):aw (p.1+aw (i*p.2.1))=p.1+i*p.2.1:=by have h:=CL hp;have h2:=bq.1 hi;have h3:0≤i*p.2.1:=Int.mul_nonneg h2.1 (by omega);have h4:i*p.2.1≤16*512:=Int.mul_le_mul (by omega) (by omega) (by omega) (by omega);rw[wrap64 (n:=i*p.2.1) (by omega) (by omega),wrap64 (by omega) (by omega)]
theorem ME (p:du)(i:Int)(h:p.2.2.2.length≤1000000000):iD p i=some (Jc p i):=by
 unfold iD Jc;rw[vd p h,ae];cases hp:dy p with|false=>rfl|true=>?_
 have hin:=CL hp;rw[wrap64 (n:=p.2.2.1-1) (by omega) (by omega),ch];cases hi:cx i 0 (p.2.2.1-1)with|false=>rfl|true=>?_
 simp only[ax,ak,ae,Bool.or_self,NY hp hi]
def upto (n:Nat):List Int:=(List.range n).map Int.ofNat
theorem KH (n:Nat):upto (n+1)=upto n++[(n:Int)]:=by simp[upto,List.range_succ]
theorem NI {n i:Nat}(h:i<n):(upto n).getD i 0=(i:Int):=by rw[db (by simpa[upto]using h)];simp[upto]
theorem Hy (a b:Int)(n:Nat)(hn:n≤16):dy (a,b,(n:Int),upto n)=dy (a,b,(n:Int),[]):=by
 unfold dy;congr 3;have h1:(List.range (upto n).length).all (tB (n:Int) (upto n))=true:=by
  rw[ay];intro i hi;have hi:i<n:=by simpa[upto]using hi
  simp only[tB,NI hi,ab,bq,aA];refine⟨by omega,?_⟩;rw[Bool.eq_false_iff,ne_eq,List.contains_iff_mem];intro hm;simp only[upto,←List.map_take,List.mem_map]at hm;obtain⟨j,hj,he⟩:=hm;rw[List.take_range]at hj;have:=bw.1 hj;have:(j:Int)=(i:Int):=he;omega
 rw[h1];rfl
def gY (a b n:Int):du×Bool:=bif dy (a,b,n,[]) then((a,b,n,upto n.toNat),true) else((0,0,0,[]),false)
theorem wJ (a b n:Int):mL a b n=some (gY a b n):=by
 have hfu:=ee;unfold mL gY;by_cases hn:0≤n∧n≤16;obtain⟨n,rfl⟩:=bJ hn.1;have h16:n≤16:=by omega
 refine ie (λi=>((i:Int),a,b,(n:Int),upto i)) n (by omega) (λi nx hi=>?_) (λnx=>?_);simp only[iO];rw[ai (show(i:Int)<n by omega),ai (show(n:Int)≤16 by omega)];simp only[ah,ae];rw[aW (by simp[upto];omega),wrap64 (by omega) (by omega),KH];rfl;simp only[iO];rw[af (show¬(n:Int)<n by omega)];simp only[ak,ae,vd (a,b,(n:Int),upto n) (show(upto n).length≤1000000000 by simp[upto];omega),Hy a b n h16,aS];cases dy (a,b,(n:Int),[])<;>rfl;have hb:dy (a,b,n,[])=false:=by cases hp:dy (a,b,n,[])with|false=>rfl|true=>have:=CL hp;exact absurd ⟨this.2.2.2.2.1,this.2.2.2.2.2⟩ hn
 obtain⟨f,hf⟩:∃f,fuel=f+1:=⟨fuel-1,by omega⟩
 rw[hf,bc];simp only[iO];have hc:(cond (decide ((0:Int)<n)) (some (decide (n≤16))) (some false))=some false:=by by_cases h0:(0:Int)<n;rw[ai h0,af (by omega)];rfl;rw[af h0];rfl
 rw[hc];simp only[ae,ak,vd (a,b,n,[]) (show([]:List Int).length≤1000000000 by simp),hb];rfl
def descOf (p:du)(b:Int):Bytes:=N7 (3,0,p.2.1,Jc p b,0,b)
def lW (l:List aQ)(d:Int)(p:du):List Int→List Bytes→(Int×Int×Int×Int)→Nat×List Bytes×(Int×Int×Int×Int)
 |[],m,r=>(0,m,r)
 |b::q,m,r=>bif (dk l m d r (descOf p b)).2.2 then
   ((lW l d p q (dk l m d r (descOf p b)).1 (dk l m d r (descOf p b)).2.1).1+1,(lW l d p q (dk l m d r (descOf p b)).1 (dk l m d r (descOf p b)).2.1).2)
  else(0,m,r)
theorem u1 (l:List aQ)(m:List Bytes)(d:Int)(r:Int×Int×Int×Int)(s:Bytes):(dk l m d r s).1.length=m.length:=by
 unfold dk;cases (mX r==0)||((s.length:Int) !=16)with|true=>rfl|false=>?_
 cases (pF l m d (sk r r.2.2.2) s true).2 with|false=>rfl|true=>exact yY ..
theorem AK (l:List aQ)(d:Int)(p:du):∀(q:List Int)(m:List Bytes)(r:Int×Int×Int×Int),(lW l d p q m r).2.1.length=m.length∧(lW l d p q m r).1≤q.length
 |[],m,r=>⟨rfl,aL _⟩
 |b::q,m,r=>by rw[lW];cases (dk l m d r (descOf p b)).2.2 with|false=>exact⟨rfl,cl _⟩|true=>have:=AK l d p q (dk l m d r (descOf p b)).1 (dk l m d r (descOf p b)).2.1;simp only[ah,bO];exact⟨by rw[this.1,u1],by omega⟩
theorem Lt (r:Int×Int×Int×Int):0≤mX r:=by
 unfold mX;cases hb:ef r with
 |false=>exact dS _
 |true=>
  have h:=rG hb;simp only[ef,ab,aI]at hb;have hu:=hb.2.2.2.2;have h0:0≤ed r:=by unfold ed;split;exact dX _ (by omega);exact dS _
  simp only[ah];rw[wrap64 (by omega) (by omega)];omega
theorem CO {l:List aQ}{m:List Bytes}{d:Int}{r:Int×Int×Int×Int}{s:Bytes}(h:¬mX r>0):dk l m d r s=(m,r,false):=by
 have h0:=Lt r;have:mX r=0:=by omega
 unfold dk;rw[this];rfl
theorem u9 {R:Type}(K:Int→(Int×Int×Int×Int)→List Bytes→du→Option R)(l:List aQ)(d:Int)(p p2:du)(hp:p.2.2.2.length≤1000000000)(hl:l.length≤1000000000)(A B C:Int):∀(rest:List Int)(c:Nat)(m:List Bytes)(r:Int×Int×Int×Int)(f:Nat),rest.length<f→c+rest.length≤1000000000→m.length≤1000000000→
 bc (g8 K l d p ([]:List Bytes) (0,0,0,0) p2) f ((c:Int),r,m,A,B,C,rest)=K ((c+(lW l d p rest m r).1:Nat):Int) (lW l d p rest m r).2.2 (lW l d p rest m r).2.1 (A,B,C,rest.drop (lW l d p rest m r).1)
 |rest,c,m,r,0,hf,_,_=>by omega
 |[],c,m,r,f+1,_,_,_=>by
  rw[bc];simp only[g8,wc,ae];have hc:(cond (decide (mX r>0)) (some (decide ((([]:List Int).length:Int)>0))) (some false))=some false:=by cases decide (mX r>0)<;>rfl
  rw[hc];rfl
 |b::q,c,m,r,f+1,hf,hn,hm=>by
  simp only[bO]at hf hn;rw[bc];simp only[g8,wc,ae];by_cases hr:mX r>0;rw[ai hr,ai (show(((b::q).length:Nat):Int)>0 by simp)];have hi:idx (b::q) 0=some b:=rfl;have hs:sub (b::q) 1 ((b::q).length:Int)=some q:=by unfold sub;rw[ar (by simp;omega)];simp
  simp only[ah,ae,hi,ME p b hp,ON,FW l m d r _ hl hm];rw[show N7 (3,0,p.2.1,Jc p b,0,b)=descOf p b from rfl,lW];cases hq:(dk l m d r (descOf p b)).2.2 with|false=>rfl|true=>simp only[ax,ak,ah,hs,ae];rw[fM (by omega),wrap64 (n:=(c:Int)+1) (by omega) (by omega),bm];have key:=u9 K l d p p2 hp hl A B C q (c+1) (dk l m d r (descOf p b)).1 (dk l m d r (descOf p b)).2.1 f (by omega) (by omega) (by rw[u1];exact hm);rw[show((c+1:Nat):Int)=(c:Int)+1 by omega]at key;refine Eq.trans key ?_;rw[show c+1+(lW l d p q (dk l m d r (descOf p b)).1 (dk l m d r (descOf p b)).2.1).1=c+((lW l d p q (dk l m d r (descOf p b)).1 (dk l m d r (descOf p b)).2.1).1+1) by omega];rfl
  rw[af hr,lW,CO hr];rfl
def pn (l:List aQ)(m:List Bytes)(d:Int)(r:Int×Int×Int×Int)(p:du):List Bytes×(Int×Int×Int×Int)×du×Int:=
 bif !ef r|| !dy p then(m,r,p,0) else
 ((lW l d p p.2.2.2 m r).2.1,(lW l d p p.2.2.2 m r).2.2,(p.1,p.2.1,p.2.2.1,p.2.2.2.drop (lW l d p p.2.2.2 m r).1),((lW l d p p.2.2.2 m r).1:Int))
theorem MG (l:List aQ)(m:List Bytes)(d:Int)(r:Int×Int×Int×Int)(p:du)(hl:l.length≤1000000000)(hm:m.length≤1000000000)(hp:p.2.2.2.length≤1000000000):nO l m d r p=some (pn l m d r p):=by
 have hfu:=ee;unfold nO pn;simp only[ru m (show m.length≤1073741824 by omega),G9 p hp,zt,vd p hp,ae];cases ef r with|false=>rfl|true=>?_
 cases dy p with|false=>rfl|true=>?_
 simp only[ax,ak,ae,Bool.or_self];refine(u9 _ l d p _ hp hl p.1 p.2.1 p.2.2.1 p.2.2.2 0 m r fuel (by omega) (by omega) hm).trans ?_;rw[bM]
def Kj (m:List Bytes)(p:Int×Int):Bytes:=bif jC m p.1 p.2 then Wy m p.1.toNat p.2.toNat else []
def GG (l:List aQ)(m:List Bytes)(d a n:Int):Bytes×Bool:=
 bif (kW l m d a n false).2 then((kW l m d a n false).1.flatMap (Kj m),true) else([],false)
def Cg (s:Bytes):(Int×Int×Int×Int×Int)×Int×Bool:=
 bif ((s.length:Int) !=16)||decide (eA s 12>1) then((0,0,0,0,0),0,false) else((fA s 0,fA s 2,fA s 4,fA s 6,eA s 8),eA s 12,true)
def Sp (q:Int×Int×Int):Int:=bif decide (q.2.2<q.2.1) then 1 else 0
def IL (q:Int×Int×Int):Int:=q.1+Int.tmod q.2.2 q.2.1*16
def V9 (q:Int×Int×Int):Int×Int×Int:=(q.1,q.2.1,Int.tmod (q.2.2+1) (2*q.2.1))
def Ox (l:List aQ)(m:List Bytes)(d:Int)(q:Int×Int×Int):Bool:=
 rE q&&((GG l m d (IL q) 16).2&&((Cg (GG l m d (IL q) 16).1).2.2&&((Cg (GG l m d (IL q) 16).1).2.1==Sp q)))
def yO (l:List aQ)(m:List Bytes)(d:Int)(q:Int×Int×Int):(Int×Int×Int×Int×Int)×(Int×Int×Int)×Bool:=
 bif Ox l m d q then((Cg (GG l m d (IL q) 16).1).1,V9 q,true) else((0,0,0,0,0),q,false)
def Yp (l:List aQ)(m:List Bytes)(d a n:Int):Bool:=(GG l m d a n).2&&((Pk (GG l m d a n).1).2==0)
def Pg (l:List aQ)(m:List Bytes)(d:Int)(s:List Stream×dG×du):List Stream×dG×du:=
 ((bif Yp l m d (Jc s.2.2 (yO l m d s.2.1.2.2.1).1.1) (yO l m d s.2.1.2.2.1).1.2.1 then Lh s.1 (Pk (GG l m d (Jc s.2.2 (yO l m d s.2.1.2.2.1).1.1) (yO l m d s.2.1.2.2.1).1.2.1).1).1 else s.1),
   (s.2.1.1,s.2.1.2.1,(yO l m d s.2.1.2.2.1).2.1,s.2.1.2.2.2),(Jo s.2.2 [(yO l m d s.2.1.2.2.1).1.1]).1)
def sP (l:List aQ)(m:List Bytes)(d:Int):Nat→List Stream×dG×du→Nat×(List Stream×dG×du)
 |0,s=>(0,s)
 |k+1,s=>bif !(yO l m d s.2.1.2.2.1).2.2 then(0,s) else((sP l m d k (Pg l m d s)).1+1,(sP l m d k (Pg l m d s)).2)
def Fs (l:List aQ)(m:List Bytes)(d:Int)(rx:dG)(pl:du)(st:List Stream)(n:Int):List Bytes×dG×du×List Stream×Int:=
 bif !NP rx||(!dy pl|| !cx n 0 1000) then(m,rx,pl,st,0) else
 ((pn l m d (sP l m d n.toNat (st,rx,pl)).2.2.1.1 (sP l m d n.toNat (st,rx,pl)).2.2.2).1,
   ((pn l m d (sP l m d n.toNat (st,rx,pl)).2.2.1.1 (sP l m d n.toNat (st,rx,pl)).2.2.2).2.1,(sP l m d n.toNat (st,rx,pl)).2.2.1.2),
   (pn l m d (sP l m d n.toNat (st,rx,pl)).2.2.1.1 (sP l m d n.toNat (st,rx,pl)).2.2.2).2.2.1,(sP l m d n.toNat (st,rx,pl)).2.1,((sP l m d n.toNat (st,rx,pl)).1:Int))
def gB (i:Nat):Int:=1280+(i:Int)*1792
theorem NU {i:Nat}(h:i≤8):aw (1280+aw ((i:Int)*1792))=gB i:=by rw[wrap64 (n:=(i:Int)*1792) (by omega) (by omega),wrap64 (by omega) (by omega)];rfl
theorem ry (a b n:Int)(h:n≤1000):(gY a b n).1.2.2.2.length≤1000:=by unfold gY;cases dy (a,b,n,[])with|false=>simp|true=>simp[upto];omega
def Mv (i:Nat):dG:=((gB i,4,0,0),(gB i+64,4,0),(gB i+64,4,0),((0,0,0,0,0,0,0,0,0,0,0,0,0,0,0,([]:Bytes)),0,0),false,0)
def w8:jq:=((0,16,0,0),(gY 256 128 8).1,([]:List mZ),0)
theorem Bt:nX=some w8:=by rw[nX,wJ];rfl
def pE (l:List aQ)(m:List Bytes)(i:Nat):List Bytes×(Int×Int×Int×Int)×du×Int:=
 pn l (pF l m 0 (gB i) (re 128) false).1 0 (gB i,4,0,0) (gY (gB i+128) 384 4).1
def IC (h:Host)(i:Nat):Host:=
 ((pE h.2.1 h.1 i).1,h.2.1,h.2.2.1,h.2.2.2.1.set i ((pE h.2.1 h.1 i).2.1,(gB i+64,4,0),(gB i+64,4,0),((0,0,0,0,0,0,0,0,0,0,0,0,0,0,0,([]:Bytes)),0,0),false,(match h.2.2.2.1[i]? with|some x=>x.2.2.2.2.2|none=>0)),h.2.2.2.2.1.set i (pE h.2.1 h.1 i).2.2.1,h.2.2.2.2.2)
theorem FU (h:Host)(i:Nat)(hi:i≤8)(h1:i<h.2.2.2.1.length)(h2:i<h.2.2.2.2.1.length)(hl:h.2.1.length≤1000000000)(hm:h.1.length≤1000000000):mU h (i:Int)=some ((),IC h i):=by have hb:gB i=1280+(i:Int)*1792:=rfl;have hz:dq 128 0=some (re 128):=zn 128 (by omega);have hf:=MG h.2.1 (pF h.2.1 h.1 0 (gB i) (re 128) false).1 0 (gB i,4,0,0) (gY (gB i+128) 384 4).1 hl (by rw[yY];exact hm) (bL (ry (gB i+128) 384 4 (by omega)) (by omega));unfold mU;simp only[NU hi];rw[wrap64 (n:=gB i+128) (by omega) (by omega),wrap64 (n:=gB i+64) (by omega) (by omega),wJ,hz];simp only[bH h1,bH h2,ae,Aq h.2.1 h.1 0 (gB i) (re 128) hl hm (by omega),hf,aS,IC,pE,List.getElem?_eq_getElem h1]
def Sq (h:Host)(i:Nat)(n:Int):Int×Host:=
 match h.2.2.2.1[i]?,h.2.2.2.2.1[i]? with
 |some rx,some pl=>
  ((Fs h.2.1 h.1 0 rx pl h.2.2.2.2.2.2.2.2.2.1 n).2.2.2.2,(Fs h.2.1 h.1 0 rx pl h.2.2.2.2.2.2.2.2.2.1 n).1,h.2.1,h.2.2.1,h.2.2.2.1.set i (Fs h.2.1 h.1 0 rx pl h.2.2.2.2.2.2.2.2.2.1 n).2.1,h.2.2.2.2.1.set i (Fs h.2.1 h.1 0 rx pl h.2.2.2.2.2.2.2.2.2.1 n).2.2.1,h.2.2.2.2.2.1,h.2.2.2.2.2.2.1,h.2.2.2.2.2.2.2.1,h.2.2.2.2.2.2.2.2.1,(Fs h.2.1 h.1 0 rx pl h.2.2.2.2.2.2.2.2.2.1 n).2.2.2.1,h.2.2.2.2.2.2.2.2.2.2)
 |_,_=>(0,h)
theorem E1 {n:Nat}{t:CT}{l:List t.D}{i:Nat}{x:t.D}(z:oA n (.sl t) l)(hx:oA n t x):oA n (.sl t) (l.set i x):=by refine⟨?_,λy hy=>?_⟩;show(l.set i x).length≤n;rw[aG];exact z.1;rcases List.mem_or_eq_of_mem_set hy with h|h;exact z.2 y h;rw[h];exact hx
theorem Ob (l:List aQ)(m:List Bytes)(d:Int)(r:Int×Int×Int×Int)(p:du):(pn l m d r p).1.length=m.length:=by unfold pn;cases !ef r|| !dy p with|true=>rfl|false=>exact(AK ..).1
theorem GL (l:List aQ)(m:List Bytes)(d:Int)(r:Int×Int×Int×Int)(p:du):(pn l m d r p).2.2.1.2.2.2.length≤p.2.2.2.length:=by unfold pn;cases !ef r|| !dy p with|true=>exact aL _|false=>show(p.2.2.2.drop _).length≤_;rw[aZ];omega
structure xx (k:Nat) (a b:Host):Prop where
 mem:b.1.length=a.1.length
 maps:b.2.1=a.2.1
 tx:b.2.2.1=a.2.2.1
 rx:b.2.2.2.1.length=a.2.2.2.1.length
 rxs:∀j,k≤j→b.2.2.2.1[j]?=a.2.2.2.1[j]?
 pl:b.2.2.2.2.1.length=a.2.2.2.2.1.length
 vec:b.2.2.2.2.2.1.length=a.2.2.2.2.2.1.length
 vecs:∀j,k≤j→b.2.2.2.2.2.1[j]?=a.2.2.2.2.2.1[j]?
 pol:b.2.2.2.2.2.2.1.length=a.2.2.2.2.2.2.1.length
 flt:b.2.2.2.2.2.2.2.1=a.2.2.2.2.2.2.2.1
 ste:b.2.2.2.2.2.2.2.2.1=a.2.2.2.2.2.2.2.2.1
theorem xx.trans {k:Nat}{a b c:Host}(h:xx k a b)(g:xx k b c):xx k a c:=⟨g.mem.trans h.mem,g.maps.trans h.maps,g.tx.trans h.tx,g.rx.trans h.rx,λj hj=>(g.rxs j hj).trans (h.rxs j hj),g.pl.trans h.pl,g.vec.trans h.vec,λj hj=>(g.vecs j hj).trans (h.vecs j hj),g.pol.trans h.pol,g.flt.trans h.flt,g.ste.trans h.ste⟩
theorem xx.up {k m:Nat}{a b:Host}(h:xx k a b)(hk:k≤m):xx m a b:=⟨h.mem,h.maps,h.tx,h.rx,λj hj=>h.rxs j (by omega),h.pl,h.vec,λj hj=>h.vecs j (by omega),h.pol,h.flt,h.ste⟩
structure HV (n:Nat) (h:Host):Prop where
 z:oA n jn h
 t:h.2.2.1.2.1.2.2.2.length+(eD h.2.2.1.2.2.1).length≤n
theorem HV.mono {n m:Nat}{h:Host}(k:HV n h)(hn:n≤m):HV m h:=⟨k.z.mono hn,bL k.t hn⟩
theorem HV.sz {n:Nat}{h:Host}(k:HV n h)(hn:n≤1000000000):Ga h:=by have z:oA 1000000000 jn h:=k.z.mono hn;exact⟨z.1.1,z.2.1.1,z.2.2.1.2.2.1.1,bL k.t hn,z.2.2.2.2.2.2.2.1.2.2.1,z.2.2.2.2.2.2.2.2.1.1.1,z.2.2.2.2.2.2.2.2.1.2.1.1,z.2.2.2.2.2.2.2.2.1.2.2.2.1,λp hp=>(z.2.2.2.2.1.2 p hp).2.2.2.1⟩
theorem HV.of {h:Host}(k:Aw jn h≤1048576):HV 1048576 h:=by
 refine⟨vj k,?_⟩;have hb:=H6 h.2.2.1.2.2.1;have h1:Aw pg h.2.2.1≤Aw jn h:=by simp only[Aw];omega
 have hp:h.2.2.1.2.1.2.2.2.length+Aw (.sl ma) h.2.2.1.2.2.1≤Aw pg h.2.2.1:=by simp only[Aw];omega
 omega
def wx (p:du):List mZ→du
 |[]=>p
 |x::l=>wx (Jo p x.2.2).1 l
def HL (g:Nat→Host→Host):Nat→Host→Host
 |0,h=>h
 |k+1,h=>g k (HL g k h)
structure HW (a b:Host):Prop where
 maps:b.2.1=a.2.1
 tx:b.2.2.1=a.2.2.1
 rx:b.2.2.2.1.length=a.2.2.2.1.length
 pl:b.2.2.2.2.1.length=a.2.2.2.2.1.length
 vec:b.2.2.2.2.2.1=a.2.2.2.2.2.1
 pol:b.2.2.2.2.2.2.1=a.2.2.2.2.2.2.1
 ret:b.2.2.2.2.2.2.2.2.2.2.2.2.2.1=a.2.2.2.2.2.2.2.2.2.2.2.2.2.1
theorem HW.trans {a b c:Host}(h:HW a b)(k:HW b c):HW a c:=⟨k.1.trans h.1,k.2.trans h.2,k.3.trans h.3,k.4.trans h.4,k.5.trans h.5,k.6.trans h.6,k.7.trans h.7⟩
def OE (h:Host)(k:Nat):Host:=HL (λi s=>(Sq s i 1000).2) k h
def Wz (h:Host)(l:List Int):Host:=(h.1,h.2.1,h.2.2.1,h.2.2.2.1,h.2.2.2.2.1,h.2.2.2.2.2.1,h.2.2.2.2.2.2.1,h.2.2.2.2.2.2.2.1,h.2.2.2.2.2.2.2.2.1,h.2.2.2.2.2.2.2.2.2.1,h.2.2.2.2.2.2.2.2.2.2.1,h.2.2.2.2.2.2.2.2.2.2.2.1,h.2.2.2.2.2.2.2.2.2.2.2.2.1,h.2.2.2.2.2.2.2.2.2.2.2.2.2.1++l,h.2.2.2.2.2.2.2.2.2.2.2.2.2.2)
theorem J4 (l:List aQ)(m:List Bytes)(i:Nat):(pE l m i).1.length=m.length:=by unfold pE;rw[Ob,yY]
def aac (W:List mZ)(i:Nat)(s:Host):Host:=match W[i]? with|some x=>Wz s [x.1]|none=>s
def polled (h:Host):Host:=OE h h.2.2.2.1.length
def returned (h:Host)(k:Nat):Host:=HL (aac h.2.2.1.2.2.1) k (polled h)
def txt (_:Int):Bytes:=[]
def KP:(t:CT)→t.D→Nat
 | .int _,_=>1
 | .bool,_=>1
 | .str,_=>1
 | .sl e,xs=>(xs.map (KP e)).sum
 | .pair a b,x=>KP a x.1+KP b x.2
def mkL {α:Type}(f:α→Int→α)(c:α→Nat):List α→Int→List α
 |[],_=>[]
 |x::xs,k=>f x k::mkL f c xs (k+c x)
def mk:(t:CT)→t.D→Int→t.D
 | .int _,_,k=>k
 | .bool,_,k=>Int.tmod k 3==0
 | .str,_,k=>txt k
 | .sl e,xs,k=>mkL (mk e) (KP e) xs k
 | .pair a b,x,k=>(mk a x.1 k,mk b x.2 (k+KP a x.1))
def Tr (a:Act):Option Bool:=
 aa (aa (some (cx a.1 0 6)) λr1=>cond (!r1) (some true) (some (decide ((a.2.2.2.2.1.length:Int)>600)))) λq2=>
 cond q2 (some false) (
 aa (cond (a.1 !=0) (cond (!((a.2.1.1==0)&&((a.2.1.2.1==0)&&((a.2.1.2.2.1==0)&&((a.2.1.2.2.2.1==0)&&((a.2.1.2.2.2.2.1==0)&&((a.2.1.2.2.2.2.2.1==0)&&((a.2.1.2.2.2.2.2.2.1==0)&&((a.2.1.2.2.2.2.2.2.2.1==0)&&((a.2.1.2.2.2.2.2.2.2.2.1==0)&&((a.2.1.2.2.2.2.2.2.2.2.2.1==0)&&((a.2.1.2.2.2.2.2.2.2.2.2.2.1==0)&&((a.2.1.2.2.2.2.2.2.2.2.2.2.2.1==0)&&((a.2.1.2.2.2.2.2.2.2.2.2.2.2.2.1==0)&&((a.2.1.2.2.2.2.2.2.2.2.2.2.2.2.2.1==0)&&((a.2.1.2.2.2.2.2.2.2.2.2.2.2.2.2.2.1==0)&&((a.2.1.2.2.2.2.2.2.2.2.2.2.2.2.2.2.2==([]:Bytes))&&true))))))))))))))))) (some true) (cond (a.2.2.1 !=0) (some true) (some (a.2.2.2.1 !=0)))) (some false)) λq3=>
 cond q3 (some false) (
 aa (cond (a.1==2) (cond (a.1==5) (some true) (some (a.2.2.2.2.2==0))) (cond (a.2.2.2.2.1==([]:Bytes)) (cond (a.1==5) (some true) (some (a.2.2.2.2.2==0))) (some false))) λq4=>some q4))
def Ge (a:Act):Bool:=(Tr a).getD false
theorem HV.tx {n:Nat}{h:Host}(k:HV n h)(hn:n≤1000000000):P9 h.2.2.1:=
 have z:oA 1000000000 jn h:=k.z.mono hn
 ⟨z.2.2.1.2.1.2.2.2.1,z.2.2.1.2.2.1.1,λx hx=>(z.2.2.1.2.2.1.2 x hx).2.2.1⟩
def Lr (f:jD):List Stream→Int→Int
 |[],_=> -1
 |s::r,i=>if s.1=f then i else Lr f r (i+1)
def K2 (a b:List Stream)(f:jD):Bool:=
 match idx a (Lr f a 0),idx b (Lr f b 0)with
 |some x,some y=>decide (x=y)
 |_,_=>false
theorem Hi {m:List Bytes}(h:dm m=true)(a:Int)(s:Bytes):dm (n0 m a s).1=true:=by
 unfold n0;cases hw:jC m a (s.length:Int)with|false=>exact h|true=>?_
 simp only[jC,ab,aI]at hw;exact ni.2 (rT s.length (ni.1 hw.1) (by omega)).1
theorem Fa:∀(q:List (Int×Int)){m:List Bytes}(s:Bytes),dm m=true→dm (Al q m s)=true
 |[],_,_,h=>h
 |p::q,m,s,h=>by rw[Al];exact Fa q _ (Hi h _ _)
theorem Fb {m:List Bytes}(h:dm m=true)(l:List aQ)(d a:Int)(s:Bytes)(w:Bool):dm (pF l m d a s w).1=true:=by unfold pF;cases (kW l m d a (s.length:Int) w).2 with|false=>exact h|true=>exact Fa _ _ h
theorem Fc {m:List Bytes}(h:dm m=true)(l:List aQ)(d:Int)(r:Int×Int×Int×Int)(s:Bytes):dm (dk l m d r s).1=true:=by
 unfold dk;cases (mX r==0)||((s.length:Int) !=16)with|true=>exact h|false=>?_
 cases (pF l m d (sk r r.2.2.2) s true).2 with|false=>exact h|true=>exact Fb h ..
theorem zb {b n x y:Int}(hb:0≤b∧b≤130944)(hn:n=2∨n=4∨n=8∨n=16)(hx:0≤x∧x≤2*n-1)(hy:0≤y∧y≤2*n-1)(hu:(y-x)%(2*n)≤n):ef (b,n,x,y)=true:=by have hs:eE n=true:=eN.2 hn;simp only[ef,ed,hs,bq.2 hb,bq.2 hx,bq.2 hy,aX,bn,aI];exact hu
theorem vW {r:Int×Int×Int×Int}(h:ef r=true):ed r=(r.2.2.2-r.2.2.1)%(2*r.2.1)∧0≤ed r∧ed r≤r.2.1:=by
 have k:=rG h;have e:ed r=(r.2.2.2-r.2.2.1)%(2*r.2.1):=by unfold ed;rw[ar (eN.2 k.2.2.1)]
 simp only[ef,ab,aI]at h;exact⟨e,by rw[e];exact dX _ (by omega),h.2.2.2.2⟩
theorem KG {x n:Int}(hn:0<n)(hx:0≤x∧x≤n-1):Int.tmod (x+1) n=if x+1=n then 0 else x+1:=by rw[dN (by omega)];split;rename_i h;rw[h];exact Int.emod_self;exact Int.emod_eq_of_lt (by omega) (by omega)
theorem Km {r:Int×Int×Int×Int}(h:ef r=true)(hf:ed r<r.2.1):ef (r.1,r.2.1,r.2.2.1,Int.tmod (r.2.2.2+1) (2*r.2.1))=true∧ed (r.1,r.2.1,r.2.2.1,Int.tmod (r.2.2.2+1) (2*r.2.1))=ed r+1:=by
 have k:=rG h;have u:=vW h;have e:=KG (x:=r.2.2.2) (n:=2*r.2.1) (by omega) (by omega);have u2:(Int.tmod (r.2.2.2+1) (2*r.2.1)-r.2.2.1)%(2*r.2.1)=ed r+1:=by
  have h1:(Int.tmod (r.2.2.2+1) (2*r.2.1)-r.2.2.1)%(2*r.2.1)=(r.2.2.2+1-r.2.2.1)%(2*r.2.1):=by rw[e];split;rename_i hh;rw[←hh,show(r.2.2.2+1-r.2.2.1)=(0-r.2.2.1)+(r.2.2.2+1) by omega,Int.add_emod_right];rfl
  rw[h1,show r.2.2.2+1-r.2.2.1=(r.2.2.2-r.2.2.1)+1 by omega];have h0:=u.1;generalize r.2.2.2-r.2.2.1=d at h0⊢;rw[Int.add_emod,←h0,Int.emod_eq_of_lt (a:=1) (by omega) (by omega),Int.emod_eq_of_lt (by omega) (by omega)]
 refine⟨zb ⟨k.1,k.2.1⟩ k.2.2.1 ⟨k.2.2.2.1,k.2.2.2.2.1⟩ (by rw[e];split<;>omega) (by rw[u2];omega),?_⟩;unfold ed;rw[ar (eN.2 k.2.2.1)];exact u2
theorem Jn {r:Int×Int×Int×Int}(h:ef r=true):mX r=r.2.1-ed r:=by have k:=rG h;have u:=vW h;unfold mX;rw[h,ah,wrap64 (by omega) (by omega)]
theorem Ms {r:Int×Int×Int×Int}(h:ef r=true)(l:List aQ)(m:List Bytes)(d:Int)(s:Bytes):ef (dk l m d r s).2.1=true∧(dk l m d r s).2.1.2.1=r.2.1:=by
 unfold dk;cases hc:(mX r==0)||((s.length:Int) !=16)with|true=>exact⟨h,rfl⟩|false=>?_
 cases (pF l m d (sk r r.2.2.2) s true).2 with
 |false=>exact⟨h,rfl⟩
 |true=>
  simp only[Bool.or_eq_false_iff]at hc;have h1:mX r≠0:=by simpa using hc.1
  rw[Jn h]at h1;have u:=vW h;exact⟨(Km h (by omega)).1,rfl⟩
theorem Lu {n:Int}{l:List Int}:(List.range l.length).all (tB n l)=true↔(∀x∈l,0≤x∧x≤n-1)∧l.Nodup:=by
 rw[ay];constructor;intro h;have k:∀i (hi:i<l.length),(0≤l[i]∧l[i]≤n-1)∧l[i]∉l.take i:=by intro i hi;have:=h i (bw.2 hi);unfold tB at this;rw[db hi,ab,bq]at this;exact⟨this.1,by simpa using this.2⟩
 refine⟨λx hx=>?_,?_⟩;obtain⟨i,hi,rfl⟩:=List.getElem_of_mem hx;exact(k i hi).1;rw[List.Nodup,List.pairwise_iff_getElem];intro i j hi hj hij he;refine(k j hj).2 ?_;rw[←he];exact List.mem_take_iff_getElem.2 ⟨i,by omega,rfl⟩;rintro⟨h1,h2⟩ i hi;have hi:=bw.1 hi;unfold tB;rw[db hi,ab,bq];refine⟨h1 _ (aY hi),?_⟩;have:l[i]∉l.take i:=by intro hm;obtain⟨j,hj,he⟩:=List.mem_take_iff_getElem.1 hm;rw[List.Nodup,List.pairwise_iff_getElem]at h2;exact h2 j i (by omega) hi (by omega) he
 simpa using this
theorem uZ {p:du}:dy p=true↔(0≤p.1∧p.1≤130944)∧(1≤p.2.1∧p.2.1≤512)∧(0≤p.2.2.1∧p.2.2.1≤16)∧(∀x∈p.2.2.2,0≤x∧x≤p.2.2.1-1)∧p.2.2.2.Nodup:=by unfold dy;simp only[ab,bq,Lu]
theorem Fv {p:du}(h:dy p=true){l:List Int}(hl:l.Sublist p.2.2.2):dy (p.1,p.2.1,p.2.2.1,l)=true:=by have k:=uZ.1 h;exact uZ.2 ⟨k.1,k.2.1,k.2.2.1,λx hx=>k.2.2.2.1 x (hl.subset hx),k.2.2.2.2.sublist hl⟩
theorem FI {n:Int}{s:mZ}:mI n s=true↔(1≤s.2.1∧s.2.1≤n)∧0≤s.1∧s.1≤65535:=by unfold mI;simp only[ab,bq]
structure KY (t:jq):Prop where
 ring:ef t.1=true
 next:0≤t.2.2.2∧t.2.2.2≤65535
 sent:∀x∈t.2.2.1,(1≤x.2.1∧x.2.1≤t.1.2.1)∧0≤x.1∧x.1≤65535
 pool:dy (rC t.2.1 (eD t.2.2.1))=true
 KP:ka t.2.2.1≤t.1.2.1
theorem KY.free {t:jq}(h:KY t):dy t.2.1=true:=Fv h.pool (List.sublist_append_left _ _)
theorem SE {t:jq}:SC t=true↔KY t:=by constructor;intro h;unfold SC at h;simp only[ab,bq,ay,FI,aI]at h;obtain⟨h1,h2,h3,h4,h5,h6⟩:=h;unfold uF at h5;simp only[ab]at h5;exact⟨h1,h3,h4,h5.2,h6⟩;·intro h;unfold SC uF;simp only[ab,bq,ay,FI,aI];exact⟨h.ring,h.free,h.next,h.sent,⟨h.free,h.pool⟩,h.KP⟩
theorem FF {a b s k f w:Int}{x:Bytes}(h1:0≤a∧a≤65535)(h2:0≤b∧b≤65535)(h3:0≤s∧s≤4294967295)(h4:0≤k∧k≤4294967295)(h5:0≤f∧f≤31)(h6:0≤w∧w≤65535)(hx:x.length≤320):lN (6,a,b,s,k,f,w,x)=true:=by have hx':decide ((x.length:Int)>320)=false:=af (by omega);simp only[lN,bq.2 h1,bq.2 h2,bq.2 h3,bq.2 h4,bq.2 h5,bq.2 h6,hx'];rfl
theorem Mz {a b:Int}{x:Bytes}(h1:0≤a∧a≤65535)(h2:0≤b∧b≤65535)(hx:x.length≤320):lN (17,a,b,0,0,0,0,x)=true:=by have hx':decide ((x.length:Int)>320)=false:=af (by omega);simp only[lN,bq.2 h1,bq.2 h2,hx'];rfl
theorem Ks {g:dB}{x:Bytes}(h:lN g=true)(hx:x.length≤320):lN (g.1,g.2.1,g.2.2.1,g.2.2.2.1,g.2.2.2.2.1,g.2.2.2.2.2.1,g.2.2.2.2.2.2.1,x)=true:=by have e:decide ((x.length:Int)>320)=false:=af (by omega);unfold lN at h⊢;simp only[ab]at h⊢;exact⟨h.1,h.2.1,by rw[e];rfl,h.2.2.2⟩
theorem Ly {a b v t i l s d:Int}{g:dB}(h1:0≤a∧a≤281474976710655)(h2:0≤b∧b≤281474976710655)(h3: -1≤v∧v≤4095)(h4:0≤t∧t≤255)(h5:0≤i∧i≤65535)(h6:0≤l∧l≤255)(h7:0≤s∧s≤4294967295)(h8:0≤d∧d≤4294967295)(hg:lN g=true):mY (a,b,v,t,i,l,s,d,g)=true:=by simp only[mY,bq.2 h1,bq.2 h2,bq.2 h3,bq.2 h4,bq.2 h5,bq.2 h6,bq.2 h7,bq.2 h8,hg];rfl
theorem Fp (p:bf):qk p=true↔mY p=true∧p.2.2.2.2.2.2.2.2.2.2.2.2.2.2.2.length≤128:=by unfold qk jk;rw[ab,ab,bU,aI];constructor;rintro⟨⟨h1,_⟩,h2⟩;exact⟨h1,by omega⟩;rintro⟨h1,h2⟩;exact⟨⟨h1,Or.inl (by omega)⟩,by omega⟩
theorem My {g:dB}(h:lN g=true)(h6:g.1=6):(0≤g.2.1∧g.2.1≤65535)∧(0≤g.2.2.1∧g.2.2.1≤65535)∧(0≤g.2.2.2.1∧g.2.2.2.1≤4294967295)∧(0≤g.2.2.2.2.1∧g.2.2.2.2.1≤4294967295)∧(0≤g.2.2.2.2.2.1∧g.2.2.2.2.2.1≤31)∧(0≤g.2.2.2.2.2.2.1∧g.2.2.2.2.2.2.1≤65535)∧g.2.2.2.2.2.2.2.length≤320:=by have hl:=zi h;unfold lN at h;rw[h6]at h;simp only[ab,bq,show((6:Int)==17)=false from rfl,ak]at h;exact⟨h.1,h.2.1,h.2.2.2.2.1,h.2.2.2.2.2.1,h.2.2.2.2.2.2.1,h.2.2.2.2.2.2.2,hl⟩
theorem FE {g:dB}(h:lN g=true)(h6:g.1=6){s f:Int}{x:Bytes}(hs:0≤s∧s≤4294967295)(hf:0≤f∧f≤31)(hx:x.length≤320):lN (g.1,g.2.1,g.2.2.1,s,g.2.2.2.2.1,f,g.2.2.2.2.2.2.1,x)=true:=by have k:=My h h6;rw[h6];exact FF k.1 k.2.1 hs k.2.2.2.1 hf k.2.2.2.2.2.1 hx
theorem tf {p:bf}(h:mY p=true){i:Int}{g:dB}(hi:0≤i∧i≤65535)(hg:lN g=true):mY (p.1,p.2.1,p.2.2.1,p.2.2.2.1,i,p.2.2.2.2.2.1,p.2.2.2.2.2.2.1,p.2.2.2.2.2.2.2.1,g)=true:=by unfold mY at h⊢;simp only[ab]at h⊢;exact⟨h.1,h.2.1,h.2.2.1,h.2.2.2.1,h.2.2.2.2.1,bq.2 hi,h.2.2.2.2.2.2.1,h.2.2.2.2.2.2.2.1,hg⟩
theorem Ed {p:bf}(h:mY p=true):0≤p.2.2.2.2.1∧p.2.2.2.2.1≤65535:=by unfold mY at h;simp only[ab]at h;exact bq.1 h.2.2.2.2.2.1
theorem Oy {i:Int}(h:0≤i∧i≤65535):0≤Int.tmod (aw (i+1)) 65536∧Int.tmod (aw (i+1)) 65536≤65535:=by rw[wrap64 (by omega) (by omega)];have h1:=Int.tmod_nonneg 65536 (a:=i+1) (by omega);have h2:=Int.tmod_lt_of_pos (i+1) (b:=65536) (by omega);omega
theorem L9 {s:Int}{n:Nat}(h:0≤s∧s≤4294967295)(hn:n≤320):0≤Int.tmod (aw (s+(n:Int))) 4294967296∧Int.tmod (aw (s+(n:Int))) 4294967296≤4294967295:=by rw[wrap64 (by omega) (by omega)];have h1:=Int.tmod_nonneg 4294967296 (a:=s+(n:Int)) (by omega);have h2:=Int.tmod_lt_of_pos (s+(n:Int)) (b:=4294967296) (by omega);omega
structure BD (n:Int) (r:dG):Prop where
 ring:ef r.1=true
 dev:rE r.2.1=true
 drv:rE r.2.2.1=true
 base:r.2.1.1=r.2.2.1.1
 size:r.2.1.2.1=r.2.2.1.2.1
 drop:0≤r.2.2.2.2.2∧r.2.2.2.2.2≤n
 held:r.2.2.2.2.1=true→jk r.2.2.2.1.1=true∧(0≤r.2.2.2.1.2.1∧r.2.2.2.1.2.1≤320)∧1≤r.2.2.2.1.2.2∧r.2.2.2.1.2.2≤320
 free:r.2.2.2.2.1=false→r.2.2.2.1=Sz
theorem Mx (r:dG):NP r=true↔BD 1000000000000 r:=by constructor;intro h;unfold NP at h;rw[ab]at h;simp only[ab,aM,bq]at h;obtain⟨⟨h1,h2,h3,h4,h5,h6⟩,h7⟩:=h;refine⟨h1,h2,h3,h4,h5,h6,λhh=>?_,λhh=>?_⟩;rw[hh,ah]at h7;simp only[ab,bq]at h7;exact⟨h7.1,h7.2.1,h7.2.2⟩;rw[hh,ak]at h7;exact(MR _).1 h7;intro h;unfold NP;rw[ab];simp only[ab,aM,bq];refine⟨⟨h.ring,h.dev,h.drv,h.base,h.size,h.drop⟩,?_⟩;cases hh:r.2.2.2.2.1 with|true=>have:=h.held hh;simp only[ah,ab,bq];exact⟨this.1,this.2.1,this.2.2⟩|false=>rw[ak];exact(MR _).2 (h.free hh)
theorem BD.mono {n m:Int}{r:dG}(h:BD n r)(hn:n≤m):BD m r:=⟨h.ring,h.dev,h.drv,h.base,h.size,⟨h.drop.1,by have:=h.drop.2;omega⟩,h.held,h.free⟩
theorem BD.rx {n:Int}{r:dG}(h:BD n r)(hn:n≤1000000000000):NP r=true:=(Mx r).2 (h.mono hn)
theorem ym (l:List aQ)(d:Int)(p:du):∀(q:List Int)(m:List Bytes)(r:Int×Int×Int×Int),dm m=true→ef r=true→dm (lW l d p q m r).2.1=true∧ef (lW l d p q m r).2.2=true
 |[],m,r,hm,hr=>⟨hm,hr⟩
 |b::q,m,r,hm,hr=>by rw[lW];cases (dk l m d r (descOf p b)).2.2 with|false=>exact⟨hm,hr⟩|true=>exact ym l d p q _ _ (Fc hm ..) (Ms hr ..).1
theorem Jj {m:List Bytes}(hm:dm m=true){r:Int×Int×Int×Int}(hr:ef r=true){p:du}(hp:dy p=true)(l:List aQ)(d:Int):dm (pn l m d r p).1=true∧ef (pn l m d r p).2.1=true∧dy (pn l m d r p).2.2.1=true:=by unfold pn;rw[hr,hp];have k:=ym l d p p.2.2.2 m r hm hr;exact⟨k.1,k.2,Fv hp (List.drop_sublist _ _)⟩
structure Good (n:Int) (h:Host):Prop where
 mem:dm h.1=true
 maps:dQ h.2.1=true
 tx:KY h.2.2.1
 flt:cQ h.2.2.2.2.2.2.2.1=true
 lens:uR h=true
 ste:dK h.2.2.2.2.2.2.2.2.1 (h.2.2.2.1.length:Int)=true
 rx:∀r∈h.2.2.2.1,BD n r
 pool:∀p∈h.2.2.2.2.1,dy p=true
 vec:∀v∈h.2.2.2.2.2.1,jz v=true
 KP:∀x∈fZ h,0≤x∧x≤n
theorem Good.mono {n m:Int}{h:Host}(g:Good n h)(hn:n≤m):Good m h:=⟨g.mem,g.maps,g.tx,g.flt,g.lens,g.ste,λr hr=>(g.rx r hr).mono hn,g.pool,g.vec,λx hx=>⟨(g.KP x hx).1,by have:=(g.KP x hx).2;omega⟩⟩
theorem LA (h:Host):wz h=true↔Good 1000000000000 h:=by unfold wz II;simp only[ab,ay,bq,SE,Mx];constructor;rintro⟨h1,h2,h3,h4,h5,h6,⟨h7,h8,h9⟩,h10⟩;exact⟨h1,h2,h3,h4,h5,h6,h7,h8,h9,h10⟩;intro g;exact⟨g.mem,g.maps,g.tx,g.flt,g.lens,g.ste,⟨g.rx,g.pool,g.vec⟩,g.KP⟩
theorem Good.ok {n:Int}{h:Host}(g:Good n h)(hn:n≤1000000000000):wz h=true:=(LA h).2 (g.mono hn)
theorem Fu {a b n:Int}(ha:0≤a∧a≤130944)(hb:1≤b∧b≤512)(hn:0≤n∧n≤16):gY a b n=((a,b,n,upto n.toNat),true)∧dy (a,b,n,upto n.toNat)=true:=by have h1:dy (a,b,n,[])=true:=uZ.2 ⟨ha,hb,hn,by simp,List.nodup_nil⟩;refine⟨by unfold gY;rw[h1];rfl,uZ.2 ⟨ha,hb,hn,?_,?_⟩⟩;intro x hx;simp only[upto,List.mem_map,bw]at hx;obtain⟨i,hi,rfl⟩:=hx;show 0≤Int.ofNat i∧Int.ofNat i≤n-1;simp only[Int.ofNat_eq_natCast];omega;show(upto n.toNat).Nodup;unfold upto;rw[List.Nodup,List.pairwise_map];exact List.nodup_range.imp λh he=>h (Int.ofNat.inj he)
theorem SF (c:Int)(hc:0≤c∧c≤65535):KY (w8.1,w8.2.1,w8.2.2.1,c):=by
 have p:=Fu (a:=256) (b:=128) (n:=8) (by omega) (by omega) (by omega);refine⟨zb (by omega) (by omega) (by omega) (by omega) (by omega),hc,λx hx=>(by cases hx),?_,by show(0:Int)≤16;omega⟩;show dy (rC (gY 256 128 8).1 [])=true;rw[p.1];have e:rC (256,128,8,upto (8:Int).toNat) []=(256,128,8,upto (8:Int).toNat):=by simp[rC]
 show dy (rC (256,128,8,upto (8:Int).toNat) [])=true;rw[e];exact p.2
theorem H3 {i:Nat}(h:i≤8):0≤gB i∧gB i≤16000:=by unfold gB;omega
theorem J5 {m:List Bytes}(hm:dm m=true)(l:List aQ){i:Nat}(hi:i≤8):dm (pE l m i).1=true∧ef (pE l m i).2.1=true∧dy (pE l m i).2.2.1=true:=by have hb:=H3 hi;have p:=Fu (a:=gB i+128) (b:=384) (n:=4) (by omega) (by omega) (by omega);unfold pE;rw[p.1];exact Jj (Fb hm ..) (zb (by omega) (by omega) (by omega) (by omega) (by omega)) p.2 l 0
theorem Mw {i:Nat}(hi:i≤8){r:Int×Int×Int×Int}(hr:ef r=true){n d:Int}(hd:0≤d∧d≤n):BD n (r,(gB i+64,4,0),(gB i+64,4,0),((0,0,0,0,0,0,0,0,0,0,0,0,0,0,0,([]:Bytes)),0,0),false,d):=by
 have hb:=H3 hi;have hq:rE (gB i+64,4,0)=true:=by have hs:eE 4=true:=eN.2 (by omega);unfold rE;rw[ab,ab];exact⟨bq.2 (by omega),hs,by rw[wa hs];rfl⟩
 exact⟨hr,hq,hq,rfl,rfl,hd,λhf=>(by cases hf),λ_=>rfl⟩
def O9:aO:=(0,0,(0,0,0),false,0,0)
def me (b:Int×Int×Int):Bool:=cx b.1 0 10000&&(cx b.2.1 0 100000&&cx b.2.2 0 b.2.1)
def D4 (n:Int)(f:aO):Bool:=cx f.1 0 7&&(cx f.2.1 1 (aw (n-1))&&(me f.2.2.1&&(cx f.2.2.2.2.1 0 1000000000000&&cx f.2.2.2.2.2 0 1000000000000)))
def Oc (f g:aO):Bool:=(g.1==f.1)||(g.2.1==f.2.1)
def SK (l:List aO)(n:Int)(i:Nat):Bool:=D4 n (l.getD i O9)&&(List.range i).all (λj=> !(Oc (l.getD i O9) (l.getD j O9)))
def jI (l:List aO)(ps:List Port):Bool:=kK ps&&(List.range l.length).all (SK l (ps.length:Int))
theorem zm (b:Int×Int×Int):nL b=some (me b):=by simp only[nL,ch,ae,ba,cF,me]
theorem GS (b:Int×Int×Int):qz b=some (me b):=zm b
theorem z0 (l:List aO)(ps:List Port)(h:l.length≤1000000000)(h1:ps.length≤1000000000)(h2:∀p∈ps,p.2.1.length≤1000000000):kg l ps=some (jI l ps):=by
 unfold kg jI;rw[eC (hit:=some false) (fin:=some true) (SK l (ps.length:Int)) l.length (by omega) (λi nx hi=>?hs) (λnx=>?hf)]
 case hs=>
  simp only[gG]
  rw[ai (by omega),bH hi,wrap64 (n:=(i:Int)+1) (by omega) (by omega),F3 l i (by omega)]
  simp only[ah,ae,cX,GS,ba,cT]
  have hti:(l.take i).length=i:=by simp;omega
  rw[hti,eC (hit:=some false) (fin:=nx ((i:Int)+1)) (λj=> !(Oc l[i] (l.getD j O9))) i (by omega) (λj nx' hj=>?hs2) (λnx'=>?hf2)]
  case hs2=>
   have hjl:j<l.length:=by omega
   have hjt:j<(l.take i).length:=by omega
   simp only[gH]
   rw[ai (by omega),bH hjt,wrap64 (n:=(j:Int)+1) (by omega) (by omega),List.getElem_take]
   simp only[ah,ae,ba,cT,db hjl,de];rfl
  case hf2=>
   simp only[gH]
   rw[af (by omega)];rfl
  simp only[SK,db hi]
  rw[show(!cx l[i].1 0 7||(!cx l[i].2.1 1 (aw ((ps.length:Int)-1))||(!me l[i].2.2.1||(!cx l[i].2.2.2.2.1 0 1000000000000|| !cx l[i].2.2.2.2.2 0 1000000000000))))= !D4 (ps.length:Int) l[i] by unfold D4;simp only[Bool.not_and]]
  cases D4 (ps.length:Int) l[i]<;>cases (List.range i).all (λj=> !(Oc l[i] (l.getD j O9)))<;>rfl
 case hf=>
  simp only[gG]
  rw[af (by omega)];rfl
 simp only[AP ps h1 h2,ae];cases kK ps<;>cases (List.range l.length).all (SK l (ps.length:Int))<;>rfl
def rA (l:List aO)(i:Nat):Bool:=((l.getD i O9).1==(i:Int))&&((l.getD i O9).2.1==(i:Int)+1)
theorem GX (l:List aO)(h:l.length≤1000000000):mA l=some ((List.range l.length).all (rA l)):=by
 unfold mA;rw[eC (hit:=some false) (fin:=some true) (rA l) l.length (by omega) (λi nx hi=>?hs) (λnx=>?hf)]
 case hs=>
  simp only[ju]
  rw[ai (by omega),bH hi,wrap64 (n:=(i:Int)+1) (by omega) (by omega)]
  simp only[ah,ae,ba,cT,bne,rA,db hi]
  cases l[i].1==(i:Int)<;>cases l[i].2.1==(i:Int)+1<;>rfl
 case hf=>
  simp only[ju]
  rw[af (by omega)];rfl
 cases (List.range l.length).all (rA l)<;>rfl
theorem D5:∀(ms:List aJ)(i:Nat)(s:List Int×List Port),Db i s→ms.all fj=true→Db (i+ms.length) (ms.foldl sm s)
 |[],i,s,h,_=>h
 |m::ms,i,s,h,hm=>by rw[a6,ab]at hm;have hu:=ra m.1.2.2 s.1;have hl:=pA hm.1;have:=D5 ms (i+1) (sm s m) (h.port hm.1 _ (by omega)) hm.2;rw[cm,bO,show i+(ms.length+1)=i+1+ms.length by omega];exact this
theorem Fx {ms:List aJ}(h:(c9 ms).2=true):ms.length≤3:=by unfold c9 at h;cases hq:cx (ms.length:Int) 1 3&&(ms.all fj&&kK (jv ms))with|false=>rw[hq]at h;cases h|true=>simp only[ab]at hq;have:=bq.1 hq.1;omega
theorem Kg (ms:List aJ):(c9 ms).1.length≤1000000000∧∀p∈(c9 ms).1,p.2.1.length≤1000000000:=by unfold c9;cases hc:cx (ms.length:Int) 1 3&&(ms.all fj&&kK (jv ms))with|false=>exact⟨by simp,by simp⟩|true=>simp only[ab,bq]at hc;have:=D5 ms 0 ([0],[]) ⟨by simp,rfl,by simp⟩ hc.2.1;rw[bM]at this;exact sO this (by omega)
end
end Go.Pu
