import Derived.Test.YtjoicgadhgkphaaGreatDnData
import Derived.Test.YtjoicgadhgkphaaGreatPure
namespace Go.Pu
open Go.Dn
set_option linter.unusedSimpArgs false
set_option linter.unusedVariables false
noncomputable section
/- Plain laws of the partial operations and of loops. -/
theorem wrap64 {n:Int}(h1: -9223372036854775808≤n)(h2:n≤9223372036854775807):aw n=n:=by simp only[aw,eP,IntKind.wrap,IntKind.bits,IntKind.signed];simp;omega
@[simp] theorem ab {α R:Type}(a:α)(k:α→Option R):aa (some a) k=k a:=rfl
@[simp] theorem TX {α R:Type}(k:α→Option R):aa none k=none:=rfl
@[simp] theorem uV {α R:Type}(c:Bool)(x y:α)(k:α→Option R):aa (cond c (some x) (some y)) k=k (cond c x y):=by cases c<;>rfl
theorem bk {α:Type}(c:Bool)(x y:α):cond c (some x) (some y)=some (cond c x y):=by cases c<;>rfl
theorem aM {R:Type}{n:Nat}{k:Option R}(h:n≤1073741824):room n k=k:=by simp[room,h]
theorem wg {α:Type}(xs:List α)(i:Nat):idx xs (i:Int)=xs[i]?:=rfl
theorem a4 {α:Type}{xs:List α}{i:Nat}(h:i<xs.length):idx xs (i:Int)=some xs[i]:=by rw[wg];exact List.getElem?_eq_getElem h
def Rq {σ R:Type}(step:Nat→σ→(σ→Option R)→Option R)(fin:σ→Option R)(N:Nat):Nat→Nat→σ→Option R
 |0,_,s=>fin s
 |n+1,i,s=>step i s (λs'=>Rq step fin N n (i+1) s')
theorem wi {X σ R:Type}{T:(X→Option R)→X→Option R}(N:Nat)(e:σ→Nat→X)(step:Nat→σ→(σ→Option R)→Option R)(fin:σ→Option R)(hs:∀i s nx,i<N→T nx (e s i)=step i s (λs'=>nx (e s' (i+1))))(hf:∀s nx,T nx (e s N)=fin s): ∀n i s,i≤N→N-i<n→aW T n (e s i)=Rq step fin N (N-i) i s:=by
 intro n;induction n with
 |zero=>intro i s _ h;omega
 |succ n ih=>
  intro i s hi hn;rw[aW];rcases bc i N with hlt|hge;rw[hs i s _ hlt,show N-i=(N-(i+1))+1 by omega,Rq];congr 1;funext s';exact ih (i+1) s' (by omega) (by omega);have:i=N:=by omega
  subst this;rw[hf,dp,Rq]
def sG {α σ R:Type}(step:α→σ→(σ→Option R)→Option R)(fin:σ→Option R):List α→σ→Option R
 |[],s=>fin s
 |x::xs,s=>step x s (sG step fin xs)
theorem tL {α X σ R:Type}{T:(X→Option R)→X→Option R}(xs:List α)(e:σ→Nat→X)(step:α→σ→(σ→Option R)→Option R)(fin:σ→Option R)(hs:∀i (h:i<xs.length) s nx,T nx (e s i)=step xs[i] s (λs'=>nx (e s' (i+1))))(hf:∀s nx,T nx (e s xs.length)=fin s): ∀n i s,i≤xs.length→xs.length-i<n→aW T n (e s i)=sG step fin (xs.drop i) s:=by
 intro n;induction n with
 |zero=>intro i s _ h;omega
 |succ n ih=>
  intro i s hi hn;rw[aW];rcases bc i xs.length with hlt|hge;rw[hs i hlt s _,bh hlt,sG];congr 1;funext s';exact ih (i+1) s' (by omega) (by omega);have:i=xs.length:=by omega
  subst this;rw[hf,List.drop_length,sG]
def mF:(t:CT)→t.D→Nat
 | .int _,_=>0
 | .bool,_=>0
 | .str,s=>s.length
 | .sl e,xs=>xs.length+(xs.map (mF e)).sum
 | .pair a b,x=>mF a x.1+mF b x.2
def bK (n:Nat):(t:CT)→t.D→Prop
 | .int _,_=>True
 | .bool,_=>True
 | .str,s=>s.length≤n
 | .sl e,xs=>xs.length≤n∧∀x∈xs,bK n e x
 | .pair a b,x=>bK n a x.1∧bK n b x.2
theorem xr {α:Type}(f:α→Nat):∀(xs:List α)(x:α),x∈xs→f x≤(xs.map f).sum
 |y::ys,x,h=>by rcases bu.1 h with rfl|h;simp;have:=xr f ys x h;simp;omega
theorem wC {n:Nat}:∀{t:CT}{x:t.D},mF t x≤n→bK n t x
 | .int _,_,_=>trivial
 | .bool,_,_=>trivial
 | .str,_,h=>h
 | .sl e,xs,h=>by simp only[mF]at h;exact⟨by omega,λx hx=>wC (by have:=xr (mF e) xs x hx;omega)⟩
 | .pair a b,x,h=>by simp only[mF]at h;exact⟨wC (by omega),wC (by omega)⟩
theorem bK.mono {n m:Nat}(h:n≤m):∀{t:CT}{x:t.D},bK n t x→bK m t x
 | .int _,_,_=>trivial
 | .bool,_,_=>trivial
 | .str,_,k=>aP k h
 | .sl _,_,k=>⟨aP k.1 h,λx hx=>bK.mono h (k.2 x hx)⟩
 | .pair _ _,_,k=>⟨bK.mono h k.1,bK.mono h k.2⟩
def nO:(t:CT)→t.D→Prop
 | .int k,n=>k.min≤n∧n≤k.max
 | .bool,_=>True
 | .str,s=>s.length≤9223372036854775807
 | .sl e,xs=>xs.length≤9223372036854775807∧∀x∈xs,nO e x
 | .pair a b,x=>nO a x.1∧nO b x.2
def gB (l n:Int):Int:=if n≤l then l-n else-1
def AO {α β R:Type}(f:α→Option β)(k0:List β→Int→Option R)(v0:List α)(nx:List β×Int→Option R)(x:List β×Int):Option R:=
 cond (decide (x.2<(List.length v0:Int))) (
  aa (idx v0 x.2) λx1=>
  aa (f x1) λr2=>
  aa (idx x.1 x.2) λ_=>
  aa (idx x.1 x.2) λ_=>
  nx (List.set x.1 (Int.toNat x.2) r2,aw (x.2+1))) (
  k0 x.1 x.2)
noncomputable def GS {α β:Type}(f:α→Option β)(z:β)(a0:List α):Option (List β):=
 if 0≤((List.length a0:Int))∧((List.length a0:Int))≤((List.length a0:Int)) then(
 room (Int.toNat ((List.length a0:Int))) (
 aW (AO f (λy5 _=>some y5) a0) fuel (List.replicate (Int.toNat ((List.length a0:Int))) z,0))) else none
theorem lH {α:Type}{f:α→Option α}{z:α}{a:List α}(hn:a.length≤1073741824)(hf:∀x∈a,f x=some x):GS f z a=some a:=by
 unfold GS;have hfu:=fg;rw[az (by omega),aM (by simp;omega)]
 have key:=wi (T:=AO f (λy5 _=>some y5) a) a.length (λ(_:Unit) i=>(a.take i++List.replicate (a.length-i) z,(i:Int))) (λ_ s k=>k s) (λ_=>some a)
  (λi s nx hi=>by
   have h1:(a.take i).length=i:=by simp;omega
   have hl:i<(a.take i++List.replicate (a.length-i) z).length:=by simp;omega
   simp only[AO];rw[aj (by omega)];simp only[ae,a4 hi,ab,hf _ (aG hi),a4 hl];congr 1;refine Prod.ext ?_ (wrap64 (by omega) (by omega));simp only[ax];rw[List.set_append_right _ _ (by omega),h1,dp,bB hi,show a.length-i=(a.length-(i+1))+1 by omega,List.replicate_succ,List.set_cons_zero,aD,List.singleton_append])
  (λs nx=>by simp only[AO];rw[ah (by omega)];simp)
  fuel 0 () (by omega) (by omega)
 simp only[List.take_zero,a9,Nat.sub_zero,ax]at key⊢;have e:((0:Nat):Int)=0:=rfl;rw[e]at key;rw[key];have:∀n i,Rq (R:=List α) (λ_ (s:Unit) k=>k s) (λ_=>some a) a.length n i ()=some a:=by intro n;induction n with|zero=>intro i;rfl|succ n ih=>intro i;rw[Rq];exact ih _
 exact this _ _
def AN {α R:Type}(f:α→Int→Option Int)(k0:Int→Int→Option R)(k1:Int→Int→Int→Option R)(v0:List α)(nx:Int×Int→Option R)(x:Int×Int):Option R:=
 cond (decide (x.2<((List.length v0:Int)))) (
  aa (idx v0 x.2) λx1=>
  aa (f x1 x.1) λr2=>
  cond (decide (r2<0)) (
   k1 r2 (-1) x.2) (
   nx (r2,aw (x.2+1)))) (
  k0 x.1 x.2)
noncomputable def AM {α:Type}(f:α→Int→Option Int)(a0:List α)(a1:Int):Option Int:=
 cond (decide ((aw (a1-((List.length a0:Int))))<0)) (
  some (-1)) (
  aW (AN f (λy3 _=>some y3) (λ_ y6 _=>some y6) a0) fuel (aw (a1-((List.length a0:Int))),0))
theorem CY {α:Type}{f:α→Int→Option Int}{s:α→Nat}{a:List α}{l:Int}(h0:0≤l)(h1:l≤1048576)(hm:a.length≤9223372036854775807)(hf:∀x∈a,∀l:Int,0≤l→l≤1048576→∃r,f x l=some r∧((s x:Int)≤l→r=l-s x)∧(¬(s x:Int)≤l→r<0)):AM f a l=some (gB l ((a.length+(a.map s).sum:Nat):Int)):=by
 unfold AM;have hfu:=fg;rw[wrap64 (by omega) (by omega)];rcases Int.lt_or_le (l-a.length) 0 with hneg|hpos;rw[aj hneg];simp only[ae,gB];rw[ar (by omega)];rw[ah (by omega)];simp only[af];have key:=tL (T:=AN f (λy3 _=>some y3) (λ_ y6 _=>some y6) a) a (λ(q:Int) i=>(q,(i:Int))) (λx q k=>aa (f x q) λr=>cond (decide (r<0)) (some (-1)) (k r)) (λq=>some q) (λi hi q nx=>by simp only[AN];rw[aj (by omega)];simp only[ae,a4 hi,ab];rw[wrap64 (by omega) (by omega)];rfl) (λq nx=>by simp only[AN];rw[ah (by omega)];rfl) fuel 0 (l-a.length) (by omega) (by omega);have e:((0:Nat):Int)=0:=rfl;rw[e,cY]at key;rw[key];have main:∀(b:List α)(q:Int),0≤q→q≤1048576→(∀x∈b,x∈a)→sG (λx q k=>aa (f x q) λr=>cond (decide (r<0)) (some (-1)) (k r)) (λq=>some q) b q=some (gB q ((b.map s).sum:Nat)):=by intro b;induction b with|nil=>intro q hq _ _;simp[sG,gB,hq]|cons x b ih=>intro q hq hq2 hb;obtain⟨r,hr,hr1,hr2⟩:=hf x (hb x (by simp)) q hq hq2;rw[sG,hr,ab];by_cases hle:(s x:Int)≤q;have:=hr1 hle;subst this;rw[ah (by omega)];simp only[af];rw[ih _ (by omega) (by omega) (λy hy=>hb y (by simp[hy]))];simp only[gB,cj,List.sum_cons];congr 1;split<;>split<;>omega;rw[aj (hr2 hle)];simp only[ae,gB,cj,List.sum_cons];rw[ar (by omega)]
 rw[main a _ (by omega) (by omega) (λx h=>h)];simp only[gB];congr 1;split<;>split<;>omega
def Az {α R:Type}(f:α→α→Option Bool)(k0:Int→Option R)(k1:Bool→Int→Option R)(v0 v1:List α)(nx:Int→Option R)(x:Int):Option R:=
 cond (decide (x<((List.length v0:Int)))) (
  aa (idx v0 x) λx1=>
  aa (idx v1 x) λx2=>
  aa (f x1 x2) λr3=>
  cond (!r3) (
   k1 false x) (
   nx (aw (x+1)))) (
  k0 x)
noncomputable def FP {α:Type}(f:α→α→Option Bool)(a0 a1:List α):Option Bool:=
 cond (((List.length a0:Int)) !=((List.length a1:Int))) (
  some false) (
  aW (Az f (λ_=>some true) (λy5 _=>some y5) a0 a1) fuel 0)
theorem gX {α:Type}{f:α→α→Option Bool}{a:List α}(hm:a.length≤1000000000000)(hf:∀x∈a,f x x=some true):FP f a a=some true:=by
 unfold FP;have hfu:=fg;simp only[dP,af];have key:=tL (T:=Az f (λ_=>some true) (λy5 _=>some y5) a a) a (λ(_:Unit) i=>(i:Int)) (λx s k=>aa (f x x) λr=>cond (!r) (some false) (k s)) (λ_=>some true) (λi hi s nx=>by simp only[Az];rw[aj (by omega)];simp only[ae,a4 hi,ab];rw[wrap64 (by omega) (by omega)];rfl) (λs nx=>by simp only[Az];rw[ah (by omega)];rfl) fuel 0 () (by omega) (by omega);have e:((0:Nat):Int)=0:=rfl;rw[e,cY]at key;rw[key];have main:∀(b:List α),(∀x∈b,x∈a)→sG (λx s k=>aa (f x x) λr=>cond (!r) (some false) (k s)) (λ_=>some true) b ()=some true:=by intro b;induction b with|nil=>intro _;rfl|cons x b ih=>intro hb;rw[sG,hf x (hb x (by simp))];simp only[ab,au,af];exact ih (λy hy=>hb y (by simp[hy]))
 exact main a (λx h=>h)
theorem C3 {α:Type}{z:α}{a:List α}(hn:a.length≤1073741824):GS some z a=some a:=lH hn (λ_ _=>rfl)
theorem xR {α:Type}[BEq α][LawfulBEq α]{a:List α}(hm:a.length≤1000000000000):FP (λx y:α=>some (x==y)) a a=some true:=gX hm (λx _=>by simp)
theorem vM {α:Type}{f:α→Nat}:∀{xs:List α},(∀x∈xs,f x=0)→(xs.map f).sum=0
 |[],_=>rfl
 |x::xs,h=>by have:=vM (xs:=xs) (f:=f) (λy hy=>h y (by simp[hy]));simp[h x (by simp),this]
def cQ (f:Int→Option Int)(n:Nat):Prop:=∀l:Int,0≤l→l≤1048576→f l=some (gB l n)
theorem cQ.nil:cQ (λl=>some l) 0:=λl h0 _=>by simp[gB,h0]
theorem cQ.len {n m:Nat}(hn:n≤9223372036854775807){k:Int→Option Int}(h:cQ k m): cQ (λl=>cond (decide (aw (l-(n:Int))<0)) (some (-1)) (k (aw (l-(n:Int))))) (n+m):=by intro l h0 h1;simp only;rw[wrap64 (by omega) (by omega)];by_cases hl:l-(n:Int)<0;rw[aj hl];simp only[ae,gB];rw[ar (by omega)];rw[ah hl];simp only[af];rw[h _ (by omega) (by omega)];simp only[gB];congr 1;split<;>split<;>omega
theorem cQ.sub {f k:Int→Option Int}{n m:Nat}(hf:cQ f n)(h:cQ k m):cQ (λl=>aa (f l) λr=>cond (decide (r<0)) (some (-1)) (k r)) (n+m):=by
 intro l h0 h1;simp only;rw[hf l h0 h1,ab];by_cases hl:(n:Int)≤l;have e:gB l n=l-n:=by simp[gB,hl]
 rw[e,ah (by omega)];simp only[af];rw[h _ (by omega) (by omega)];simp only[gB];congr 1;split<;>split<;>omega;have e:gB l n= -1:=by simp[gB,hl]
 rw[e];simp only[gB];rw[ar (by omega)];rfl
theorem cQ.cast {f:Int→Option Int}{n m:Nat}(h:cQ f n)(e:n=m):cQ f m:=e▸h
theorem cQ.list {α:Type}{f:α→Int→Option Int}{s:α→Nat}{a:List α}(hm:a.length≤9223372036854775807)(hf:∀x∈a,cQ (f x) (s x)):cQ (AM f a) (a.length+(a.map s).sum):=λ_ h0 h1=>CY h0 h1 hm (λx hx l h0 h1=>⟨_,hf x hx l h0 h1,λh=>by simp[gB,h],λh=>by simp[gB,h]⟩)
theorem cQ.flat {n:Nat}(hn:n≤9223372036854775807):cQ (λl=>cond (decide (aw (l-(n:Int))<0)) (some (-1)) (some (aw (l-(n:Int))))) n:=(cQ.len (n:=n) hn cQ.nil).cast (by omega)
theorem cQ.strs {a:List (List UInt8)}(hm:nO (.sl .str) a):cQ (AM (λx l=>some (aw (l-(x.length:Int)))) a) (mF (.sl .str) a):=λ_ h0 h1=>CY (s:=mF .str) h0 h1 hm.1 (λx hx l h0 h1=>⟨l-x.length,by have:x.length≤9223372036854775807:=hm.2 x hx;rw[wrap64 (by omega) (by omega)],λ_=>rfl,λh=>by simp only[mF]at h;omega⟩)
theorem cQ.use {f:Int→Option Int}{n:Nat}(hf:cQ f n){l:Int}(h0:0≤l)(h1:l≤1048576){k:Int→Option Bool}(hk:(n:Int)≤l→k (l-n)=some true): (aa (f l) λr=>cond (decide (r<0)) (some true) (k r))=some true:=by
 rw[hf l h0 h1,ab];by_cases hl:(n:Int)≤l;have e:gB l n=l-n:=by simp[gB,hl]
 rw[e,ah (by omega)];exact hk hl;have e:gB l n= -1:=by simp[gB,hl]
 rw[e];rfl
theorem G1 {α R:Type}{T:(Int→Option R)→Int→Option R}{fin hit:Option R}(p:α→Bool)(a:List α)(h:a.length≤1000000000000)(hs:∀i (hi:i<a.length) nx,T nx (i:Int)=cond (p a[i]) hit (nx ((i+1:Nat):Int)))(hf:∀nx,T nx (a.length:Int)=fin): aW T fuel 0=cond (a.any p) hit fin:=by
 have hfu:=fg;have key:∀n i,i≤a.length→a.length-i<n→aW T n (i:Int)=cond ((a.drop i).any p) hit fin:=by
  intro n;induction n with
  |zero=>intro i _ h;omega
  |succ n ih=>
   intro i hi hn;rw[aW];rcases bc i a.length with hlt|hge;rw[hs i hlt,bh hlt,List.any_cons];cases hq:p a[i]with|true=>rfl|false=>exact ih (i+1) (by omega) (by omega)
   have:i=a.length:=by omega
   subst this;rw[hf,List.drop_length];rfl
 exact key fuel 0 (by omega) (by omega)
theorem fF {R:Type}{T:(Int→Option R)→Int→Option R}{fin hit:Option R}(p:Nat→Bool)(N:Nat)(h:N≤1000000000000)(hs:∀i nx,i<N→T nx (i:Int)=cond (!(p i)) hit (nx ((i+1:Nat):Int)))(hf:∀nx,T nx (N:Int)=fin): aW T fuel 0=cond ((List.range N).all p) fin hit:=by
 have hfu:=fg;have key:∀n i,i≤N→N-i<n→aW T n (i:Int)=cond ((List.range' i (N-i)).all p) fin hit:=by
  intro n;induction n with
  |zero=>intro i _ h;omega
  |succ n ih=>
   intro i hi hn;rw[aW];rcases bc i N with hlt|hge;rw[hs i _ hlt,show N-i=(N-(i+1))+1 by omega,List.range'_succ,bg];cases hq:p i with|false=>rfl|true=>exact ih (i+1) (by omega) (by omega)
   have:i=N:=by omega
   subst this;rw[hf,dp];rfl
 have:=key fuel 0 (by omega) (by omega);rw[Nat.sub_zero,←List.range_eq_range']at this;exact this
theorem ry {α R:Type}{T:(Int→Option R)→Int→Option R}{fin hit:Option R}(p:α→Bool)(a:List α)(h:a.length≤1000000000000)(hs:∀i (hi:i<a.length) nx,T nx (i:Int)=cond (!(p a[i])) hit (nx ((i+1:Nat):Int)))(hf:∀nx,T nx (a.length:Int)=fin): aW T fuel 0=cond (a.all p) fin hit:=by
 have:=G1 (T:=T) (fin:=fin) (hit:=hit) (λx=> !(p x)) a h hs hf;rw[this];have e:a.any (λx=> !(p x))= !(a.all p):=by rw[bH];simp
 rw[e];cases a.all p<;>rfl
theorem DM {X R:Type}{T:(X→Option R)→X→Option R}{fin hit:Option R}(e:Nat→X)(p:Nat→Bool)(N:Nat)(h:N≤1000000000000)(hs:∀i nx,i<N→(∀j,j<i→p j=true)→T nx (e i)=cond (!(p i)) hit (nx (e (i+1))))(hf:(∀j,j<N→p j=true)→∀nx,T nx (e N)=fin): aW T fuel (e 0)=cond ((List.range N).all p) fin hit:=by
 have hfu:=fg;have key:∀n i,i≤N→N-i<n→(∀j,j<i→p j=true)→aW T n (e i)=cond ((List.range' i (N-i)).all p) fin hit:=by
  intro n;induction n with
  |zero=>intro i _ h;omega
  |succ n ih=>
   intro i hi hn hp;rw[aW];rcases bc i N with hlt|hge;rw[hs i _ hlt hp,show N-i=(N-(i+1))+1 by omega,List.range'_succ,bg];cases hq:p i with|false=>rfl|true=>refine ih (i+1) (by omega) (by omega) λj hj=>?_;by_cases hji:j=i;rw[hji];exact hq;exact hp j (by omega)
   have:i=N:=by omega
   subst this;rw[hf hp,dp];rfl
 have:=key fuel 0 (by omega) (by omega) (λj hj=>absurd hj (by omega));rw[Nat.sub_zero,←List.range_eq_range']at this;exact this
theorem vZ {α R:Type}{T:(Int→Option R)→Int→Option R}{fin:Option R}{hit:Int→Option R}(p:α→Bool)(a:List α)(h:a.length≤1000000000000)(hs:∀i (hi:i<a.length) nx,T nx (i:Int)=cond (p a[i]) (hit (i:Int)) (nx ((i+1:Nat):Int)))(hf:∀nx,T nx (a.length:Int)=fin): aW T fuel 0=(match a.findIdx? p with|some i=>hit (i:Int)|none=>fin):=by
 have hfu:=fg;have key:∀n i,i≤a.length→a.length-i<n→aW T n (i:Int)=(match (a.drop i).findIdx? p with|some j=>hit ((i+j:Nat):Int)|none=>fin):=by
  intro n;induction n with
  |zero=>intro i _ h;omega
  |succ n ih=>
   intro i hi hn;rw[aW];rcases bc i a.length with hlt|hge;rw[hs i hlt,bh hlt,List.findIdx?_cons];cases hq:p a[i]with|true=>rfl|false=>have:=ih (i+1) (by omega) (by omega);simp only[af];refine this.trans ?_;cases (a.drop (i+1)).findIdx? p with|none=>rfl|some j=>simp only[bW,aK,bj];congr 2;omega
   have:i=a.length:=by omega
   subst this;rw[hf,List.drop_length];rfl
 have:=key fuel 0 (by omega) (by omega);refine this.trans ?_;rw[cY];cases a.findIdx? p with|none=>rfl|some j=>simp only[bE]
theorem cF (a b:Bool):(bif a then b else false)=(a&&b):=by cases a<;>rfl
theorem cT (a b:Bool):(bif a then true else b)=(a||b):=by cases a<;>rfl
theorem cN (a b:Bool):(bif a then false else b)=(!a&&b):=by cases a<;>rfl
def CG {α σ R:Type}(g:α→σ→Except (Option R) σ)(fin:σ→Option R):List α→σ→Option R
 |[],s=>fin s
 |x::xs,s=>match g x s with| .error r=>r| .ok s'=>CG g fin xs s'
theorem oK {α X σ R:Type}{T:(X→Option R)→X→Option R}(xs:List α)(e:σ→Nat→X)(Inv:Nat→σ→Prop)(g:α→σ→Except (Option R) σ)(fin:σ→Option R)(h:xs.length≤1000000000000)(hs:∀i (hi:i<xs.length) s nx,Inv i s→T nx (e s i)=match g xs[i] s with| .error r=>r| .ok s'=>nx (e s' (i+1)))(hn:∀i (hi:i<xs.length) s s',Inv i s→g xs[i] s=.ok s'→Inv (i+1) s')(hf:∀s nx,Inv xs.length s→T nx (e s xs.length)=fin s)(s:σ)(h0:Inv 0 s): aW T fuel (e s 0)=CG g fin xs s:=by
 have key:∀n i s,i≤xs.length→xs.length-i<n→Inv i s→aW T n (e s i)=CG g fin (xs.drop i) s:=by
  intro n;induction n with
  |zero=>intro i s _ h;omega
  |succ n ih=>
   intro i s hi hn' hI;rw[aW];rcases bc i xs.length with hlt|hge;rw[hs i hlt s _ hI,bh hlt,CG];cases hg:g xs[i] s with|error r=>rfl|ok s'=>exact ih (i+1) s' (by omega) (by omega) (hn i hlt s s' hI hg)
   have:i=xs.length:=by omega
   subst this;rw[hf s _ hI,List.drop_length,CG]
 have hfu:=fg;have:=key fuel 0 s (by omega) (by omega) h0;rwa[cY]at this
theorem uF {α σ R:Type}(f:σ→α→σ)(fin:σ→Option R):∀(xs:List α)(s:σ),CG (λx s=> .ok (f s x)) fin xs s=fin (xs.foldl f s)
 |[],_=>rfl
 |x::xs,s=>by rw[CG];exact uF f fin xs (f s x)
theorem cu {X R:Type}{T:(X→Option R)→X→Option R}{fin:Option R}(e:Nat→X)(N:Nat)(h:N≤1000000000000)(hs:∀i nx,i<N→T nx (e i)=nx (e (i+1)))(hf:∀nx,T nx (e N)=fin):aW T fuel (e 0)=fin:=by rw[DM (hit:=fin) (fin:=fin) e (λ_=>true) N h (λi nx hi _=>by rw[hs i nx hi];rfl) (λ_ nx=>hf nx)];cases (List.range N).all (λ_=>true)<;>rfl
theorem fX {α R:Type}{l:List α}{k:Option R}(h:l.length≤1000000000):room (List.length ([]:List α)+l.length) k=k:=aM (by simp only[dh];omega)
theorem xE (a:List Bytes)(hm:nO (.sl .str) a):cQ (je a) (mF (.sl .str) a):=cQ.strs hm
theorem ME (a:List Int)(hm:nO (.sl (.int .i64)) a):cQ (sP a) (mF (.sl (.int .i64)) a):=(cQ.flat (n:=a.length) hm.1).cast (by simp only[mF];rw[vM (λx _=>by simp only[mF])];rfl)
theorem EG (a:Filter)(hm:nO dK a):cQ (mT a) (mF dK a):=
 cQ.cast (f:=mT a) (cQ.sub (ME a.2.2 hm.2.2) cQ.nil) (by simp only[mF];try omega)
theorem P2 (a:List dC)(hm:nO (.sl dk) a):cQ (uu a) (mF (.sl dk) a):=(cQ.flat (n:=a.length) hm.1).cast (by simp only[mF];rw[vM (λx _=>by simp only[mF])];rfl)
theorem P3 (a:List Slot)(hm:nO (.sl cI) a):cQ (uv a) (mF (.sl cI) a):=(cQ.flat (n:=a.length) hm.1).cast (by simp only[mF];rw[vM (λx _=>by simp only[mF])];rfl)
theorem GO (a:List Slot)(hm:nO (.sl cI) a):cQ (l7 a) (mF (.sl cI) a):=
 cQ.cast (f:=l7 a) (cQ.sub (P3 a hm) cQ.nil) (by simp only[mF];try omega)
theorem Ob (a:eO)(hm:nO gE a):cQ (pO a) (mF gE a):=
 cQ.cast (f:=pO a) (cQ.len (n:=a.1.length) hm.1 (cQ.sub (ME a.2 hm.2) cQ.nil)) (by simp only[mF];try omega)
theorem Jn (a:dj)(hm:nO ed a):cQ (nj a) (mF ed a):=
 cQ.cast (f:=nj a) (cQ.sub (P2 a.1 hm.1) (cQ.sub (GO a.2.1 hm.2.1) (cQ.sub (Ob a.2.2 hm.2.2) cQ.nil))) (by simp only[mF];try omega)
theorem Oc (a:Stream)(hm:nO bC a):cQ (mU a) (mF bC a):=
 cQ.cast (f:=mU a) (cQ.len (n:=a.2.2.1.length) hm.2.2.1 cQ.nil) (by simp only[mF];try omega)
theorem Li (a:List Stream)(hm:nO (.sl bC) a):cQ (sa a) (mF (.sl bC) a):=cQ.list (f:=mU) (s:=mF bC) hm.1 (λx hx=>Oc x (hm.2 x hx))
theorem Sw (a:dV)(hm:nO cw a):cQ (qj a) (mF cw a):=
 cQ.cast (f:=qj a) (cQ.sub (EG a.1 hm.1) (cQ.sub (Jn a.2.1 hm.2.1) (cQ.sub (Li a.2.2.2.1 hm.2.2.2.1) (cQ.sub (xE a.2.2.2.2 hm.2.2.2.2) cQ.nil)))) (by simp only[mF];try omega)
theorem P4 (a:List dV)(hm:nO (.sl cw) a):cQ (uw a) (mF (.sl cw) a):=cQ.list (f:=qj) (s:=mF cw) hm.1 (λx hx=>Sw x (hm.2 x hx))
theorem Jo (a:List (List Bytes))(hm:nO (.sl (.sl .str)) a):cQ (qD a) (mF (.sl (.sl .str)) a):=cQ.list (f:=je) (s:=mF (.sl .str)) hm.1 (λx hx=>xE x (hm.2 x hx))
theorem wJ (a:List al)(hm:nO (.sl ay) a):cQ (jf a) (mF (.sl ay) a):=(cQ.flat (n:=a.length) hm.1).cast (by simp only[mF];rw[vM (λx _=>by simp only[mF])];rfl)
theorem Lg (a:aS)(hm:nO ba a):cQ (lz a) (mF ba a):=
 cQ.cast (f:=lz a) (cQ.sub (EG a.1 hm.1) cQ.nil) (by simp only[mF];try omega)
theorem Jm (a:List aS)(hm:nO (.sl ba) a):cQ (qC a) (mF (.sl ba) a):=cQ.list (f:=lz) (s:=mF ba) hm.1 (λx hx=>Lg x (hm.2 x hx))
theorem P1 (a:a8)(hm:nO br a):cQ (qZ a) (mF br a):=
 cQ.cast (f:=qZ a) (cQ.sub (P4 a.1 hm.1) (cQ.sub (Jo a.2.1 hm.2.1) (cQ.sub (wJ a.2.2.1 hm.2.2.1) (cQ.sub (Jm a.2.2.2.1 hm.2.2.2.1) (cQ.sub (xE a.2.2.2.2 hm.2.2.2.2) cQ.nil))))) (by simp only[mF];try omega)
theorem Lh (a:cJ)(hm:nO iI a):cQ (oH a) (mF iI a):=
 cQ.cast (f:=oH a) (cQ.len (n:=a.2.2.2.2.2.2.2.length) hm.2.2.2.2.2.2.2 cQ.nil) (by simp only[mF];try omega)
theorem Oa (a:aC)(hm:nO bT a):cQ (pN a) (mF bT a):=
 cQ.cast (f:=pN a) (cQ.sub (Lh a.2.2.2.2.2.2.2.2 hm.2.2.2.2.2.2.2.2) cQ.nil) (by simp only[mF];try omega)
theorem W0 (a:Act)(hm:nO AU a):cQ (ur a) (mF AU a):=
 cQ.cast (f:=ur a) (cQ.sub (Oa a.2.1 hm.2.1) (cQ.len (n:=a.2.2.2.2.1.length) hm.2.2.2.2.1 cQ.nil)) (by simp only[mF];try omega)
theorem Lf (a:fZ)(hm:nO ft a):cQ (oG a) (mF ft a):=
 cQ.cast (f:=oG a) (cQ.sub (W0 a.2.2.1 hm.2.2.1) (cQ.len (n:=a.2.2.2.2.1.length) hm.2.2.2.2.1 cQ.nil)) (by simp only[mF];try omega)
theorem sA (a:List Bytes)(h:bK 1048576 (.sl .str) a):ji a=some a:=C3 (z:=([]:Bytes)) (aP h.1 (by omega))
theorem AQ (a:List Int)(h:bK 1048576 (.sl (.int .i64)) a):sT a=some a:=C3 (z:=0) (aP h.1 (by omega))
theorem wE (a:Filter)(h:bK 1048576 dK a):kA a=some a:=by first|(simp only[kA,AQ _ h.2.2,ab];done)|(simp only[kA,AQ _ h.2.2,ab];rfl)
theorem SB (a:dC)(h:bK 1048576 dk a):sU a=some a:=rfl
theorem Jq (a:List dC)(h:bK 1048576 (.sl dk) a):ux a=some a:=lH (f:=sU) (z:=(0,0,0,0,0,0,0,0,0)) (aP h.1 (by omega)) (λx hx=>SB x (h.2 x hx))
theorem AP (a:fe)(h:bK 1048576 iH a):sS a=some a:=rfl
theorem SC (a:Slot)(h:bK 1048576 cI a):nI a=some a:=by first|(simp only[nI,AP _ h.2.1,ab];done)|(simp only[nI,AP _ h.2.1,ab];rfl)
theorem Jr (a:List Slot)(h:bK 1048576 (.sl cI) a):uy a=some a:=lH (f:=nI) (z:=(0,(0,0,0,0,0),0)) (aP h.1 (by omega)) (λx hx=>SC x (h.2 x hx))
theorem yI (a:List Slot)(h:bK 1048576 (.sl cI) a):jg a=some a:=by first|(simp only[jg,Jr _ h,ab];done)|(simp only[jg,Jr _ h,ab];rfl)
theorem EK (a:eO)(h:bK 1048576 gE a):mW a=some a:=by first|(simp only[mW,AQ _ h.2,ab];done)|(simp only[mW,AQ _ h.2,ab];rfl)
theorem Af (a:dj)(h:bK 1048576 ed a):ki a=some a:=by first|(simp only[ki,Jq _ h.1,yI _ h.2.1,EK _ h.2.2,ab];done)|(simp only[ki,Jq _ h.1,yI _ h.2.1,EK _ h.2.2,ab];rfl)
theorem Od (a:Stream)(h:bK 1048576 bC a):kB a=some a:=by first|(simp only[kB,AP _ h.1,ab];done)|(simp only[kB,AP _ h.1,ab];rfl)
theorem C6 (a:List Stream)(h:bK 1048576 (.sl bC) a):sj a=some a:=lH (f:=kB) (z:=((0,0,0,0,0),0,([]:Bytes),false)) (aP h.1 (by omega)) (λx hx=>Od x (h.2 x hx))
theorem SE (a:dV)(h:bK 1048576 cw a):nJ a=some a:=by first|(simp only[nJ,wE _ h.1,Af _ h.2.1,C6 _ h.2.2.2.1,sA _ h.2.2.2.2,ab];done)|(simp only[nJ,wE _ h.1,Af _ h.2.1,C6 _ h.2.2.2.1,sA _ h.2.2.2.2,ab];rfl)
theorem Js (a:List dV)(h:bK 1048576 (.sl cw) a):uz a=some a:=lH (f:=nJ) (z:=((0,false,([]:List Int)),(([]:List dC),([]:List Slot),([]:Bytes),([]:List Int)),0,([]:List Stream),([]:List Bytes))) (aP h.1 (by omega)) (λx hx=>SE x (h.2 x hx))
theorem Ag (a:List (List Bytes))(h:bK 1048576 (.sl (.sl .str)) a):qF a=some a:=lH (f:=ji) (z:=([]:List Bytes)) (aP h.1 (by omega)) (λx hx=>sA x (h.2 x hx))
theorem EI (a:eH)(h:bK 1048576 dW a):tt a=some a:=rfl
theorem xG (a:al)(h:bK 1048576 ay a):dY a=some a:=by first|(simp only[dY,EI _ h.2.2.1,ab];done)|(simp only[dY,EI _ h.2.2.1,ab];rfl)
theorem qL (a:List al)(h:bK 1048576 (.sl ay) a):jj a=some a:=lH (f:=dY) (z:=(0,0,(0,0,0),false,0,0)) (aP h.1 (by omega)) (λx hx=>xG x (h.2 x hx))
theorem Lk (a:aS)(h:bK 1048576 ba a):jh a=some a:=by first|(simp only[jh,wE _ h.1,ab];done)|(simp only[jh,wE _ h.1,ab];rfl)
theorem Ae (a:List aS)(h:bK 1048576 (.sl ba) a):qE a=some a:=lH (f:=jh) (z:=((0,false,([]:List Int)),0,0,0)) (aP h.1 (by omega)) (λx hx=>Lk x (h.2 x hx))
theorem Rh (a:a8)(h:bK 1048576 br a):g5 a=some a:=by first|(simp only[g5,Js _ h.1,Ag _ h.2.1,qL _ h.2.2.1,Ae _ h.2.2.2.1,sA _ h.2.2.2.2,ab];done)|(simp only[g5,Js _ h.1,Ag _ h.2.1,qL _ h.2.2.1,Ae _ h.2.2.2.1,sA _ h.2.2.2.2,ab];rfl)
theorem C5 (a:cJ)(h:bK 1048576 iI a):si a=some a:=rfl
theorem EJ (a:aC)(h:bK 1048576 bT a):mV a=some a:=by first|(simp only[mV,C5 _ h.2.2.2.2.2.2.2.2,ab];done)|(simp only[mV,C5 _ h.2.2.2.2.2.2.2.2,ab];rfl)
theorem Rf (a:Act)(h:bK 1048576 AU a):se a=some a:=by first|(simp only[se,EJ _ h.2.1,ab];done)|(simp only[se,EJ _ h.2.1,ab];rfl)
theorem C4 (a:eH)(h:bK 1048576 dW a):sg a=some a:=rfl
theorem Lj (a:fZ)(h:bK 1048576 ft a):gA a=some a:=by first|(simp only[gA,Rf _ h.2.2.1,C4 _ h.2.2.2.1,ab];done)|(simp only[gA,Rf _ h.2.2.1,C4 _ h.2.2.2.1,ab];rfl)
theorem xg (a:List Bytes)(h:bK 1000000000000 (.sl .str) a):iZ a a=some true:=xR h.1
theorem L1 (a:List Int)(h:bK 1000000000000 (.sl (.int .i64)) a):sM a a=some true:=xR h.1
theorem DZ (a:Filter)(h:bK 1000000000000 dK a):mR a a=some true:=by simp[mR,L1 _ h.2.2]
theorem RG (a:dC)(h:bK 1000000000000 dk a):qg a a=some true:=by simp[qg]
theorem OP (a:List dC)(h:bK 1000000000000 (.sl dk) a):um a a=some true:=gX (f:=qg) h.1 (λx hx=>RG x (h.2 x hx))
theorem LZ (a:fe)(h:bK 1000000000000 iH a):qf a a=some true:=by simp[qf]
theorem RH (a:Slot)(h:bK 1000000000000 cI a):qh a a=some true:=by simp[qh,LZ _ h.2.1]
theorem OQ (a:List Slot)(h:bK 1000000000000 (.sl cI) a):uo a a=some true:=gX (f:=qh) h.1 (λx hx=>RH x (h.2 x hx))
theorem FR (a:List Slot)(h:bK 1000000000000 (.sl cI) a):lY a a=some true:=by simp[lY,OQ _ h]
theorem MZ (a:eO)(h:bK 1000000000000 gE a):pM a a=some true:=by simp[pM,L1 _ h.2]
theorem HF (a:dj)(h:bK 1000000000000 ed a):ni a a=some true:=by simp[ni,OP _ h.1,FR _ h.2.1,MZ _ h.2.2]
theorem M0 (a:Stream)(h:bK 1000000000000 bC a):mS a a=some true:=by simp[mS,LZ _ h.1]
theorem J1 (a:List Stream)(h:bK 1000000000000 (.sl bC) a):rU a a=some true:=gX (f:=mS) h.1 (λx hx=>M0 x (h.2 x hx))
theorem RI (a:dV)(h:bK 1000000000000 cw a):qi a a=some true:=by simp[qi,DZ _ h.1,HF _ h.2.1,J1 _ h.2.2.2.1,xg _ h.2.2.2.2]
theorem OR (a:List dV)(h:bK 1000000000000 (.sl cw) a):uq a a=some true:=gX (f:=qi) h.1 (λx hx=>RI x (h.2 x hx))
theorem HG (a:List (List Bytes))(h:bK 1000000000000 (.sl (.sl .str)) a):qB a a=some true:=gX (f:=iZ) h.1 (λx hx=>xg x (h.2 x hx))
theorem MY (a:eH)(h:bK 1000000000000 dW a):pL a a=some true:=by simp[pL]
theorem xh (a:al)(h:bK 1000000000000 ay a):eM a a=some true:=by simp[eM,MY _ h.2.2.1]
theorem wG (a:List al)(h:bK 1000000000000 (.sl ay) a):ja a a=some true:=gX (f:=eM) h.1 (λx hx=>xh x (h.2 x hx))
theorem J0 (a:aS)(h:bK 1000000000000 ba a):lr a a=some true:=by simp[lr,DZ _ h.1]
theorem HE (a:List aS)(h:bK 1000000000000 (.sl ba) a):qA a a=some true:=gX (f:=lr) h.1 (λx hx=>J0 x (h.2 x hx))
theorem HD (a:a8)(h:bK 1000000000000 br a):jN a a=some true:=by simp[jN,OR _ h.1,HG _ h.2.1,wG _ h.2.2.1,HE _ h.2.2.2.1,xg _ h.2.2.2.2]
def dB (a lo hi:Int):Bool:=decide (lo≤a)&&decide (a≤hi)
theorem db {a lo hi:Int}:dB a lo hi=true↔lo≤a∧a≤hi:=by simp[dB]
theorem cS (a b c:Int):aQ a b c=some (dB a b c):=by simp only[aQ,bk,ab,dB];cases h:decide (a≥b)<;>rfl
theorem dH (a b c:Int):aE a b c=some (dB a b c):=cS a b c
theorem bI {α:Type}{l:List α}{i:Nat}(h:i<l.length)(d:α):l.getD i d=l[i]:=by rw[List.getD_eq_getElem?_getD,List.getElem?_eq_getElem h];rfl
def w8 (l:List Int)(i:Nat):Bool:=dB (l.getD i 0) 0 4095&& !(decide (0<i)&&decide (l.getD i 0≤l.getD (i-1) 0))
def c6 (f:Filter):Bool:=(List.range f.2.2.length).all (w8 f.2.2)&&(dB f.1 0 281474976710654&&decide ((f.2.2.length:Int)≤8))
theorem lE (f:Filter)(h:f.2.2.length≤1000000000):dD f=some (c6 f):=by
 unfold dD;rw[fF (hit:=some false) (fin:=some (dB f.1 0 281474976710654&&decide ((f.2.2.length:Int)≤8))) (w8 f.2.2) f.2.2.length (by omega) (λi nx hi=>?hs) (λnx=>?hf)]
 case hs=>
  simp only[md]
  rw[aj (by omega),a4 hi,wrap64 (n:=(i:Int)+1) (by omega) (by omega)]
  simp only[ae,ab,cS,w8,bI hi]
  by_cases h0:0<i
  ·have e:aw ((i:Int)-1)=((i-1:Nat):Int):=by rw[wrap64 (by omega) (by omega)];omega
   have hp:i-1<f.2.2.length:=by omega
   rw[e,a4 hp,aj (show(i:Int)>0 by omega),aj h0,bI hp]
   simp only[ae,ab,bm]
   cases dB f.2.2[i] 0 4095<;>cases decide (f.2.2[i]≤f.2.2[i-1])<;>rfl
  ·rw[ah (show¬(i:Int)>0 by omega),ah h0]
   simp only[af,cy]
   cases dB f.2.2[i] 0 4095<;>rfl
 case hf=>
  simp only[md]
  rw[ah (by omega)]
  simp only[af,cS,ab,uV,bk]
  cases dB f.1 0 281474976710654<;>rfl
 unfold c6;cases (List.range f.2.2.length).all (w8 f.2.2)<;>rfl
theorem ll (f:Filter)(h:f.2.2.length≤1000000000):ej f=some (c6 f):=by
 unfold ej;rw[fF (hit:=some false) (fin:=some (dB f.1 0 281474976710654&&decide ((f.2.2.length:Int)≤8))) (w8 f.2.2) f.2.2.length (by omega) (λi nx hi=>?hs) (λnx=>?hf)]
 case hs=>
  simp only[lM]
  rw[aj (by omega),a4 hi,wrap64 (n:=(i:Int)+1) (by omega) (by omega)]
  simp only[ae,ab,dH,w8,bI hi]
  by_cases h0:0<i
  ·have e:aw ((i:Int)-1)=((i-1:Nat):Int):=by rw[wrap64 (by omega) (by omega)];omega
   have hp:i-1<f.2.2.length:=by omega
   rw[e,a4 hp,aj (show(i:Int)>0 by omega),aj h0,bI hp]
   simp only[ae,ab,bm,ge_iff_le]
   cases dB f.2.2[i] 0 4095<;>cases decide (f.2.2[i]≤f.2.2[i-1])<;>rfl
  ·rw[ah (show¬(i:Int)>0 by omega),ah h0]
   simp only[af,cy]
   cases dB f.2.2[i] 0 4095<;>rfl
 case hf=>
  simp only[lM]
  rw[ah (by omega)]
  simp only[af,dH,ab,uV,bk]
  cases dB f.1 0 281474976710654<;>rfl
 unfold c6;cases (List.range f.2.2.length).all (w8 f.2.2)<;>rfl
def tU (r:dC):Bool:=(hZ r).getD false
theorem CP (r:dC):hZ r=some (tU r):=by
 have:∃b,hZ r=some b:=by simp only[hZ,cS,ab,bk];exact⟨_,rfl⟩
 obtain⟨b,hb⟩:=this;simp[tU,hb]
theorem Pa (r:dC):sK r=some (tU r):=CP r
theorem IW {r:dC}(h:tU r=true):r.2.2.2.2.2.2.2.1=0∨r.2.2.2.2.2.2.2.2=0:=by
 by_cases h0:r.2.2.2.2.2.2.2.1=0;exact .inl h0;by_cases h1:r.2.2.2.2.2.2.2.2=0;exact .inr h1;exfalso;have e0:(r.2.2.2.2.2.2.2.1==0)=false:=by simp[h0]
 have e1:(r.2.2.2.2.2.2.2.2==0)=false:=by simp[h1]
 revert h;unfold tU;simp only[hZ,cS,ab,bk,e0,e1,af,dE];have z:∀c:Bool,(bif c then false else false)=false:=by intro c;cases c<;>rfl
 simp only[z];intro h;cases h
def su (l:List dC):Bool:=l.all tU&&decide ((l.length:Int)≤12)
theorem wz (l:List dC)(h:l.length≤1000000000):oS l=some (su l):=by
 unfold oS;rw[ry (hit:=some false) (fin:=some (decide ((l.length:Int)≤12))) tU l (by omega) (λi hi nx=>?hs) (λnx=>?hf)]
 case hs=>
  simp only[nq]
  rw[aj (by omega),a4 hi,wrap64 (by omega) (by omega)]
  simp only[ae,ab,CP];rfl
 case hf=>
  simp only[nq]
  rw[ah (by omega)];rfl
 unfold su;cases l.all tU<;>rfl
theorem Eb (l:List dC)(h:l.length≤1000000000):qW l=some (su l):=by rw[←wz l h];rfl
theorem acQ (x:Int):((BitVec.ofInt 64 x&&&BitVec.ofInt 64 7).toNat:Int)=x%8:=by
 have h7:(BitVec.ofInt 64 7).toNat=2^3-1:=by decide
 rw[BitVec.toNat_and,h7,Nat.and_two_pow_sub_one_eq_mod];simp only[BitVec.toNat_ofInt];omega
theorem X8 (x:Int):((BitVec.ofInt (IntKind.bits .i64) x&&&BitVec.ofInt (IntKind.bits .i64) 7).toNat:Int)=x%8:=acQ x
theorem R9 (x:Int):jz x 8=some (x%8):=by unfold jz;rw[ar (by omega),Int.tmod_eq_emod];split;rw[ah (by omega)];simp;rw[aj (by simp;omega),wrap64 (by simp;omega) (by simp;omega)];simp
def wP (f:fe):Int:=(f.1%8+f.2.1%8+f.2.2.1%8+f.2.2.2.1%8+f.2.2.2.2%8)%8
theorem HZ (f:fe):0≤wP f∧wP f<8:=by unfold wP;omega
theorem Re {n:Int}(h:0≤n):Int.tmod n 8=n%8:=Int.tmod_eq_emod_of_nonneg h
theorem PU (f:fe):pX f=some (wP f):=by
 unfold pX;generalize hL:[f.1,f.2.1,f.2.2.1,f.2.2.2.1,f.2.2.2.2]=L;have hlen:L.length=5:=by rw[←hL];rfl
 have hfu:=fg;have key:=tL (R:=Int) (T:=ju (λ(y2:Int) (y3:Int)=>if 8=0 then none else(some (Int.tmod y2 8))) L) L (λ(s:Int) i=>(s,(i:Int))) (λx s k=>k (aw (s+aw (x%8)))) (λs=>some (Int.tmod s 8)) (λi hi s nx=>by simp only[ju];rw[aj (by omega),a4 hi,wrap64 (n:=(i:Int)+1) (by omega) (by omega)];simp only[ae,ab];rw[X8 L[i]];rfl) (λs nx=>by simp only[ju];rw[ah (by omega)];rfl) fuel 0 0 (by omega) (by omega);refine key.trans ?_;rw[←hL];simp only[cY,sG];rw[wrap64 (n:=f.1%8) (by omega) (by omega),wrap64 (n:=f.2.1%8) (by omega) (by omega),wrap64 (n:=f.2.2.1%8) (by omega) (by omega),wrap64 (n:=f.2.2.2.1%8) (by omega) (by omega),wrap64 (n:=f.2.2.2.2%8) (by omega) (by omega)];rw[wrap64 (n:=0+f.1%8) (by omega) (by omega),wrap64 (n:=0+f.1%8+_) (by omega) (by omega),wrap64 (n:=0+f.1%8+_+_) (by omega) (by omega),wrap64 (n:=0+f.1%8+_+_+_) (by omega) (by omega),wrap64 (n:=0+f.1%8+_+_+_+_) (by omega) (by omega)];rw[Re (by omega),wP,Int.zero_add]
theorem O6 (f:fe):pC f=some (wP f):=by
 unfold pC;generalize hL:[f.1,f.2.1,f.2.2.1,f.2.2.2.1,f.2.2.2.2]=L;have hlen:L.length=5:=by rw[←hL];rfl
 have hfu:=fg;have key:=tL (R:=Int) (T:=iT (λ(y2:Int) (y3:Int)=>if 8=0 then none else(some (Int.tmod y2 8))) L (L.length:Int)) L (λ(s:Int) i=>(s,(i:Int))) (λx s k=>k (aw (s+(x%8)))) (λs=>some (Int.tmod s 8)) (λi hi s nx=>by simp only[iT];rw[aj (by omega),a4 hi,wrap64 (n:=(i:Int)+1) (by omega) (by omega)];simp only[ae,ab,R9];rfl) (λs nx=>by simp only[iT];rw[ah (by omega)];rfl) fuel 0 0 (by omega) (by omega);refine key.trans ?_;rw[←hL];simp only[cY,sG];rw[wrap64 (n:=0+f.1%8) (by omega) (by omega),wrap64 (n:=0+f.1%8+_) (by omega) (by omega),wrap64 (n:=0+f.1%8+_+_) (by omega) (by omega),wrap64 (n:=0+f.1%8+_+_+_) (by omega) (by omega),wrap64 (n:=0+f.1%8+_+_+_+_) (by omega) (by omega)];rw[Re (by omega),wP,Int.zero_add]
def dJ (t:List Slot)(i:Nat):Slot:=t.getD i (0,(0,0,0,0,0),0)
theorem rD {t:List Slot}{i:Nat}(h:i<t.length):dJ t i=t[i]:=bI h _
def gJ (f:fe)(k:Nat):Nat:=((wP f).toNat+k)%8
theorem yN (f:fe)(k:Nat):gJ f k<8:=Nat.mod_lt _ (by omega)
theorem Ju (f:fe)(k:Nat)(h:k<8):Int.tmod (aw (wP f+(k:Int))) 8=(gJ f k:Int):=by have:=HZ f;rw[wrap64 (by omega) (by omega),Re (by omega),gJ];omega
def ku (s:Slot)(f:fe):Bool:=(s.1==1)&&decide (s.2.1=f)
theorem xT (p q:fe):((p.1==q.1)&&((p.2.1==q.2.1)&&((p.2.2.1==q.2.2.1)&&((p.2.2.2.1==q.2.2.2.1)&&((p.2.2.2.2==q.2.2.2.2)&&true)))))=decide (p=q):=by obtain⟨a,b,c,d,e⟩:=p;obtain⟨a',b',c',d',e'⟩:=q;rw[bH];simp
def walk (t:List Slot)(f:fe):Nat→Nat→Int
 |0,_=> -1
 |n+1,k=>if(dJ t (gJ f k)).1=0 then-1 else if ku (dJ t (gJ f k)) f then(gJ f k:Int) else walk t f n (k+1)
theorem I8 (t:List Slot)(f:fe)(ht:t.length=8):oV t f=some (walk t f 8 0):=by
 unfold oV;have hfu:=fg
 have key:=wi (R:=Int) (T:=ks (λ(y6:Int)=>some (-1)) (λ(y7:Int) (y8:Int)=>some y7) 0 t f) 8 (λ(_:Unit) i=>(i:Int))
  (λi s k=>if(dJ t (gJ f i)).1=0 then some (-1) else if ku (dJ t (gJ f i)) f then some (gJ f i:Int) else k s) (λ_=>some (-1))
  (λi s nx hi=>by
   have hw:gJ f i<t.length:=by have:=yN f i;omega
   simp only[ks,PU];rw[aj (by omega),wrap64 (n:=(i:Int)+1) (by omega) (by omega)];simp only[ae,ab,Ju f i hi,a4 hw,rD hw,xT,ku,bk,ab];rw[ar (by omega)];by_cases h0:t[gJ f i].1=0;simp[h0];have e0:(t[gJ f i].1==0)=false:=by simp[h0]
   rw[e0,ar h0];cases (t[gJ f i].1==1)<;>cases decide (t[gJ f i].2.1=f)<;>rfl)
  (λs nx=>by simp only[ks];rfl)
  fuel 0 () (by omega) (by omega)
 refine key.trans ?_;have main:∀n i,Rq (R:=Int) (λi (s:Unit) k=>if(dJ t (gJ f i)).1=0 then some (-1) else if ku (dJ t (gJ f i)) f then some (gJ f i:Int) else k s) (λ_=>some (-1)) 8 n i ()=some (walk t f n i):=by intro n;induction n with|zero=>intro i;rfl|succ n ih=>intro i;rw[Rq,walk];split;rfl;split;rfl;exact ih (i+1)
 exact main 8 0
def qw (f:fe):List Slot→Int→Int
 |[],_=> -1
 |s::r,i=>if ku s f then i else qw f r (i+1)
theorem Ib (t:List Slot)(f:fe)(h:t.length≤1000000000):qe t f=some (qw f t 0):=by
 unfold qe;have hfu:=fg;have key:∀n i,i≤t.length→t.length-i<n→aW (om (λ(y3:Int)=>some (-1)) (λ(y4:Int) (y5:Int)=>some y4) 0 t ((List.length t:Int)) f) n (i:Int)=some (qw f (t.drop i) i):=by
  intro n;induction n with
  |zero=>intro i _ h;omega
  |succ n ih=>
   intro i hi hn;rw[aW];simp only[om];rcases bc i t.length with hlt|hge;rw[aj (by omega),a4 hlt,bh hlt,qw,wrap64 (by omega) (by omega)];simp only[ae,ab,xT,bk];have e:(bif t[i].1==1 then decide (t[i].2.1=f) else false)=ku t[i] f:=by unfold ku;cases (t[i].1==1)<;>rfl
   rw[e];cases ku t[i] f with|true=>rfl|false=>exact ih (i+1) (by omega) (by omega)
   have:i=t.length:=by omega
   subst this;rw[ah (by omega),List.drop_length];rfl
 exact key fuel 0 (by omega) (by omega)
theorem RX (f:fe):uj f=some ((List.range 8).map λk=>(gJ f k:Int)):=by unfold uj;have hfu:=fg;have key:=wi (R:=List Int) (T:=mQ (λ(y2:List Int) (y3:Int)=>some y2) f) 8 (λ(_:Unit) i=>((List.range i).map (λk=>(gJ f k:Int)),(i:Int))) (λ_ s k=>k s) (λ_=>some ((List.range 8).map λk=>(gJ f k:Int))) (λi s nx hi=>by simp only[mQ,O6];rw[aj (by omega),wrap64 (n:=(i:Int)+1) (by omega) (by omega)];simp only[ae,ab,Ju f i hi];rw[ar (by omega),aM (by simp;omega),List.range_succ,List.map_append];rfl) (λs nx=>by simp only[mQ];rfl) fuel 0 () (by omega) (by omega);exact key
def clear (t:List Slot)(f:fe)(i:Nat):Nat→Nat→Bool
 |0,_=>true
 |n+1,k=>if gJ f k=i then true else if(dJ t (gJ f k)).1=0 then false else clear t f i n (k+1)
theorem M7 {R:Type}(k0:Int→Option R)(k1:Bool→Int→Option R)(hit fin:Option R)(h0:∀x,k0 x=fin)(h1:∀x,k1 false x=hit)(v2:Bool)(i:Nat)(v12:List Slot)(v13 v14:Int)(t:List Slot)(f:fe)(ht:t.length=8): aW (gp k0 k1 v2 (i:Int) v12 v13 v14 ((List.range 8).map λk=>(gJ f k:Int)) (((List.range 8).map λk=>(gJ f k:Int)).length:Int) t) fuel 0=cond (clear t f i 8 0) fin hit:=by
 have hfu:=fg;have hl:((List.range 8).map λk=>(gJ f k:Int)).length=8:=by simp
 have key:=wi (R:=R) (T:=gp k0 k1 v2 (i:Int) v12 v13 v14 ((List.range 8).map λk=>(gJ f k:Int)) (((List.range 8).map λk=>(gJ f k:Int)).length:Int) t) 8 (λ(_:Unit) i=>(i:Int))
  (λk s c=>if gJ f k=i then fin else if(dJ t (gJ f k)).1=0 then hit else c s) (λ_=>fin)
  (λk s nx hk=>by
   have hw:gJ f k<t.length:=by have:=yN f k;omega
   simp only[gp];rw[aj (by omega),a4 (show k<((List.range 8).map λk=>(gJ f k:Int)).length by omega),wrap64 (n:=(k:Int)+1) (by omega) (by omega)];simp only[ae,ab,List.getElem_map,List.getElem_range,a4 hw,rD hw,h0,h1];by_cases e1:gJ f k=i;subst e1;simp;have:((gJ f k:Int)==(i:Int))=false:=by simp;omega
   rw[this,ar e1];by_cases e2:t[gJ f k].1=0;simp[e2];have:(t[gJ f k].1==0)=false:=by simp[e2]
   rw[this,ar e2];rfl)
  (λs nx=>by simp only[gp];rw[ah (by omega)];exact h0 _)
  fuel 0 () (by omega) (by omega)
 refine key.trans ?_;have main:∀n k,Rq (R:=R) (λk (s:Unit) c=>if gJ f k=i then fin else if(dJ t (gJ f k)).1=0 then hit else c s) (λ_=>fin) 8 n k ()=cond (clear t f i n k) fin hit:=by intro n;induction n with|zero=>intro k;rfl|succ n ih=>intro k;rw[Rq,clear];split;rfl;split;rfl;exact ih (k+1)
 exact main 8 0
def HR:fe:=(0,0,0,0,0)
theorem HS (p:fe):((p.1==0)&&((p.2.1==0)&&((p.2.2.1==0)&&((p.2.2.2.1==0)&&((p.2.2.2.2==0)&&true)))))=decide (p=HR):=xT p HR
def I2 (s:Slot):Bool:=dB s.1 0 2&&dB s.2.2 0 3&&((s.1==1)||(s.2.2==0)&&decide (s.2.1=HR))
def kD (t:List Slot)(i:Nat):Bool:=I2 (dJ t i)&&(!((dJ t i).1==1)||(walk t (dJ t i).2.1 8 0==(i:Int)))
def nH (t:List Slot)(i:Nat):Bool:=I2 (dJ t i)&&(!((dJ t i).1==1)||(qw (dJ t i).2.1 t 0==(i:Int))&&clear t (dJ t i).2.1 i 8 0)
def mE (t:List Slot):Bool:=(t.length==8)&&(List.range 8).all (kD t)
theorem EC (t:List Slot):oT t=some (mE t):=by
 unfold oT mE;by_cases ht:t.length=8
 ·have e:((t.length:Int) !=8)=false:=by rw[ht];rfl
  have e2:(t.length==8)=true:=by rw[ht];rfl
  rw[e,e2];simp only[af,bm];rw[fF (hit:=some false) (fin:=some true) (kD t) 8 (by omega) (λi nx hi=>?hs) (λnx=>?hf)]
  case hs=>
   have hl:i<t.length:=by omega
   simp only[ns]
   rw[aj (by omega),a4 hl,wrap64 (by omega) (by omega)]
   simp only[ae,ab,cS,bk,HS,I8 t _ ht,kD,rD hl,I2,bne]
   cases dB t[i].1 0 2<;>cases dB t[i].2.2 0 3<;>cases (t[i].1==1)<;>cases (t[i].2.2==0)<;>cases decide (t[i].2.1=HR)<;>first|rfl|(cases (walk t t[i].2.1 8 0==(i:Int))<;>rfl)
  case hf=>
   simp only[ns]
   rw[ah (by omega)];rfl
  cases (List.range 8).all (kD t)<;>rfl
 have e:((t.length:Int) !=8)=true:=by simp;omega
 have e2:(t.length==8)=false:=by simp[ht]
 rw[e,e2];rfl
theorem Kj (t:List Slot):lW t=some ((t.length==8)&&(List.range 8).all (nH t)):=by
 unfold lW;by_cases ht:t.length=8
 ·have e:((t.length:Int) !=8)=false:=by rw[ht];rfl
  have e2:(t.length==8)=true:=by rw[ht];rfl
  rw[e,e2];simp only[af,bm];rw[fF (hit:=some false) (fin:=some true) (nH t) 8 (by omega) (λi nx hi=>?hs) (λnx=>?hf)]
  case hs=>
   have hl:i<t.length:=by omega
   simp only[nf]
   rw[aj (by omega),a4 hl,wrap64 (by omega) (by omega)]
   simp only[ae,ab,dH,bk,HS,Ib t _ (show t.length≤1000000000 by omega),RX,nH,rD hl,I2,bne]
   rw[M7 (λ_=>nx ((i:Int)+1)) (λ(y:Bool) (_:Int)=>some y) (some false) (nx ((i:Int)+1)) (λ_=>rfl) (λ_=>rfl) _ _ _ _ _ _ _ ht]
   cases dB t[i].1 0 2<;>cases dB t[i].2.2 0 3<;>cases (t[i].1==1)<;>cases (t[i].2.2==0)<;>cases decide (t[i].2.1=HR)<;>first|rfl|(cases (qw t[i].2.1 t 0==(i:Int))<;>first|rfl|(cases clear t t[i].2.1 i 8 0<;>rfl))
  case hf=>
   simp only[nf]
   rw[ah (by omega)];rfl
  cases (List.range 8).all (nH t)<;>rfl
 have e:((t.length:Int) !=8)=true:=by simp;omega
 have e2:(t.length==8)=false:=by simp[ht]
 rw[e,e2];rfl
theorem EN (t:List Slot)(f:fe)(i:Nat):∀n k,walk t f n k=(i:Int)→ku (dJ t i) f=true∧clear t f i n k=true∧∃j,j<n∧gJ f (k+j)=i
 |0,k,h=>by unfold walk at h;omega
 |n+1,k,h=>by
  unfold walk at h;unfold clear;by_cases h0:(dJ t (gJ f k)).1=0;rw[az h0]at h;omega;rw[ar h0]at h;by_cases h1:ku (dJ t (gJ f k)) f=true;rw[az h1]at h;have:gJ f k=i:=by omega
  subst this;exact⟨h1,by simp,0,by omega,rfl⟩;rw[ar h1]at h;obtain⟨a,b,j,hj,e⟩:=EN t f i n (k+1) h;refine⟨a,?_,j+1,by omega,by rw[←e];congr 1;omega⟩;rw[ar h0,b];split<;>rfl
theorem MK (t:List Slot)(f:fe)(i:Nat)(hu:ku (dJ t i) f=true)(huniq:∀j,j<8→ku (dJ t j) f=true→j=i):∀n k,clear t f i n k=true→(∃j,j<n∧gJ f (k+j)=i)→walk t f n k=(i:Int)
 |0,k,_,h=>by obtain⟨j,hj,_⟩:=h;omega
 |n+1,k,hc,⟨j,hj,e⟩=>by unfold walk;unfold clear at hc;by_cases h1:gJ f k=i;rw[h1,ar,az hu];intro h0;unfold ku at hu;rw[h0]at hu;simp at hu;rw[ar h1]at hc;by_cases h0:(dJ t (gJ f k)).1=0;rw[az h0]at hc;cases hc;rw[ar h0]at hc;rw[ar h0,ar (λhu'=>h1 (huniq _ (yN f k) hu'))];refine MK t f i hu huniq n (k+1) hc ?_;cases j with|zero=>exact absurd e h1|succ j=>exact⟨j,by omega,by rw[←e];congr 1;omega⟩
theorem SH (f:fe)(i:Nat)(hi:i<8):∃j,j<8∧gJ f (0+j)=i:=by have:=HZ f;refine⟨(i+8-(wP f).toNat)%8,by omega,?_⟩;unfold gJ;omega
theorem vo (f:fe):∀(t:List Slot)(m:Nat),(∃j,j<t.length∧ku (dJ t j) f=true)→∃j,j<t.length∧ku (dJ t j) f=true∧qw f t m=((m+j:Nat):Int)
 |[],_,h=>by obtain⟨j,hj,_⟩:=h;simp at hj
 |s::r,m,⟨j,hj,e⟩=>by
  unfold qw;by_cases hs:ku s f=true;rw[az hs];exact⟨0,by simp,by simpa[dJ]using hs,by simp⟩;rw[ar hs];cases j with
  |zero=>exact absurd (by simpa[dJ]using e) hs
  |succ j=>
   obtain⟨j',h1,h2,h3⟩:=vo f r (m+1) ⟨j,by simpa using hj,by simpa[dJ]using e⟩;refine⟨j'+1,by simpa using h1,by simpa[dJ]using h2,?_⟩;have:((m:Int)+1)=((m+1:Nat):Int):=by omega
   rw[this,h3];congr 1;omega
theorem KY (t:List Slot)(ht:t.length=8):(List.range 8).all (nH t)=(List.range 8).all (kD t):=by
 rw[bH,a6,a6];simp only[cZ];constructor;intro h i hi;have hI:=h i hi;unfold nH at hI;unfold kD;simp only[ai,bV,aI,aR]at hI⊢;refine⟨hI.1,?_⟩;rcases hI.2 with h1|⟨h1,h2⟩;exact .inl h1;by_cases hu:((dJ t i).1==1)=true;right;have hu':ku (dJ t i) (dJ t i).2.1=true:=by unfold ku;rw[hu];simp
 refine MK t _ i hu' (λj hj huj=>?_) 8 0 h2 (SH _ i hi);have hJ:=h j hj;unfold nH at hJ;unfold ku at huj;simp only[ai,aX]at huj;simp only[ai,bV,aI,aR]at hJ;rcases hJ.2 with h3|⟨h3,_⟩;rw[huj.1]at h3;cases h3;rw[huj.2]at h3;omega;exact .inl (by simpa using hu);intro h i hi;have hI:=h i hi;unfold kD at hI;unfold nH;simp only[ai,bV,aI,aR]at hI⊢;refine⟨hI.1,?_⟩;rcases hI.2 with h1|h1;exact .inl h1;right;obtain⟨hu,hc,_⟩:=EN t _ i 8 0 h1;refine⟨?_,hc⟩;obtain⟨j,hj,huj,e⟩:=vo (dJ t i).2.1 t 0 ⟨i,by omega,hu⟩;have hJ:=h j (by omega);unfold kD at hJ;unfold ku at huj;simp only[ai,aX]at huj;simp only[ai,bV,aI,aR]at hJ;rcases hJ.2 with h3|h3;rw[huj.1]at h3;cases h3;rw[huj.2,h1]at h3;have e':qw (dJ t i).2.1 t 0=((0+j:Nat):Int):=e;rw[e'];omega
theorem Ec (t:List Slot):lW t=some (mE t):=by
 rw[Kj,mE];by_cases ht:t.length=8;rw[KY t ht];have e2:(t.length==8)=false:=by simp[ht]
 rw[e2];rfl
def Mu (n:Int):Bool:=(n==1)||(n==2)||(n==4)||(n==8)||(n==16)
theorem Ku (n:Int):rm n=some (Mu n):=by simp only[rm,bk,ab,Mu];cases (n==1)<;>cases (n==2)<;>cases (n==4)<;>cases (n==8)<;>rfl
def p7 (s:eO)(q:Int):Bool:=dB q 1 4&&((s.1.length:Int)==16)&&Mu s.2.length&&s.2.all λx=>dB x 0 (q-1)
theorem xA (s:eO)(q:Int)(h:s.2.length≤1000000000):m5 s q=some (p7 s q):=by
 unfold m5 p7;simp only[cS,Ku,ab,bk,bne];by_cases hq:dB q 1 4=true
 ·rw[ry (hit:=some false) (fin:=some true) (λx=>dB x 0 (q-1)) s.2 (by omega) (λi hi nx=>?hs) (λnx=>?hf)]
  case hs=>
   rw[db]at hq
   simp only[ml]
   rw[aj (by omega),a4 hi,wrap64 (n:=(i:Int)+1) (by omega) (by omega),wrap64 (n:=q-1) (by omega) (by omega)]
   simp only[ae,ab,cS];rfl
  case hf=>
   simp only[ml]
   rw[ah (by omega)];rfl
  rw[hq];cases ((s.1.length:Int)==16)<;>cases Mu s.2.length<;>cases s.2.all (λx=>dB x 0 (q-1))<;>rfl
 have hq':dB q 1 4=false:=by simpa using hq
 rw[hq'];rfl
theorem Cg (s:eO)(q:Int)(h:s.2.length≤1000000000):pH s q=some (p7 s q):=by rw[←xA s q h];rfl
def nM (s:dj)(q:Int):Bool:=su s.1&&mE s.2.1&&p7 s.2.2 q&&s.1.all (λr=> !(decide (r.2.2.2.2.2.2.2.2≥q)))&&s.2.1.all (λx=> !(decide (x.2.2≥q)))
theorem yA (s:dj)(q:Int)(h1:s.1.length≤1000000000)(h2:s.2.1.length≤1000000000)(h3:s.2.2.2.length≤1000000000):kq s q=some (nM s q):=by
 unfold kq nM;simp only[wz _ h1,EC,xA _ _ h3,ab,bk];rw[ry (hit:=some false) (fin:=cond (s.2.1.all (λx=> !(decide (x.2.2≥q)))) (some true) (some false)) (λr:dC=> !(decide (r.2.2.2.2.2.2.2.2≥q))) s.1 (by omega) (λi hi nx=>?hs) (λnx=>?hf)]
 case hs=>
  simp only[jV]
  rw[aj (by omega),a4 hi,wrap64 (by omega) (by omega)]
  simp only[ae,ab,dU];rfl
 case hf=>
  simp only[jV]
  rw[ah (by omega)]
  simp only[af]
  rw[ry (hit:=some false) (fin:=some true) (λx:Slot=> !(decide (x.2.2≥q))) s.2.1 (by omega) (λi hi nx=>?hs) (λnx=>?hf)]
  case hs=>
   simp only[jW]
   rw[aj (by omega),a4 hi,wrap64 (by omega) (by omega)]
   simp only[ae,ab,dU];rfl
  case hf=>
   simp only[jW]
   rw[ah (by omega)];rfl
 cases su s.1<;>cases mE s.2.1<;>cases p7 s.2.2 q<;>cases s.1.all (λr=> !(decide (r.2.2.2.2.2.2.2.2≥q)))<;>cases s.2.1.all (λx=> !(decide (x.2.2≥q)))<;>rfl
theorem ya (s:dj)(q:Int)(h1:s.1.length≤1000000000)(h2:s.2.1.length≤1000000000)(h3:s.2.2.2.length≤1000000000):kg s q=some (nM s q):=by
 unfold kg nM;simp only[Eb _ h1,Ec,Cg _ _ h3,ab,bk];rw[ry (hit:=some false) (fin:=cond (s.2.1.all (λx=> !((x.1==1)&&decide (x.2.2≥q)))) (some true) (some false)) (λr:dC=> !((r.2.2.2.2.2.2.2.1==0)&&decide (r.2.2.2.2.2.2.2.2≥q))) s.1 (by omega) (λi hi nx=>?hs) (λnx=>?hf)]
 case hs=>
  simp only[jK]
  rw[aj (by omega),a4 hi,wrap64 (by omega) (by omega)]
  simp only[ae,ab,dU,bk]
  cases (s.1[i].2.2.2.2.2.2.2.1==0)<;>rfl
 case hf=>
  simp only[jK]
  rw[ah (by omega)]
  simp only[af]
  rw[ry (hit:=some false) (fin:=some true) (λx:Slot=> !((x.1==1)&&decide (x.2.2≥q))) s.2.1 (by omega) (λi hi nx=>?hs) (λnx=>?hf)]
  case hs=>
   simp only[iz]
   rw[aj (by omega),a4 hi,wrap64 (by omega) (by omega)]
   simp only[ae,ab,dU,bk]
   cases (s.2.1[i].1==1)<;>rfl
  case hf=>
   simp only[iz]
   rw[ah (by omega)];rfl
 cases hr:su s.1 with
 |false=>rfl
 |true=>
  cases ht:mE s.2.1 with
  |false=>rfl
  |true=>
   cases hs:p7 s.2.2 q with
   |false=>rfl
   |true=>
    have hq:1≤q:=by unfold p7 at hs;simp only[ai,db]at hs;exact hs.1.1.1.1
    have e1:s.1.all (λr=> !((r.2.2.2.2.2.2.2.1==0)&&decide (r.2.2.2.2.2.2.2.2≥q)))=s.1.all (λr=> !(decide (r.2.2.2.2.2.2.2.2≥q))):=by unfold su at hr;simp only[ai,a6]at hr;rw[bH,a6,a6];refine forall_congr' λr=>forall_congr' λhm=>?_;rcases IW (hr.1 r hm)with h0|h0;rw[h0];simp;rw[h0];simp only[ah (show¬(0:Int)≥q by omega),eI]
    have e2:s.2.1.all (λx=> !((x.1==1)&&decide (x.2.2≥q)))=s.2.1.all (λx=> !(decide (x.2.2≥q))):=by unfold mE at ht;simp only[ai,a6,cZ,aR]at ht;rw[bH,a6,a6];refine forall_congr' λx=>forall_congr' λhm=>?_;obtain⟨i,hi,rfl⟩:=List.mem_iff_getElem.1 hm;have hsl:=ht.2 i (by omega);unfold kD I2 at hsl;rw[rD hi]at hsl;simp only[ai,bV,aR]at hsl;rcases hsl.1.2 with h0|⟨h0,_⟩;rw[h0];simp;rw[h0];simp only[ah (show¬(0:Int)≥q by omega),eI]
    rw[e1,e2];cases s.1.all (λr=> !(decide (r.2.2.2.2.2.2.2.2≥q)))<;>cases s.2.1.all (λx=> !(decide (x.2.2≥q)))<;>rfl
theorem ek {n:Nat}(h:n<9223372036854775808):aw (n:Int)=(n:Int):=wrap64 (by omega) (by omega)
theorem yO {n:Nat}(h:n<4294967296):IntKind.wrap .u32 (n:Int)=(n:Int):=by simp only[aw,eP,IntKind.wrap,IntKind.bits,IntKind.signed];simp;omega
theorem jD (b:UInt8):b.toNat<256:=b.toNat_lt
def df (v:Int):Bytes:=(bQ v).getD []
theorem jR (v:Int):bQ v=some (df v):=by
 unfold df;have:∃x,bQ v=some x:=by simp only[bQ,cS,ab];cases dB v 0 65535<;>exact⟨_,rfl⟩
 obtain⟨x,hx⟩:=this;rw[hx];rfl
theorem pb (v:Int):cn v=some (df v):=jR v
theorem Lm (v:Int):(df v).length=bif dB v 0 65535 then 2 else 0:=by have h:=jR v;simp only[bQ,cS,ab]at h;cases hb:dB v 0 65535<;>rw[hb]at h<;>(rw[←cr h];rfl)
theorem bn (v:Int):(df v).length≤2:=by rw[Lm];cases dB v 0 65535<;>simp
def gQ (v:Int):Bytes:=(dG v).getD []
theorem nD (v:Int):dG v=some (gQ v):=by
 unfold gQ;have:∃x,dG v=some x:=by simp only[dG,cS,ab];cases dB v 0 4294967295<;>exact⟨_,rfl⟩
 obtain⟨x,hx⟩:=this;rw[hx];rfl
theorem xo (v:Int):fA v=some (gQ v):=nD v
theorem Ln (v:Int):(gQ v).length=bif dB v 0 4294967295 then 4 else 0:=by have h:=nD v;simp only[dG,cS,ab]at h;cases hb:dB v 0 4294967295<;>rw[hb]at h<;>(rw[←cr h];rfl)
theorem dw (v:Int):(gQ v).length≤4:=by rw[Ln];cases dB v 0 4294967295<;>simp
def bO (s:Bytes)(i:Nat):Nat:=(s.getD i 0).toNat
theorem di (s:Bytes)(i:Nat):bO s i<256:=jD _
theorem ka {s:Bytes}{i:Nat}(h:i<s.length):∃x,idx s (i:Int)=some x∧x.toNat=bO s i:=⟨s[i],a4 h,by rw[bO,bI h]⟩
def dx (s:Bytes)(a n:Int):Bool:=decide (0≤a∧a+n≤(s.length:Int))
theorem vJ (s:Bytes)(a n:Int)(h:s.length≤1000000000)(hn:0≤n):jw s a n=some (dx s a n):=by unfold jw dx;by_cases h0:0≤a;by_cases h1:a≤(s.length:Int);rw[aj (show a≥0 from h0),aj h1,wrap64 (by omega) (by omega)];simp only[ae,ab];congr 1;rw[decide_eq_decide];omega;rw[aj (show a≥0 from h0),ah h1,ah (show¬(0≤a∧a+n≤(s.length:Int)) by omega)];rfl;rw[ah (show¬a≥0 from h0),ah (show¬(0≤a∧a+n≤(s.length:Int)) by omega)];rfl
def cz (s:Bytes)(a:Int):Int:=bif dx s a 2 then((bO s a.toNat*256+bO s (a.toNat+1):Nat):Int) else-1
def ir (s:Bytes)(a:Int):Int:=bif dx s a 4 then(((bO s a.toNat*256+bO s (a.toNat+1))*65536+(bO s (a.toNat+2)*256+bO s (a.toNat+3)):Nat):Int) else-1
theorem tV (s:Bytes)(a:Int)(h:s.length≤1000000000):eB s a=some (cz s a):=by unfold eB cz;rw[vJ s a 2 h (by omega),ab];cases hw:dx s a 2 with|false=>rfl|true=>simp only[dx,aX]at hw;obtain⟨n,rfl⟩:=aY hw.1;obtain⟨x,hx,ex⟩:=ka (s:=s) (i:=n) (by omega);obtain⟨y,hy,ey⟩:=ka (s:=s) (i:=n+1) (by omega);have hxl:=di s n;have hyl:=di s (n+1);rw[wrap64 (n:=(n:Int)+1) (by omega) (by omega),hx,show(n:Int)+1=((n+1:Nat):Int) by omega,hy];simp only[au,af,ab,ax,ae];rw[ar (by omega),ex,ey,ek (by omega),ek (by omega)];have e8:min (Int.toNat 8) (IntKind.bits .i64)=8:=rfl;rw[e8,wrap64 (n:=((bO s n:Nat):Int)*2^8) (by omega) (by omega),wrap64 (by omega) (by omega)];congr 1;all_goals omega
theorem zF (s:Bytes)(a:Int)(h:s.length≤1000000000):jS s a=some (ir s a):=by
 unfold jS ir;rw[vJ s a 4 h (by omega),ab];cases hw:dx s a 4 with
 |false=>rfl
 |true=>
  simp only[dx,aX]at hw;obtain⟨n,rfl⟩:=aY hw.1;have w1:dx s (n:Int) 2=true:=by simp only[dx,aX];omega
  have w2:dx s ((n:Int)+2) 2=true:=by simp only[dx,aX];omega
  have b0:=di s n;have b1:=di s (n+1);have b2:=di s (n+2);have b3:=di s (n+3);rw[wrap64 (n:=(n:Int)+2) (by omega) (by omega),tV s _ h,tV s _ h];simp only[au,af,ab,ae,cz,w1,w2,ax];rw[ar (by omega),show((n:Int)+2).toNat=n+2 by omega,show n+2+1=n+3 by omega];have e8:min (Int.toNat 16) (IntKind.bits .i64)=16:=rfl;rw[e8,wrap64 (n:=((bO s n*256+bO s (n+1):Nat):Int)*2^16) (by omega) (by omega),wrap64 (by omega) (by omega)];congr 1;all_goals omega
theorem ahX (a b:Nat)(ha:a<9223372036854775808)(hb:b<9223372036854775808):BitVec.toNat (BitVec.ofInt (IntKind.bits .i64) (a:Int)|||BitVec.ofInt (IntKind.bits .i64) (b:Int))=a|||b:=by show(BitVec.ofInt 64 (a:Int)|||BitVec.ofInt 64 (b:Int)).toNat=_;rw[cg,cg,BitVec.toNat_or,cx,cx,cB (by omega),cB (by omega)]
theorem SN (a b:Nat)(ha:a<9223372036854775808)(hb:b<9223372036854775808):BitVec.toNat (BitVec.ofInt (IntKind.bits .i64) (a:Int)&&&BitVec.ofInt (IntKind.bits .i64) (b:Int))=a&&&b:=by show(BitVec.ofInt 64 (a:Int)&&&BitVec.ofInt 64 (b:Int)).toNat=_;rw[cg,cg,BitVec.toNat_and,cx,cx,cB (by omega),cB (by omega)]
theorem ML (a b:Nat)(ha:a<9223372036854775808)(hb:b<9223372036854775808):BitVec.toNat (BitVec.ofInt (IntKind.bits .i64) (a:Int)^^^BitVec.ofInt (IntKind.bits .i64) (b:Int))=a^^^b:=by show(BitVec.ofInt 64 (a:Int)^^^BitVec.ofInt 64 (b:Int)).toNat=_;rw[cg,cg,BitVec.toNat_xor,cx,cx,cB (by omega),cB (by omega)]
theorem X7 (a b:Nat)(ha:a<4294967296)(hb:b<4294967296):BitVec.toNat (BitVec.ofInt (IntKind.bits .u32) (a:Int)&&&BitVec.ofInt (IntKind.bits .u32) (b:Int))=a&&&b:=by show(BitVec.ofInt 32 (a:Int)&&&BitVec.ofInt 32 (b:Int)).toNat=_;rw[cg,cg,BitVec.toNat_and,cx,cx,cB (by omega),cB (by omega)]
theorem TK (a b:Nat)(ha:a<4294967296)(hb:b<4294967296):BitVec.toNat (BitVec.ofInt (IntKind.bits .u32) (a:Int)^^^BitVec.ofInt (IntKind.bits .u32) (b:Int))=a^^^b:=by show(BitVec.ofInt 32 (a:Int)^^^BitVec.ofInt 32 (b:Int)).toNat=_;rw[cg,cg,BitVec.toNat_xor,cx,cx,cB (by omega),cB (by omega)]
theorem xu (x k y:Nat)(hy:y<2^k)(h:2^k*x+y<9223372036854775808):aw (BitVec.toNat (BitVec.ofInt (IntKind.bits .i64) ((2^k*x:Nat):Int)|||BitVec.ofInt (IntKind.bits .i64) (y:Int)):Int)=((2^k*x+y:Nat):Int):=by rw[ahX _ _ (by omega) (by omega),←Nat.two_pow_add_eq_or_of_lt hy];exact ek h
theorem Ad (s:Bytes)(a n:Int):(cond (decide (a<0)) (some true) (some (decide (a>(s.length:Int)-n))))=some (!dx s a n):=by cases hw:dx s a n with|true=>simp only[dx,aX]at hw;rw[ah (show¬a<0 by omega),ah (show¬a>(s.length:Int)-n by omega)];rfl|false=>simp only[dx,cE]at hw;by_cases h0:a<0;rw[aj h0];rfl;rw[ah h0,aj (show a>(s.length:Int)-n by omega)];rfl
theorem zb (s:Bytes)(a:Int)(h:s.length≤1000000000):eU s a=some (cz s a):=by unfold eU cz;rw[wrap64 (n:=(s.length:Int)-2) (by omega) (by omega)];rw[Ad,ab];cases hw:dx s a 2 with|false=>rfl|true=>simp only[dx,aX]at hw;obtain⟨n,rfl⟩:=aY hw.1;obtain⟨x,hx,ex⟩:=ka (s:=s) (i:=n) (by omega);obtain⟨y,hy,ey⟩:=ka (s:=s) (i:=n+1) (by omega);have hxl:=di s n;have hyl:=di s (n+1);rw[wrap64 (n:=(n:Int)+1) (by omega) (by omega),hx,show(n:Int)+1=((n+1:Nat):Int) by omega,hy];simp only[au,af,ae,ab,ax];rw[ar (by omega),ex,ey,ek (n:=bO s n) (by omega),ek (n:=bO s (n+1)) (by omega)];have e8:min (Int.toNat 8) (IntKind.bits .i64)=8:=rfl;rw[e8,show((bO s n:Nat):Int)*2^8=((2^8*bO s n:Nat):Int) by omega,ek (n:=2^8*bO s n) (by omega),xu (bO s n) 8 (bO s (n+1)) (by omega) (by omega)];congr 1;all_goals omega
theorem zc (s:Bytes)(a:Int)(h:s.length≤1000000000):jH s a=some (ir s a):=by
 unfold jH ir;rw[wrap64 (n:=(s.length:Int)-4) (by omega) (by omega)];rw[Ad,ab];cases hw:dx s a 4 with
 |false=>rfl
 |true=>
  simp only[dx,aX]at hw;obtain⟨n,rfl⟩:=aY hw.1;obtain⟨x0,h0,e0⟩:=ka (s:=s) (i:=n) (by omega);obtain⟨x1,h1,e1⟩:=ka (s:=s) (i:=n+1) (by omega);obtain⟨x2,h2,e2⟩:=ka (s:=s) (i:=n+2) (by omega);obtain⟨x3,h3,e3⟩:=ka (s:=s) (i:=n+3) (by omega);have b0:=di s n;have b1:=di s (n+1);have b2:=di s (n+2);have b3:=di s (n+3)
  rw[wrap64 (n:=(n:Int)+1) (by omega) (by omega),wrap64 (n:=(n:Int)+2) (by omega) (by omega),wrap64 (n:=(n:Int)+3) (by omega) (by omega),h0,show(n:Int)+1=((n+1:Nat):Int) by omega,h1,
   show(n:Int)+2=((n+2:Nat):Int) by omega,h2,show(n:Int)+3=((n+3:Nat):Int) by omega,h3]
  simp only[au,af,ae,ab,ax];rw[ar (by omega),ar (by omega),ar (by omega),e0,e1,e2,e3];generalize bO s n=p0 at*;generalize bO s (n+1)=p1 at*;generalize bO s (n+2)=p2 at*;generalize bO s (n+3)=p3 at*;have f24:min (Int.toNat 24) (IntKind.bits .i64)=24:=rfl;have f16:min (Int.toNat 16) (IntKind.bits .i64)=16:=rfl;have f8:min (Int.toNat 8) (IntKind.bits .i64)=8:=rfl
  rw[ek (n:=p0) (by omega),ek (n:=p1) (by omega),ek (n:=p2) (by omega),ek (n:=p3) (by omega),f24,f16,f8,
   show((p0:Nat):Int)*2^24=((2^24*p0:Nat):Int) by omega,show((p1:Nat):Int)*2^16=((2^16*p1:Nat):Int) by omega,show((p2:Nat):Int)*2^8=((2^8*p2:Nat):Int) by omega,
   ek (n:=2^24*p0) (by omega),ek (n:=2^16*p1) (by omega),ek (n:=2^8*p2) (by omega),xu p0 24 (2^16*p1) (by omega) (by omega),
   show 2^24*p0+2^16*p1=2^16*(2^8*p0+p1) by omega,xu _ 16 (2^8*p2) (by omega) (by omega),
   show 2^16*(2^8*p0+p1)+2^8*p2=2^8*(2^8*(2^8*p0+p1)+p2) by omega,xu _ 8 p3 (by omega) (by omega)]
  congr 1;all_goals omega
def xd (c:Nat):Nat:=if c%2=1 then(c/2)^^^3988292384 else c/2
def nN:Nat→Nat→Nat
 |0,c=>c
 |n+1,c=>xd (nN n c)
def acS (c:Nat)(s:Bytes):Nat:=s.foldl (λc b=>nN 8 (c^^^b.toNat)) c
def OE (s:Bytes):Int:=4294967295-(acS 4294967295 s:Int)
theorem tF {a b:Nat}(ha:a<4294967296)(hb:b<4294967296):a^^^b<4294967296:=Nat.xor_lt_two_pow (n:=32) ha hb
theorem MW {c:Nat}(h:c<4294967296):xd c<4294967296:=by unfold xd;split;exact tF (by omega) (by omega);omega
theorem xO {c:Nat}(h:c<4294967296):∀n,nN n c<4294967296
 |0=>h
 |n+1=>MW (xO h n)
theorem PR {R:Type}(k0:Int→Int→Option R)(k:Int→Option R)(hk:∀x y,k0 x y=k x)(v0:Bytes)(v4:Int)(c:Nat)(h:c<4294967296):aW (kG k0 v0 v4) fuel ((c:Int),0)=k (nN 8 c:Int):=by
 have hfu:=fg
 have key:=wi (T:=kG k0 v0 v4) 8 (λ(_:Unit) i=>((nN i c:Int),(i:Int))) (λ_ s nx=>nx s) (λ_=>k (nN 8 c:Int))
  (λi s nx hi=>by
   have hc:=xO h i;simp only[kG];have a1:=SN (nN i c) 1 (by omega) (by omega);have x1:=ML (nN i c/2) 3988292384 (by omega) (by omega);simp only[bM]at a1
   rw[aj (by omega),ae,a1,Nat.and_one_is_mod,
    show min (Int.toNat 1) (IntKind.bits .i64)=1 from rfl,show Int.fdiv ((nN i c:Nat):Int) (2^1)=((nN i c/2:Nat):Int) from by rw[Int.fdiv_eq_ediv_of_nonneg _ (by omega)];rfl,
    show(3988292384:Int)=((3988292384:Nat):Int) from rfl,x1,
    ek (n:=nN i c%2) (by omega),ek (n:=(nN i c/2)^^^3988292384) (by have:=tF (a:=nN i c/2) (b:=3988292384) (by omega) (by omega);omega),ar (by omega),ar (by omega),wrap64 (n:=(i:Int)+1) (by omega) (by omega)]
   show _=nx ((xd (nN i c):Int),((i+1:Nat):Int));unfold xd;by_cases hp:nN i c%2=1;rw[hp,az rfl];rfl;have h0:nN i c%2=0:=by omega
   rw[h0,ar (by omega)];rfl)
  (λs nx=>by simp only[kG];rw[ah (by omega),af,hk])
  fuel 0 () (by omega) (by omega)
 refine key.trans ?_;rfl
theorem O4 {R:Type}(k0:Int→Int→Option R)(k:Int→Option R)(hk:∀x y,k0 x y=k x)(v0:Bytes)(v4:Int)(c:Nat)(h:c<4294967296):aW (ky k0 v0 v4) fuel ((c:Int),0)=k (nN 8 c:Int):=by
 have hfu:=fg
 have key:=wi (T:=ky k0 v0 v4) 8 (λ(_:Unit) i=>((nN i c:Int),(i:Int))) (λ_ s nx=>nx s) (λ_=>k (nN 8 c:Int))
  (λi s nx hi=>by
   have hc:=xO h i;simp only[ky];have a1:=X7 (nN i c) 1 (by omega) (by omega);have x1:=TK (nN i c/2) 3988292384 (by omega) (by omega);simp only[bM]at a1
   rw[aj (by omega),ae,a1,Nat.and_one_is_mod,
    show min (Int.toNat 1) (IntKind.bits .u32)=1 from rfl,show Int.fdiv ((nN i c:Nat):Int) (2^1)=((nN i c/2:Nat):Int) from by rw[Int.fdiv_eq_ediv_of_nonneg _ (by omega)];rfl,
    show(3988292384:Int)=((3988292384:Nat):Int) from rfl,x1,
    yO (n:=nN i c%2) (by omega),yO (n:=(nN i c/2)^^^3988292384) (tF (by omega) (by omega)),ar (by omega),wrap64 (n:=(i:Int)+1) (by omega) (by omega)]
   show _=nx ((xd (nN i c):Int),((i+1:Nat):Int));unfold xd;by_cases hp:nN i c%2=1;rw[hp,az rfl];rfl;have h0:nN i c%2=0:=by omega
   rw[h0,ar (by omega)];rfl)
  (λs nx=>by simp only[ky];rw[ah (by omega),af,hk])
  fuel 0 () (by omega) (by omega)
 refine key.trans ?_;rfl
theorem Sl (s:Bytes)(h:s.length≤1000000000):uL s=some (OE s):=by
 unfold uL;have:=oK (T:=mZ (λ(y4:Int) (_:Int)=>some (aw (4294967295-y4))) s) s (λ(c:Nat) i=>((c:Int),(i:Int))) (λ_ c=>c<4294967296) (λb c=> .ok (nN 8 (c^^^b.toNat))) (λc=>some (4294967295-(c:Int))) (by omega) (λi hi c nx hI=>?hs) (λi hi c c' hI hg=>?hn) (λc nx hI=>?hf) 4294967295 (by omega)
 case hs=>
  have hb:=jD s[i]
  simp only[mZ]
  rw[aj (by omega),a4 hi,ae,ab,ek (n:=s[i].toNat) (by omega),ML c s[i].toNat (by omega) (by omega)]
  have hx:=tF hI (show s[i].toNat<4294967296 by omega)
  rw[ek (by omega),PR _ (λy=>nx (y,(i:Int)+1)) (λx y=>by rw[wrap64 (by omega) (by omega)]) _ _ _ hx];rfl
 case hn=>
  cases hg
  exact xO (tF hI (by have:=jD s[i];omega)) 8
 case hf=>
  simp only[mZ]
  rw[ah (by omega),af,wrap64 (by omega) (by omega)]
 rw[uF]at this;exact this
theorem not_xor (c:Nat)(h:c<4294967296):BitVec.toNat (BitVec.ofInt (IntKind.bits .u32) (IntKind.max .u32)^^^BitVec.ofInt (IntKind.bits .u32) (c:Int))=4294967295-c:=by show(BitVec.ofInt 32 4294967295^^^BitVec.ofInt 32 (c:Int)).toNat=_;rw[show BitVec.ofInt 32 4294967295=BitVec.allOnes 32 by decide,cg,BitVec.allOnes_xor,BitVec.toNat_not,cx,cB (show c<2^32 by omega)]
theorem RO (s:Bytes)(h:s.length≤1000000000):uh s=some (OE s):=by
 unfold uh;have:=oK (T:=mL (λ(y4:Int) (_:Int)=>some (aw (IntKind.wrap .u32 (BitVec.toNat (BitVec.ofInt (IntKind.bits .u32) (IntKind.max .u32)^^^BitVec.ofInt (IntKind.bits .u32) y4))))) s) s (λ(c:Nat) i=>((c:Int),(i:Int))) (λ_ c=>c<4294967296) (λb c=> .ok (nN 8 (c^^^b.toNat))) (λc=>some (4294967295-(c:Int))) (by omega) (λi hi c nx hI=>?hs) (λi hi c c' hI hg=>?hn) (λc nx hI=>?hf) 4294967295 (by omega)
 case hs=>
  have hb:=jD s[i]
  simp only[mL]
  rw[aj (by omega),a4 hi,ae,ab,yO (n:=s[i].toNat) (by omega),TK c s[i].toNat (by omega) (by omega)]
  have hx:=tF hI (show s[i].toNat<4294967296 by omega)
  rw[yO hx,O4 _ (λy=>nx (y,(i:Int)+1)) (λx y=>by rw[wrap64 (by omega) (by omega)]) _ _ _ hx];rfl
 case hn=>
  cases hg
  exact xO (tF hI (by have:=jD s[i];omega)) 8
 case hf=>
  simp only[mL]
  rw[ah (by omega),af,not_xor c hI,yO (by omega),ek (by omega)]
  congr 1
  all_goals omega
 rw[uF]at this;exact this
def Bc (s:Bytes)(i:Nat):Nat:=bO s (i/8)/2^(7-i%8)%2
theorem xK (s:Bytes)(i:Nat):Bc s i<2:=Nat.mod_lt _ (by omega)
theorem G6 (b k:Nat)(hb:b<256)(hk:k≤7):aw (BitVec.toNat (BitVec.ofInt (IntKind.bits .i64) (aw (Int.fdiv (b:Int) ((2^k:Nat):Int)))&&&BitVec.ofInt (IntKind.bits .i64) 1))=((b/2^k%2:Nat):Int):=by have e:Int.fdiv (b:Int) ((2^k:Nat):Int)=((b/2^k:Nat):Int):=(Int.ofNat_fdiv b (2^k)).symm;have h1:b/2^k≤b:=Nat.div_le_self _ _;rw[e,ek (n:=b/2^k) (by omega)];have:=SN (b/2^k) 1 (by omega) (by omega);rw[show((1:Nat):Int)=1 from rfl]at this;rw[this,Nat.and_one_is_mod];exact ek (by omega)
theorem L7 (s:Bytes)(i:Nat)(hi:i/8<s.length)(h:s.length≤1000000000):qd s (i:Int)=some ((Bc s i:Nat):Int):=by
 have e1:Int.tdiv (i:Int) 8=((i/8:Nat):Int):=(Int.ofNat_tdiv i 8).symm;have e2:Int.tmod (i:Int) 8=((i%8:Nat):Int):=(Int.ofNat_tmod i 8).symm;unfold qd;rw[ar (by omega),e1,wrap64 (n:=((i/8:Nat):Int)) (by omega) (by omega),a4 hi,ab,ar (by omega),e2,wrap64 (n:=7-((i%8:Nat):Int)) (by omega) (by omega),ar (by omega)];have e3:(2:Int)^(min (Int.toNat (7-((i%8:Nat):Int))) (IntKind.bits .u8))=((2^(7-i%8):Nat):Int):=by rw[show min (Int.toNat (7-((i%8:Nat):Int))) (IntKind.bits .u8)=7-i%8 from by show min _ 8=_;omega];push_cast;rfl
 rw[e3,G6 _ _ (jD _) (by omega),Bc,bO,bI hi]
theorem Mw (s:Bytes)(i:Nat)(hi:i/8<s.length)(h:s.length≤1000000000):qq s (i:Int)=some ((Bc s i:Nat):Int):=by
 have e1:Int.tdiv (i:Int) 8=((i/8:Nat):Int):=(Int.ofNat_tdiv i 8).symm;have e2:Int.tmod (i:Int) 8=((i%8:Nat):Int):=(Int.ofNat_tmod i 8).symm;have hb:=jD s[i/8];unfold qq;rw[ar (by omega),e1,wrap64 (n:=((i/8:Nat):Int)) (by omega) (by omega),a4 hi,ab,ar (by omega),e2,wrap64 (n:=7-((i%8:Nat):Int)) (by omega) (by omega),ar (by omega),ek (n:=s[i/8].toNat) (by omega)];have e3:(2:Int)^(min (Int.toNat (7-((i%8:Nat):Int))) (IntKind.bits .i64))=((2^(7-i%8):Nat):Int):=by rw[show min (Int.toNat (7-((i%8:Nat):Int))) (IntKind.bits .i64)=7-i%8 from by show min _ 64=_;omega];push_cast;rfl
 have e4:Int.fdiv ((s[i/8].toNat:Nat):Int) ((2^(7-i%8):Nat):Int)=((s[i/8].toNat/2^(7-i%8):Nat):Int):=(Int.ofNat_fdiv _ _).symm;have h1:s[i/8].toNat/2^(7-i%8)≤s[i/8].toNat:=Nat.div_le_self _ _;have key:=G6 s[i/8].toNat (7-i%8) hb (by omega);rw[e4,ek (n:=s[i/8].toNat/2^(7-i%8)) (by omega)]at key;rw[e3,e4,key,Bc,bO,bI hi]
def Ll (s:Bytes)(a:Nat):Nat→Nat
 |0=>0
 |j+1=>2*Ll s a j+Bc s (a+j)
theorem Rk (s:Bytes)(a:Nat):∀j,Ll s a j<2^j
 |0=>by simp[Ll]
 |j+1=>by have:=Rk s a j;have:=xK s (a+j);rw[Ll,Nat.pow_succ];omega
theorem Da (s:Bytes)(a j:Nat)(hj:j≤32):Ll s a j<4294967296:=ee (Rk s a j) (Nat.pow_le_pow_right (n:=2) (by omega) hj)
def Jv (s:Bytes)(a:Int):Int:=bif ((s.length:Int) !=16)|| !dB a 0 96 then-1 else((Ll s a.toNat 32:Nat):Int)
theorem RY (s:Bytes)(a:Int):n8 s a=some (Jv s a):=by
 unfold n8 Jv;rw[dH];cases hs:(s.length:Int) !=16 with|true=>rfl|false=>?_
 cases ha:dB a 0 96 with|false=>rfl|true=>?_
 have h1:=db.1 ha;have h2:s.length=16:=by simp at hs;omega
 obtain⟨a,rfl⟩:=aY h1.1;simp only[af,ab,au,cM,ax];refine cu (λi=>(((Ll s a i:Nat):Int),((a+i:Nat):Int))) 32 (by omega) (λi nx hi=>?_) (λnx=>?_);have hw:=Da s a i (by omega);have hb:=xK s (a+i);simp only[kS];rw[wrap64 (n:=(a:Int)+32) (by omega) (by omega),aj (by omega),ae,ar (by omega),L7 s (a+i) (by omega) (by omega),ab,wrap64 (n:=((a+i:Nat):Int)+1) (by omega) (by omega)];have e1:aw (((Ll s a i:Nat):Int)*2^(min (Int.toNat 1) (IntKind.bits .i64)))=((2^1*Ll s a i:Nat):Int):=by have:(2:Int)^(min (Int.toNat 1) (IntKind.bits .i64))=2:=rfl;rw[this,wrap64 (by omega) (by omega)];omega
 rw[e1,xu _ _ _ (by omega) (by omega)];rw[show(((a+i:Nat):Int)+1)=((a+(i+1):Nat):Int) by omega];rfl;simp only[kS];rw[wrap64 (n:=(a:Int)+32) (by omega) (by omega),ah (by omega)];rfl
theorem Sq (s:Bytes)(a:Int):oQ s a=some (Jv s a):=by
 unfold oQ Jv;rw[cS];cases hs:(s.length:Int) !=16 with|true=>rfl|false=>?_
 cases ha:dB a 0 96 with|false=>rfl|true=>?_
 have h1:=db.1 ha;have h2:s.length=16:=by simp at hs;omega
 obtain⟨a,rfl⟩:=aY h1.1;simp only[af,ab,au,cM,ax];refine cu (λi=>(((Ll s a i:Nat):Int),(i:Int))) 32 (by omega) (λi nx hi=>?_) (λnx=>?_);have hw:=Da s a i (by omega);have hb:=xK s (a+i);simp only[k7];rw[aj (by omega),ae,wrap64 (n:=(a:Int)+(i:Int)) (by omega) (by omega),show(a:Int)+(i:Int)=((a+i:Nat):Int) by omega,Mw s (a+i) (by omega) (by omega),ab,wrap64 (n:=(i:Int)+1) (by omega) (by omega)];rw[wrap64 (n:=2*((Ll s a i:Nat):Int)) (by omega) (by omega),wrap64 (by omega) (by omega),Ll];congr 1;simp only[k7];rw[ah (by omega)];rfl
def wO (s v:Bytes):Nat→Nat
 |0=>0
 |i+1=>if Bc v i=1 then wO s v i^^^Ll s i 32 else wO s v i
theorem B9 (s v:Bytes):∀i,wO s v i<4294967296
 |0=>by simp[wO]
 |i+1=>by have:=B9 s v i;rw[wO];split;exact tF this (Da s i 32 (by omega));exact this
def sH (s v:Bytes):Int:=bif ((s.length:Int) !=16)||decide ((v.length:Int)>12) then-1 else((wO s v (8*v.length):Nat):Int)
theorem O5 (s v:Bytes):n4 s v=some (sH s v):=by
 unfold n4 sH;cases hs:(s.length:Int) !=16 with|true=>rfl|false=>?_
 cases hv:decide ((v.length:Int)>12)with|true=>rfl|false=>?_
 have h2:s.length=16:=by simp at hs;omega
 have h3:v.length≤12:=by simp at hv;omega
 simp only[af,ab,cM];refine cu (λi=>(((wO s v i:Nat):Int),(i:Int))) (8*v.length) (by omega) (λi nx hi=>?_) (λnx=>?_);have hw:=Da s i 32 (by omega);have hh:=B9 s v i;have hb:=xK v i;have eW:Jv s (i:Int)=((Ll s i 32:Nat):Int):=by unfold Jv;rw[hs,db.2 (show(0:Int)≤(i:Int)∧(i:Int)≤96 by omega)];rfl
 simp only[kR];rw[wrap64 (n:=8*(v.length:Int)) (by omega) (by omega),aj (by omega),ae,L7 v i (by omega) (by omega),ab,RY,ab,eW,ML _ _ (by omega) (by omega),wrap64 (n:=(i:Int)+1) (by omega) (by omega),ek (Nat.lt_trans (tF hh hw) (by omega)),wO];by_cases h1:Bc v i=1;rw[h1,az rfl];rfl;rw[ar h1,show(((Bc v i:Nat):Int)==1)=false from by simp;omega];rfl;simp only[kR];rw[wrap64 (n:=8*(v.length:Int)) (by omega) (by omega),ah (by omega)];rfl
theorem PT (s v:Bytes):oN s v=some (sH s v):=by
 unfold oN sH;cases hs:(s.length:Int) !=16 with|true=>rfl|false=>?_
 cases hv:decide ((v.length:Int)>12)with|true=>rfl|false=>?_
 have h2:s.length=16:=by simp at hs;omega
 have h3:v.length≤12:=by simp at hv;omega
 simp only[af,ab,cM];refine cu (λi=>(((wO s v i:Nat):Int),(i:Int))) (8*v.length) (by omega) (λi nx hi=>?_) (λnx=>?_);have hw:=Da s i 32 (by omega);have hh:=B9 s v i;have hb:=xK v i;have eW:Jv s (i:Int)=((Ll s i 32:Nat):Int):=by unfold Jv;rw[hs,db.2 (show(0:Int)≤(i:Int)∧(i:Int)≤96 by omega)];rfl
 simp only[k6];rw[wrap64 (n:=8*(v.length:Int)) (by omega) (by omega),aj (by omega),ae,Mw v i (by omega) (by omega),ab,Sq,ab,eW,ML _ _ (by omega) (by omega),wrap64 (n:=(i:Int)+1) (by omega) (by omega),ek (Nat.lt_trans (tF hh hw) (by omega)),wO];by_cases h1:Bc v i=1;rw[h1,az rfl];rfl;rw[ar h1,show(((Bc v i:Nat):Int)==1)=false from by simp;omega];rfl;simp only[k6];rw[wrap64 (n:=8*(v.length:Int)) (by omega) (by omega),ah (by omega)];rfl
def qx (f:Int×Int×Int×Int×Int):Bytes:=((gQ f.2.1++gQ f.2.2.1)++df f.2.2.2.1)++df f.2.2.2.2
theorem Ke (f:Int×Int×Int×Int×Int):n5 f=some (qx f):=by have:=dw f.2.1;have:=dw f.2.2.1;have:=bn f.2.2.2.1;have:=bn f.2.2.2.2;simp only[n5,xo,pb,ab];rw[aM (by omega),aM (by simp only[ak];omega),aM (by simp only[ak];omega)];rfl
theorem K2 (f:Int×Int×Int×Int×Int):oO f=some (qx f):=by have:=dw f.2.1;have:=dw f.2.2.1;have:=bn f.2.2.2.1;have:=bn f.2.2.2.2;simp only[oO,nD,jR,ab];rw[aM (by omega),aM (by simp only[ak];omega),aM (by simp only[ak];omega)];rfl
theorem F3 (s:Bytes)(f:Int×Int×Int×Int×Int):pB s f=some (sH s (qx f)):=by simp only[pB,Ke,O5,ab]
theorem GD (s:Bytes)(f:Int×Int×Int×Int×Int):pW s f=some (sH s (qx f)):=by simp only[pW,K2,PT,ab]
def rG (s:eO)(f:Int×Int×Int×Int×Int):Int:=bif ((s.2.length:Int)==0)||decide (sH s.1 (qx f)<0) then-1 else Int.tmod (sH s.1 (qx f)) (s.2.length:Int)
theorem M8 (s:eO)(f:Int×Int×Int×Int×Int):qT s f=some (rG s f):=by
 unfold qT rG;rw[F3,ab];cases h0:(s.2.length:Int)==0 with|true=>rfl|false=>?_
 cases decide (sH s.1 (qx f)<0)with|true=>rfl|false=>?_
 simp only[af,ab,cM];rw[ar (by simpa using h0)]
theorem NW (s:eO)(f:Int×Int×Int×Int×Int):ri s f=some (rG s f):=by
 unfold ri rG;rw[GD,ab];cases h0:(s.2.length:Int)==0 with|true=>rfl|false=>?_
 cases decide (sH s.1 (qx f)<0)with|true=>rfl|false=>?_
 simp only[af,ab,cM];rw[ar (by simpa using h0)]
theorem DY (s:eO)(f:Int×Int×Int×Int×Int)(h:¬rG s f<0):∃n:Nat,rG s f=(n:Int)∧n<s.2.length:=by
 unfold rG at h⊢;cases hc:((s.2.length:Int)==0)||decide (sH s.1 (qx f)<0)with
 |true=>rw[hc]at h;simp at h
 |false=>
  rw[hc]at h;simp only[Bool.or_eq_false_iff,cU,cE]at hc;simp only[af]at h⊢;have h1:0≤sH s.1 (qx f):=by omega
  rw[Int.tmod_eq_emod_of_nonneg h1]at h⊢;have:=Int.emod_lt_of_pos (sH s.1 (qx f)) (show(0:Int)<s.2.length by omega);obtain⟨n,hn⟩:=aY (show 0≤sH s.1 (qx f)%(s.2.length:Int) by omega);exact⟨n,hn,by omega⟩
def yD (s:eO)(q:Int)(f:Int×Int×Int×Int×Int):Int:=bif !p7 s q||decide (rG s f<0) then-1 else s.2.getD (rG s f).toNat 0
theorem Ie (s:eO)(q:Int)(f:Int×Int×Int×Int×Int)(h:s.2.length≤1000000000):lS s q f=some (yD s q f):=by
 unfold lS yD;rw[M8,ab,Cg s q h,ab];cases p7 s q with|false=>rfl|true=>?_
 have hin:=DY s f;cases hd:decide (rG s f<0)with|true=>rfl|false=>?_
 obtain⟨n,hn,hl⟩:=hin (of_decide_eq_false hd);simp only[au,af,ab,cM,hn,a4 hl,ax,bI hl]
theorem Jf (s:eO)(q:Int)(f:Int×Int×Int×Int×Int)(h:s.2.length≤1000000000):mm s q f=some (yD s q f):=by
 unfold mm yD;rw[NW,ab,xA s q h,ab];cases p7 s q with|false=>rfl|true=>?_
 have hin:=DY s f;cases hd:decide (rG s f<0)with|true=>rfl|false=>?_
 obtain⟨n,hn,hl⟩:=hin (of_decide_eq_false hd);simp only[au,af,ab,cM,hn,a4 hl,ax,bI hl]
theorem EM (t:List Slot)(f:Int×Int×Int×Int×Int)(h:∀j,j<8→ku (dJ t j) f=false):∀n k,walk t f n k= -1
 |0,_=>rfl
 |n+1,k=>by unfold walk;rw[h _ (yN f k),EM t f h n (k+1)];split<;>rfl
theorem zR (f:Int×Int×Int×Int×Int):∀(t:List Slot)(m:Int),(∀s∈t,ku s f=false)→qw f t m= -1
 |[],_,_=>rfl
 |s::r,m,h=>by unfold qw;rw[h s (by simp)];exact zR f r (m+1) (λx hx=>h x (by simp[hx]))
theorem J5 (t:List Slot)(f:Int×Int×Int×Int×Int)(h:mE t=true):qw f t 0=walk t f 8 0:=by simp only[mE,ai,aR,a6,cZ]at h;obtain⟨h8,hs⟩:=h;by_cases hex:∃j,j<t.length∧ku (dJ t j) f=true;obtain⟨j,hj,hu,e⟩:=vo f t 0 hex;have:=hs j (by omega);simp only[kD,ai,bV,aI,aR]at this;simp only[ku,ai,aR,aX]at hu;rcases this.2 with g|g;rw[hu.1]at g;simp at g;rw[hu.2]at g;rw[show((0:Int))=((0:Nat):Int) from rfl,e,g];omega;have hn:∀j,j<t.length→ku (dJ t j) f=false:=λj hj=>Bool.eq_false_iff.2 λhu=>hex ⟨j,hj,hu⟩;rw[EM t f (λj hj=>hn j (by omega)),zR];intro s hs';obtain⟨j,hj,rfl⟩:=List.getElem_of_mem hs';have:=hn j hj;rwa[rD hj]at this
def findF (t:List Slot)(f:Int×Int×Int×Int×Int):Int:=bif mE t then walk t f 8 0 else-1
theorem F2 (t:List Slot)(f:Int×Int×Int×Int×Int)(h:t.length≤1000000000):py t f=some (findF t f):=by
 unfold py findF;rw[Ec,ab];cases ht:mE t with|false=>rfl|true=>?_
 simp only[au,af,ae,Ib t f h,ab,J5 t f ht]
theorem GC (t:List Slot)(f:Int×Int×Int×Int×Int):pT t f=some (findF t f):=by
 unfold pT findF;rw[EC,ab];cases ht:mE t with|false=>rfl|true=>?_
 have h8:t.length=8:=by simp only[mE,ai,aR]at ht;exact ht.1
 simp only[au,af,ae,I8 t f h8,ab]
theorem MJ (t:List Slot)(f:Int×Int×Int×Int×Int):∀n k,walk t f n k= -1∨∃m:Nat,walk t f n k=(m:Int)∧m<8
 |0,_=> .inl rfl
 |n+1,k=>by unfold walk;split;exact .inl rfl;split;exact .inr ⟨_,rfl,yN f k⟩;exact MJ t f n (k+1)
theorem HL (t:List Slot)(f:Int×Int×Int×Int×Int)(h:findF t f≥0):∃m:Nat,findF t f=(m:Int)∧m<t.length:=by
 unfold findF at h⊢;cases ht:mE t with
 |false=>rw[ht]at h;simp at h
 |true=>
  rw[ht]at h;simp only[ae]at h⊢;have h8:t.length=8:=by simp only[mE,ai,aR]at ht;exact ht.1
  rcases MJ t f 8 0 with g|⟨m,g,hm⟩;omega;exact⟨m,g,by omega⟩
theorem Og (x:Int)(k:Nat)(hk:k≤64):aw x%(2^k:Int)=x%(2^k:Int):=by
 obtain⟨c,hc⟩:∃c:Int,(18446744073709551616:Int)=2^k*c:=⟨2^(64-k),by rw[←Int.pow_add,show k+(64-k)=64 by omega];rfl⟩
 have:aw x=x∨∃q:Int,aw x=x+18446744073709551616*q:=by
  right;simp only[aw,eP,IntKind.wrap,IntKind.bits,IntKind.signed];simp;have h1:x=x%18446744073709551616+18446744073709551616*(x/18446744073709551616):=by omega
  split;exact⟨-(x/18446744073709551616)-1,by omega⟩;exact⟨-(x/18446744073709551616),by omega⟩
 rcases this with h|⟨q,h⟩;rw[h];rw[h,hc,Int.mul_assoc,Int.add_mul_emod_self_left]
theorem Ow (x:Int)(k:Nat)(hk:k<63):((BitVec.ofInt (IntKind.bits .i64) x&&&BitVec.ofInt (IntKind.bits .i64) (2^k-1)).toNat:Int)=x%2^k:=by
 have h2:(2:Int)^k≤2^62:=by have:(2:Nat)^k≤2^62:=Nat.pow_le_pow_right (by omega) (by omega);exact_mod_cast this
 have h0:(1:Int)≤2^k:=by have:1≤(2:Nat)^k:=Nat.one_le_two_pow;exact_mod_cast this
 have hm:(BitVec.ofInt (IntKind.bits .i64) (2^k-1)).toNat=2^k-1:=by
  show(BitVec.ofInt 64 (2^k-1)).toNat=2^k-1;rw[BitVec.toNat_ofInt,Int.emod_eq_of_lt (by omega) (by omega)];have:((2:Int)^k-1)=((2^k-1:Nat):Int):=by have:1≤(2:Nat)^k:=Nat.one_le_two_pow;push_cast [this];rfl
  rw[this];rfl
 rw[BitVec.toNat_and,hm,Nat.and_two_pow_sub_one_eq_mod];show(((BitVec.ofInt 64 x).toNat%2^k:Nat):Int)=x%2^k;rw[BitVec.toNat_ofInt];have hx:0≤x%18446744073709551616:=by omega
 have e:(((x%18446744073709551616).toNat%2^k:Nat):Int)=(x%18446744073709551616)%2^k:=by push_cast;rw[Int.toNat_of_nonneg hx]
 refine e.trans ?_;exact Int.emod_emod_of_dvd x ⟨2^(64-k),by rw[←Int.pow_add,show k+(64-k)=64 by omega];rfl⟩
theorem Nv (x n:Int)(h0:0<n)(h1:n≤4611686018427387904):jz x n=some (x%n):=by
 unfold jz;have:=Int.emod_nonneg x (show n≠0 by omega);have:=Int.emod_lt_of_pos x h0;have hn:(n.natAbs:Int)=n:=by omega
 rw[ar (by omega),Int.tmod_eq_emod];split;rw[ah (by omega)];simp;rw[aj (by omega),wrap64 (by omega) (by omega)];simp only[ae,hn];congr 1;omega
theorem zM (l:List Int)(h:l.length≤1000000000):mM l=some l:=by unfold mM;rw[aM (by simp;omega)];rfl
def xy (s:cJ):Bool:=dB s.2.1 0 65535&&(dB s.2.2.1 0 65535&&(!decide ((List.length s.2.2.2.2.2.2.2:Int)>320)&&
 (bif s.1==17 then(s.2.2.2.1==0)&&((s.2.2.2.2.1==0)&&((s.2.2.2.2.2.1==0)&&(s.2.2.2.2.2.2.1==0)))
  else(s.1==6)&&(dB s.2.2.2.1 0 4294967295&&(dB s.2.2.2.2.1 0 4294967295&&(dB s.2.2.2.2.2.1 0 31&&dB s.2.2.2.2.2.2.1 0 65535))))))
theorem My (s:cJ):lG s=some (xy s):=by simp only[lG,cS,ab,bk,cF,cT,cN,Bool.not_or,dU,Bool.and_assoc,xy]
theorem Mb (s:cJ):lp s=some (xy s):=by simp only[lp,dH,ab,bk,cF,cT,cN,Bool.not_or,dU,Bool.and_assoc,xy];by_cases h:s.1=17;rw[h];rfl;rw[show(s.1==17)=false from by simpa using h];cases s.1==6<;>rfl
def B3 (f:Int):Bool:=(f==16)||(f==17)||(f==24)||(f==25)
theorem J7 (f:Int)(h:dB f 0 31=true):(aw (BitVec.toNat (BitVec.ofInt (IntKind.bits .i64) f&&&~~~ BitVec.ofInt (IntKind.bits .i64) 9))==16)=B3 f:=by
 have key:∀k:Fin 32,(aw (BitVec.toNat (BitVec.ofInt (IntKind.bits .i64) (k.val:Int)&&&~~~ BitVec.ofInt (IntKind.bits .i64) 9))==16)=B3 (k.val:Int):=by decide
 rw[db]at h;have:=key ⟨f.toNat,by omega⟩;rwa[show((f.toNat:Nat):Int)=f by omega]at this
theorem J6 (f:Int)(h:dB f 0 31=true):oo f=some (B3 f):=by
 have key:∀k:Fin 32,((aw (BitVec.toNat (BitVec.ofInt (IntKind.bits .i64) (k.val:Int)&&&BitVec.ofInt (IntKind.bits .i64) 16)) !=0)&&(aw (BitVec.toNat (BitVec.ofInt (IntKind.bits .i64) (k.val:Int)&&&~~~ BitVec.ofInt (IntKind.bits .i64) 25))==0))=B3 (k.val:Int):=by decide
 rw[db]at h;have:=key ⟨f.toNat,by omega⟩;rw[show((f.toNat:Nat):Int)=f by omega]at this;simp only[oo,bk,ab,cF];rw[this]
theorem Ey {s:cJ}(h:xy s=true)(h6:(s.1==6)=true):dB s.2.2.2.2.2.1 0 31=true:=by
 have:s.1=6:=by simpa using h6
 unfold xy at h;rw[this]at h;simp only[ai]at h;have h:=h.2.2.2;simp at h;exact h.2.2.1
def u1 (p:aC):Bool:=dB p.1 0 281474976710655&&(dB p.2.1 0 281474976710655&&(dB p.2.2.1 (-1) 4095&&(dB p.2.2.2.1 0 255&&(dB p.2.2.2.2.2.1 0 255&&(dB p.2.2.2.2.1 0 65535&&(dB p.2.2.2.2.2.2.1 0 4294967295&&(dB p.2.2.2.2.2.2.2.1 0 4294967295&&xy p.2.2.2.2.2.2.2.2)))))))
def dy (p:aC):Bool:=u1 p&&(decide ((List.length p.2.2.2.2.2.2.2.2.2.2.2.2.2.2.2:Int)≤128)||(p.2.2.2.2.2.2.2.2.1==6)&&B3 p.2.2.2.2.2.2.2.2.2.2.2.2.2.1)
theorem Cb {p:aC}(h:u1 p=true):xy p.2.2.2.2.2.2.2.2=true:=by unfold u1 at h;simp only[ai]at h;exact h.2.2.2.2.2.2.2.2
theorem ma (p:aC):ez p=some (dy p):=by unfold ez dy;simp only[cS,My,ab,bk,cF,cT,cN,Bool.not_or,dU];rw[show(dB p.1 0 281474976710655&&(dB p.2.1 0 281474976710655&&(dB p.2.2.1 (-1) 4095&&(dB p.2.2.2.1 0 255&&(dB p.2.2.2.2.2.1 0 255&&(dB p.2.2.2.2.1 0 65535&&(dB p.2.2.2.2.2.2.1 0 4294967295&&(dB p.2.2.2.2.2.2.2.1 0 4294967295&&xy p.2.2.2.2.2.2.2.2))))))))=u1 p from rfl];cases hh:u1 p with|false=>rfl|true=>cases h6:p.2.2.2.2.2.2.2.2.1==6 with|false=>simp|true=>rw[J7 _ (Ey (Cb hh) h6)];simp[Bool.or_comm]
theorem lK (p:aC):ev p=some (dy p):=by
 unfold ev dy;simp only[dH,Mb,ab];have e:∀X:Option Bool,(cond (dB p.1 0 281474976710655) (cond (dB p.2.1 0 281474976710655) (cond (dB p.2.2.1 (-1) 4095) (cond (dB p.2.2.2.1 0 255) (cond (dB p.2.2.2.2.2.1 0 255) (cond (dB p.2.2.2.2.1 0 65535) (cond (dB p.2.2.2.2.2.2.1 0 4294967295) (cond (dB p.2.2.2.2.2.2.2.1 0 4294967295) (cond (xy p.2.2.2.2.2.2.2.2) X (some false)) (some false)) (some false)) (some false)) (some false)) (some false)) (some false)) (some false)) (some false))=cond (u1 p) X (some false):=by
  intro X;unfold u1;cases dB p.1 0 281474976710655 with|false=>rfl|true=>?_
  cases dB p.2.1 0 281474976710655 with|false=>rfl|true=>?_
  cases dB p.2.2.1 (-1) 4095 with|false=>rfl|true=>?_
  cases dB p.2.2.2.1 0 255 with|false=>rfl|true=>?_
  cases dB p.2.2.2.2.2.1 0 255 with|false=>rfl|true=>?_
  cases dB p.2.2.2.2.1 0 65535 with|false=>rfl|true=>?_
  cases dB p.2.2.2.2.2.2.1 0 4294967295 with|false=>rfl|true=>?_
  cases dB p.2.2.2.2.2.2.2.1 0 4294967295<;>rfl
 rw[e];cases hh:u1 p with|false=>rfl|true=>cases h6:p.2.2.2.2.2.2.2.2.1==6 with|false=>simp[bk]|true=>rw[J6 _ (Ey (Cb hh) h6)];simp only[ae,ab,bk,cT,bm]
def hasB (l:List Int)(v:Int):Bool:=l.any (·==v)
theorem xX {l:List Int}{v:Int}:hasB l v=true↔v∈l:=by simp only[hasB,List.any_eq_true,aR];constructor;rintro⟨x,hx,rfl⟩;exact hx;intro h;exact⟨v,h,rfl⟩
theorem s9 (l:List Int)(v:Int)(h:l.length≤1000000000):eG l v=some (hasB l v):=by
 unfold eG hasB;rw[G1 (hit:=some true) (fin:=some false) (λx:Int=>x==v) l (by omega) (λi hi nx=>?hs) (λnx=>?hf)]
 case hs=>
  simp only[oW]
  rw[aj (by omega),a4 hi,wrap64 (by omega) (by omega)];rfl
 case hf=>
  simp only[oW]
  rw[ah (by omega)];rfl
 cases l.any (λx=>x==v)<;>rfl
theorem qP (l:List Int)(v:Int)(h:l.length≤1000000000):dS l v=some (hasB l v):=s9 l v h
def ins (v:Int):List Int→List Int
 |[]=>[v]
 |x::l=>bif decide (v<x) then v::x::l else x::ins v l
theorem AD (v:Int):∀l,(ins v l).length=l.length+1
 |[]=>rfl
 |x::l=>by rw[ins];cases decide (v<x)with|true=>rfl|false=>simp only[af,bD,AD v l]
theorem Mi (v x:Int):∀l,x∈ins v l↔x=v∨x∈l
 |[]=>by simp[ins]
 |y::l=>by rw[ins];cases decide (v<y)with|true=>simp|false=>simp only[af,bu,Mi v x l];constructor<;>(rintro(h|h|h)<;>simp[h])
theorem Kl (v:Int):∀l:List Int,v∉l→l.take (l.findIdx (λx=> !decide (x<v)))++[v]++l.drop (l.findIdx (λx=> !decide (x<v)))=ins v l
 |[],_=>rfl
 |x::l,h=>by rw[ins,List.findIdx_cons];have hx:v≠x:=λe=>h (by simp[e]);have hl:v∉l:=λe=>h (by simp[e]);by_cases c:x<v;rw[aj c,ah (show¬v<x by omega)];have:=Kl v l hl;simpa using this;rw[ah c,aj (show v<x by omega)];rfl
def qu (l:List Int)(v:Int):List Int:=bif hasB l v then l else ins v l
theorem xI (l:List Int)(v:Int):(qu l v).length≤l.length+1:=by unfold qu;cases hasB l v with|true=>simp|false=>simp only[af,AD];omega
theorem Po {l:List Int}{v x:Int}(h:x∈l):x∈qu l v:=by unfold qu;cases hasB l v with|true=>exact h|false=>exact(Mi v x l).2 (.inr h)
theorem MP {l:List Int}{v:Int}(h:v∈l):qu l v=l:=by unfold qu;rw[xX.2 h];rfl
theorem tX:∀(vs l:List Int),(vs.foldl qu l).length≤l.length+vs.length
 |[],l=>by simp
 |v::vs,l=>by have:=tX vs (qu l v);have:=xI l v;simp only[cq,bD];omega
theorem zk:∀(vs:List Int){l:List Int}{x:Int},x∈l→x∈vs.foldl qu l
 |[],_,_,h=>h
 |v::vs,l,x,h=>zk vs (l:=qu l v) (Po h)
theorem HN {α R:Type}(p:α→Bool)(k:Int→Option R)(l:List α):(match l.findIdx? p with|some i=>k (i:Int)|none=>k (l.length:Int))=k (l.findIdx p:Int):=by cases h:l.findIdx? p with|none=>rw[List.findIdx?_eq_none_iff_findIdx_eq]at h;rw[h]|some i=>rw[List.findIdx?_eq_some_iff_findIdx_eq]at h;rw[h.2]
theorem CX {α:Type}(l:List α)(j:Nat)(h:j≤l.length):sub l 0 (j:Int)=some (l.take j):=by unfold sub;rw[az (by omega)];simp
theorem Jl {α:Type}(l:List α)(j:Nat)(h:j≤l.length):sub l (j:Int) (l.length:Int)=some (l.drop j):=by unfold sub;rw[az (by omega)];simp
theorem ED (a vs:List Int)(h:a.length+vs.length≤1000000000):m6 a vs=some (vs.foldl qu a):=by
 unfold m6;rw[aM (by simp only[dh];omega)];rw[a9];have:=oK (T:=jx (λ(y10:List Int) (_:Int)=>some y10) vs) vs (λ(s:List Int) i=>(s,(i:Int))) (λi s=>s.length≤a.length+i) (λv s=> .ok (qu s v)) (λs=>some s) (by omega) (λi hi s nx hI=>?hs) (λi hi s s' hI hg=>?hn) (λs nx hI=>?hf) a (by simp)
 case hs=>
  simp only[jx]
  rw[aj (by omega),a4 hi,wrap64 (n:=(i:Int)+1) (by omega) (by omega)]
  simp only[ae,ab,s9 s vs[i] (by omega)]
  unfold qu
  cases hh:hasB s vs[i]with
  |true=>rfl
  |false=>
   have hm:vs[i]∉s:=λe=>by rw[xX.2 e]at hh;cases hh
   simp only[af]
   rw[vZ (hit:=λy6=>aa (sub s 0 y6) λx7=>room (List.length ([]:List Int)+List.length x7) (room (List.length (([]:List Int)++x7)+List.length ([vs[i]])) (aa (sub s y6 (s.length:Int)) λx9=>room (List.length ((([]:List Int)++x7)++([vs[i]]))+List.length x9) (nx (((([]:List Int)++x7)++([vs[i]]))++x9,(i:Int)+1)))))
    (fin:=aa (sub s 0 (s.length:Int)) λx7=>room (List.length ([]:List Int)+List.length x7) (room (List.length (([]:List Int)++x7)+List.length ([vs[i]])) (aa (sub s (s.length:Int) (s.length:Int)) λx9=>room (List.length ((([]:List Int)++x7)++([vs[i]]))+List.length x9) (nx (((([]:List Int)++x7)++([vs[i]]))++x9,(i:Int)+1)))))
    (λx=> !decide (x<vs[i])) s (by omega) (λj hj nx'=>?hs2) (λnx'=>?hf2)]
   case hs2=>
    simp only[mu]
    rw[aj (by omega),a4 hj,a4 hi,wrap64 (n:=(j:Int)+1) (by omega) (by omega)]
    simp only[ae,ab]
    cases decide (s[j]<vs[i])<;>rfl
   case hf2=>
    simp only[mu]
    rw[ah (by omega)];rfl
   refine Eq.trans (HN (λx=> !decide (x<vs[i])) (λy6=>aa (sub s 0 y6) λx7=>room (List.length ([]:List Int)+List.length x7) (room (List.length (([]:List Int)++x7)+List.length ([vs[i]])) (aa (sub s y6 (s.length:Int)) λx9=>room (List.length ((([]:List Int)++x7)++([vs[i]]))+List.length x9) (nx (((([]:List Int)++x7)++([vs[i]]))++x9,(i:Int)+1))))) s) ?_
   have hle:s.findIdx (λx=> !decide (x<vs[i]))≤s.length:=List.findIdx_le_length
   have e:=Kl vs[i] s hm
   generalize s.findIdx (λx=> !decide (x<vs[i]))=j at*
   rw[CX s j hle,Jl s j hle]
   simp only[ab,a9]
   rw[aM (by simp;omega),aM (by simp;omega),aM (by simp;omega),e];rfl
 case hn=>
  cases hg
  have:=xI s vs[i]
  omega
 case hf=>
  simp only[jx]
  rw[ah (by omega)];rfl
 rw[uF]at this;exact this
theorem FZ (l:List Int)(v:Int)(h:l.length≤1000000000):fL l v=some (ins v l):=by
 unfold fL
 have hgo:∀(l:List Int)(acc:List Int)(d:Bool),acc.length+l.length+(bif d then 0 else 1)≤1073741824→
  sG (λ(x:Int) (s:List Int×Bool) (k:List Int×Bool→Option (List Int))=>cond (cond (!s.2) (decide (v<x)) false) (room (List.length s.1+List.length ([v])) (room (List.length (s.1++([v]))+List.length ([x])) (k ((s.1++([v]))++([x]),true)))) (room (List.length s.1+List.length ([x])) (k (s.1++([x]),s.2))))
   (λs=>cond (!s.2) (room (List.length s.1+List.length ([v])) (some (s.1++([v])))) (some s.1)) l (acc,d)=some (acc++bif d then l else ins v l):=by
  intro l
  induction l with
  |nil=>
   intro acc d hl
   rw[sG]
   simp only[dh]at hl
   cases d with
   |true=>simp
   |false=>
    simp only[bp,ae,af]at hl⊢
    rw[aM (by simp;omega)];rfl
  |cons x l ih=>
   intro acc d hl
   simp only[bD]at hl
   rw[sG]
   cases d with
   |true=>
    simp only[au,af,ae]at hl⊢
    rw[aM (by simp;omega),ih _ _ (by simp;omega)]
    simp
   |false=>
    simp only[bp,ae,af]at hl⊢
    rw[ins]
    cases decide (v<x)with
    |true=>
     simp only[ae]
     rw[aM (by simp;omega),aM (by simp;omega)]
     rw[ih _ _ (by simp;omega)];simp
    |false=>
     simp only[af]
     rw[aM (by simp;omega),ih _ _ (by simp;omega)]
     simp
 have hfu:=fg;have key:=tL (T:=gz (λ(y3:List Int) (y4:Bool) (_:Int)=>cond (!y4) (room (List.length y3+List.length ([v])) (some (y3++([v])))) (some y3)) v l (l.length:Int)) l (λ(s:List Int×Bool) i=>(s.1,s.2,(i:Int))) (λ(x:Int) (s:List Int×Bool) (k:List Int×Bool→Option (List Int))=>cond (cond (!s.2) (decide (v<x)) false) (room (List.length s.1+List.length ([v])) (room (List.length (s.1++([v]))+List.length ([x])) (k ((s.1++([v]))++([x]),true)))) (room (List.length s.1+List.length ([x])) (k (s.1++([x]),s.2)))) (λs=>cond (!s.2) (room (List.length s.1+List.length ([v])) (some (s.1++([v])))) (some s.1)) (λi hi s nx=>by simp only[gz];rw[aj (by omega),a4 hi,wrap64 (n:=(i:Int)+1) (by omega) (by omega)];simp only[ae,ab,bk];rfl) (λs nx=>by simp only[gz];rw[ah (by omega)];rfl) fuel 0 (([]:List Int),false) (by omega) (by omega);rw[cY,hgo l [] false (by simp;omega)]at key;exact key
def gL:Port:=(0,[],0,false)
def AG (p:Port):Bool:=c6 (p.1,false,p.2.1)&&hasB p.2.1 p.2.2.1
def yn (l:List Port)(i:Nat):Bool:=AG (l.getD i gL)&&(List.range i).all (λj=> !((j !=0)&&((l.getD j gL).1==(l.getD i gL).1)))
def eA (l:List Port):Bool:=dB (l.length:Int) 1 8&&(List.range l.length).all (yn l)
theorem KU (i:Nat)(q:Nat→Bool):(List.range (i-1)).all (λj=> !(q (j+1)))=(List.range i).all (λj=> !((j !=0)&&q j)):=by
 rw[bH,a6,a6];simp only[cZ];constructor;intro h j hj;cases j with|zero=>rfl|succ j=>have:=h j (by omega);simpa using this
 intro h j hj;have:=h (j+1) (by omega);simpa using this
theorem wy (l:List Port)(h:l.length≤1000000000)(hv:∀p∈l,p.2.1.length≤1000000000):hK l=some (eA l):=by
 unfold hK eA;rw[fF (hit:=some false) (fin:=some true) (yn l) l.length (by omega) (λi nx hi=>?hs) (λnx=>?hf)]
 case hs=>
  have hvi:=hv _ (aG hi)
  simp only[nn]
  rw[aj (by omega),a4 hi,wrap64 (by omega) (by omega)]
  simp only[ae,ab,lE (l[i].1,false,l[i].2.1) hvi,s9 _ _ hvi]
  have e1:(1:Int)=(((0:Nat)+1:Nat):Int):=rfl
  rw[e1,DM (hit:=some false) (fin:=nx ((i:Int)+1)) (λj=>((j+1:Nat):Int)) (λj=> !((l.getD (j+1) gL).1==l[i].1)) (i-1) (by omega) (λj nx' hj hp=>?hs2) (λhp nx'=>?hf2)]
  case hs2=>
   have hjl:j+1<l.length:=by omega
   simp only[np]
   rw[aj (by omega),a4 hjl,a4 hi,wrap64 (by omega) (by omega)]
   simp only[ae,ab,bI hjl,dU];rfl
  case hf2=>
   simp only[np]
   rw[ah (by omega)];rfl
  rw[KU i (λj=>(l.getD j gL).1==l[i].1)]
  simp only[yn,AG,bI hi]
  cases c6 (l[i].1,false,l[i].2.1)<;>cases hasB l[i].2.1 l[i].2.2.1<;>cases (List.range i).all (λj=> !((j !=0)&&((l.getD j gL).1==l[i].1)))<;>rfl
 case hf=>
  simp only[nn]
  rw[ah (by omega)];rfl
 simp only[cS,ab];cases dB (l.length:Int) 1 8<;>cases (List.range l.length).all (yn l)<;>rfl
def ud (p:Nat→Bool):List Nat→Int
 |[]=> -1
 |j::r=>bif p j then(j:Int) else ud p r
theorem HO (p:Nat→Bool):∀n s i,s≤i→i<s+n→p i=true→(ud p (List.range' s n)==(i:Int))=(List.range' s (i-s)).all (λj=> !(p j))
 |0,s,i,h1,h2,_=>by omega
 |n+1,s,i,h1,h2,hp=>by
  rw[List.range'_succ,ud];rcases bc s i with hlt|hge;obtain⟨k,hk⟩:∃k,i-s=k+1:=⟨i-s-1,by omega⟩
  rw[hk,List.range'_succ,bg];cases hps:p s with
  |true=>
   simp only[ae,au,cy];have:¬(s:Int)=(i:Int):=by omega
   simpa using this
  |false=>simp only[af,bp,bm];rw[HO p n (s+1) i (by omega) (by omega) hp,show i-(s+1)=k by omega]
  have:s=i:=by omega
  subst this;rw[hp,dp];simp
theorem CI {R:Type}(p:Nat→Bool)(hit:Nat→Option R)(fin:Option R)(k:Int→Option R)(h1:∀j:Nat,hit j=k (j:Int))(h2:fin=k (-1)):∀l:List Nat,CG (λ(j:Nat) (s:Unit)=>bif p j then .error (hit j) else .ok ()) (λ_=>fin) l ()=k (ud p l)
 |[]=>h2
 |j::l=>by rw[CG,ud];cases p j with|true=>exact h1 j|false=>exact CI p hit fin k h1 h2 l
theorem Ih (l:List Port)(a:Int)(h:l.length≤1000000000):mO l a=some (ud (λj=>(j !=0)&&((l.getD j gL).1==a)) (List.range' 0 l.length)):=by
 unfold mO;have:=oK (T:=iY (λ(_:Int)=>some (-1)) (λ(y4:Int) (_:Int)=>some y4) a 0 l (l.length:Int)) (List.range' 0 l.length) (λ(_:Unit) i=>(i:Int)) (λ_ _=>True) (λ(j:Nat) (s:Unit)=>bif (j !=0)&&((l.getD j gL).1==a) then .error (some (j:Int)) else .ok ()) (λ_=>some (-1)) (by simp;omega) (λi hi s nx _=>?hs) (λ_ _ _ _ _ _=>trivial) (λs nx _=>?hf) () trivial
 case hs=>
  have hil:i<l.length:=by simpa using hi
  have e:(List.range' 0 l.length)[i]=i:=by simp
  rw[e]
  simp only[iY]
  rw[aj (by omega),a4 hil,wrap64 (by omega) (by omega)]
  simp only[ae,ab,bI hil,bk,cF]
  have e2:((i:Int) !=0)=(i !=0):=by rw[bH];simp
  rw[e2]
  cases (i !=0)&&(l[i].1==a)<;>rfl
 case hf=>
  simp only[iY]
  rw[ah (by simp)];rfl
 rw[CI (λj=>(j !=0)&&((l.getD j gL).1==a)) _ _ (λx=>some x) (λ_=>rfl) rfl]at this;exact this
theorem wh (l:List Port)(h:l.length≤1000000000)(hv:∀p∈l,p.2.1.length≤1000000000):gZ l=some (eA l):=by
 unfold gZ eA;rw[fF (hit:=some false) (fin:=some true) (yn l) l.length (by omega) (λi nx hi=>?hs) (λnx=>?hf)]
 case hs=>
  have hvi:=hv _ (aG hi)
  simp only[nb]
  rw[aj (by omega),a4 hi,wrap64 (by omega) (by omega)]
  simp only[ae,ab,tq,ll (l[i].1,false,l[i].2.1) hvi,qP _ _ hvi,Ih l _ h,bk,bne]
  have e2:((i:Int)==0)=(i==0):=by rw[bH];simp
  rw[e2]
  simp only[yn,AG,bI hi]
  cases h0:i==0 with
  |true=>
   have:i=0:=by simpa using h0
   subst this
   cases c6 (l[0].1,false,l[0].2.1)<;>cases hasB l[0].2.1 l[0].2.2.1<;>rfl
  |false=>
   have hne:(i !=0)=true:=by simp only[bne,h0,bp]
   have fa:=HO (λj=>(j !=0)&&((l.getD j gL).1==l[i].1)) l.length 0 i (by omega) (by omega) (by simp only[hne,bI hi,bm,dF])
   rw[Nat.sub_zero,←List.range_eq_range' (n:=i)]at fa
   simp only[bne]at fa⊢
   rw[fa]
   cases c6 (l[i].1,false,l[i].2.1)<;>cases hasB l[i].2.1 l[i].2.2.1<;>cases (List.range i).all (λj=> !((!(j==0))&&((l.getD j gL).1==l[i].1)))<;>rfl
 case hf=>
  simp only[nb]
  rw[ah (by omega)];rfl
 simp only[dH,ab];cases dB (l.length:Int) 1 8<;>cases (List.range l.length).all (yn l)<;>rfl
def jA (m:aS):Bool:=c6 m.1&&(dB m.2.1 0 1000000000000&&dB m.2.2.2 0 1000000000000)
theorem Jb (m:aS)(h:m.1.2.2.length≤1000000000):lF m=some (jA m):=by simp only[lF,lE _ h,cS,ab,bk,cF,jA]
theorem H8 (m:aS)(h:m.1.2.2.length≤1000000000):ln m=some (jA m):=by simp only[ln,ll _ h,dH,ab,bk,cF,jA]
theorem tO {m:aS}(h:jA m=true):m.1.2.2.length≤8:=by unfold jA c6 at h;simp only[ai,aX]at h;omega
def Gm (m:aS):Port:=(m.1.1,m.1.2.2.foldl qu [0],0,true)
def w4 (s:List Int×List Port)(m:aS):List Int×List Port:=(m.1.2.2.foldl qu s.1,s.2++[Gm m])
def s5 (ms:List aS):List Port:=(0,(ms.foldl w4 ([0],[])).1,0,false)::(ms.foldl w4 ([0],[])).2
def dv (ms:List aS):List Port×Bool:=bif dB (ms.length:Int) 1 3&&(ms.all jA&&eA (s5 ms)) then(s5 ms,true) else([],false)
theorem CH {α σ R:Type}(p:α→Bool)(f:σ→α→σ)(r:Option R)(fin:σ→Option R):∀(l:List α)(s:σ),CG (λx s=>bif p x then .ok (f s x) else .error r) fin l s=bif l.all p then fin (l.foldl f s) else r
 |[],s=>rfl
 |x::l,s=>by rw[CG,bg,cq];cases p x with|false=>rfl|true=>simp only[ae,bm];exact CH p f r fin l (f s x)
def GX (i:Nat)(s:List Int×List Port):Prop:=s.1.length≤1+9*i∧s.2.length=i∧∀p∈s.2,p.2.1.length≤9
theorem GX.port {i:Nat}{s:List Int×List Port}(h:GX i s){m:aS}(hm:jA m=true)(U:List Int)(hU:U.length≤s.1.length+9):GX (i+1) (U,s.2++[Gm m]):=by have hl:=tO hm;have:=tX m.1.2.2 [0];refine⟨?_,?_,?_⟩;have:=h.1;simp only;omega;have:=h.2.1;simp;omega;intro p hp;rcases aq.1 hp with hp|hp;exact h.2.2 p hp;simp only[cL]at hp;subst hp;simp only[Gm,bz]at this⊢;omega
theorem vD {i:Nat}{s:List Int×List Port}(h:GX i s)(hi:i≤3):((0,s.1,0,false)::s.2:List Port).length≤1000000000∧∀p∈((0,s.1,0,false)::s.2:List Port),p.2.1.length≤1000000000:=by have h1:=h.1;have h2:=h.2.1;refine⟨by simp only[bD];omega,λp hp=>?_⟩;rcases bu.1 hp with rfl|hp;simp only;omega;have:=h.2.2 p hp;omega
theorem qn (ms:List aS)(h:∀m∈ms,m.1.2.2.length≤1000000000):jU ms=some (dv ms):=by
 unfold jU dv;simp only[cS,ab];cases hn:dB (ms.length:Int) 1 3 with
 |false=>rfl
 |true=>
  have hn':=db.1 hn;simp only[au,af,bm];have:=oK (T:=ko (λ(y12:List Port) (_:Int)=>aa (hK y12) λr14=>cond (!r14) (some (([]:List Port),false)) (some (y12,true))) (λ(y15:List Port) (y16:Bool) (_:List Port) (_:Int)=>some (y15,y16)) ms ([]:List Port) false) ms (λ(s:List Int×List Port) i=>((0,s.1,0,false)::s.2,(i:Int))) GX (λm s=>bif jA m then .ok (w4 s m) else .error (some (([]:List Port),false))) (λs=>some (bif eA ((0,s.1,0,false)::s.2) then((0,s.1,0,false)::s.2,true) else([],false))) (by omega) (λi hi s nx hI=>?hs) (λi hi s s' hI hg=>?hn) (λs nx hI=>?hf) ([0],[]) ⟨by simp,rfl,by simp⟩
  case hs=>
   simp only[ko]
   have hm:=h _ (aG hi)
   rw[aj (by omega),a4 hi,wrap64 (n:=(i:Int)+1) (by omega) (by omega)]
   simp only[ae,ab,Jb _ hm]
   cases hmb:jA ms[i]with
   |false=>rfl
   |true=>
    have hl:=tO hmb
    have hU:=hI.1
    have hP:=hI.2.1
    have e0:idx ((0,s.1,0,false)::s.2:List Port) 0=some (0,s.1,0,false):=rfl
    simp only[au,af,ae,e0,ab]
    rw[ED s.1 _ (by omega),ED [0] _ (by simp;omega)]
    simp only[ab]
    rw[aM (by simp;omega)]
    rfl
  case hn=>
   cases hmb:jA ms[i]with
   |false=>rw[hmb]at hg;cases hg
   |true=>
    rw[hmb]at hg
    cases hg
    have:=tX ms[i].1.2.2 s.1
    have:=tO hmb
    exact hI.port hmb _ (by omega)
  case hf=>
   simp only[ko]
   rw[ah (by omega)]
   have hb:=vD hI (by omega)
   simp only[af,wy _ hb.1 hb.2,ab]
   cases eA ((0,s.1,0,false)::s.2)<;>rfl
  rw[CH]at this;refine Eq.trans this ?_;unfold s5;cases ms.all jA<;>rfl
def EF (s:List Int×List Port)(m:aS):List Int×List Port:=(([0]++m.1.2.2).foldl qu s.1,s.2++[Gm m])
theorem PZ {s:List Int×List Port}{m:aS}(h:(0:Int)∈s.1):EF s m=w4 s m:=by unfold EF w4;rw[List.foldl_append];simp only[cq,List.foldl_nil,MP h]
theorem CS:∀(ms:List aS)(s:List Int×List Port),(0:Int)∈s.1→ms.foldl EF s=ms.foldl w4 s
 |[],_,_=>rfl
 |m::ms,s,h=>by rw[cq,cq,PZ h];exact CS ms _ (zk _ h)
theorem Jj (ms:List aS)(h:ms≠[]):ms.foldl EF ([],[])=ms.foldl w4 ([0],[]):=by cases ms with|nil=>exact absurd rfl h|cons m ms=>rw[cq,cq];have e:EF ([],[]) m=w4 ([0],[]) m:=rfl;rw[e];exact CS ms _ (zk _ (by simp))
theorem Na {R:Type}(k0:List Int→List Int→Int→Option R)(k:List Int→List Int→Option R)(hk:∀a b i,k0 a b i=k a b)(v2:List Port)(v3:Bool)(v4:List Port)(v18:List aS)(v19 v20:Int)(b7:aS)(vs all:List Int)(h:all.length+vs.length≤1000000000): aW (gn k0 v2 v3 v4 v18 v19 v20 vs (vs.length:Int) b7) fuel (all,([]:List Int),0)=k (vs.foldl qu all) (vs.foldl qu []):=by
 have:=oK (T:=gn k0 v2 v3 v4 v18 v19 v20 vs (vs.length:Int) b7) vs (λ(s:List Int×List Int) i=>(s.1,s.2,(i:Int))) (λi s=>s.1.length≤all.length+i∧s.2.length≤i) (λv s=> .ok (qu s.1 v,qu s.2 v)) (λs=>k s.1 s.2) (by omega) (λi hi s nx hI=>?hs) (λi hi s s' hI hg=>?hn) (λs nx hI=>?hf) (all,[]) ⟨by simp,by simp⟩
 case hs=>
  simp only[gn]
  rw[aj (by omega),a4 hi,wrap64 (n:=(i:Int)+1) (by omega) (by omega)]
  simp only[ae,ab,qP s.2 vs[i] (by omega),qP s.1 vs[i] (by omega),FZ s.2 vs[i] (by omega),FZ s.1 vs[i] (by omega),qu]
  cases hasB s.2 vs[i]<;>cases hasB s.1 vs[i]<;>rfl
 case hn=>
  cases hg
  have:=xI s.1 vs[i]
  have:=xI s.2 vs[i]
  have h1:=hI.1
  have h2:=hI.2
  exact⟨by simp only;omega,by simp only;omega⟩
 case hf=>
  simp only[gn]
  rw[ah (by omega)]
  simp only[af,hk]
 rw[uF]at this;refine Eq.trans this ?_;have e:∀(l:List Int)(s:List Int×List Int),l.foldl (λs v=>(qu s.1 v,qu s.2 v)) s=(l.foldl qu s.1,l.foldl qu s.2):=by intro l;induction l with|nil=>intro s;rfl|cons x l ih=>intro s;rw[cq,ih];rfl
 rw[e]
theorem sJ (ms:List aS)(h:∀m∈ms,m.1.2.2.length≤1000000000):jJ ms=some (dv ms):=by
 unfold jJ dv;simp only[dH,ab];cases hn:dB (ms.length:Int) 1 3 with
 |false=>rfl
 |true=>
  have hn':=db.1 hn;simp only[au,af,bm];have:=oK (T:=kf (λ(y14:List Port) (y15:List Int) (_:Int)=>aa (idx y14 0) λx17=>aa (idx y14 0) λx18=>aa (gZ (List.set y14 (Int.toNat 0) (x18.1,y15,x18.2.2))) λr19=>cond (!r19) (some (([]:List Port),false)) (some (List.set y14 (Int.toNat 0) (x18.1,y15,x18.2.2),true))) (λ(y20:List Port) (y21:Bool) (_:List Port) (_:List Int) (_:Int)=>some (y20,y21)) ([]:List Port) false ms (ms.length:Int)) ms (λ(s:List Int×List Port) i=>((0,[],0,false)::s.2,s.1,(i:Int))) GX (λm s=>bif jA m then .ok (EF s m) else .error (some (([]:List Port),false))) (λs=>some (bif eA ((0,s.1,0,false)::s.2) then((0,s.1,0,false)::s.2,true) else([],false))) (by omega) (λi hi s nx hI=>?hs) (λi hi s s' hI hg=>?hn) (λs nx hI=>?hf) ([],[]) ⟨by simp,rfl,by simp⟩
  case hs=>
   simp only[kf]
   have hm:=h _ (aG hi)
   rw[aj (by omega),a4 hi,wrap64 (n:=(i:Int)+1) (by omega) (by omega)]
   simp only[ae,ab,H8 _ hm]
   cases hmb:jA ms[i]with
   |false=>rfl
   |true=>
    have hl:=tO hmb
    have hU:=hI.1
    have hP:=hI.2.1
    simp only[au,af,ae]
    rw[aM (by simp;omega)]
    refine(Na _ (λa b=>room (List.length ((0,[],0,false)::s.2:List Port)+List.length ([(ms[i].1.1,b,0,true)]:List Port)) (nx (((0,[],0,false)::s.2)++([(ms[i].1.1,b,0,true)]),a,(i:Int)+1))) (λ_ _ _=>rfl) _ _ _ _ _ _ _ ([0]++ms[i].1.2.2) s.1 (by simp only[ak,bz];omega)).trans ?_
    rw[aM (by simp;omega)]
    rfl
  case hn=>
   cases hmb:jA ms[i]with
   |false=>rw[hmb]at hg;cases hg
   |true=>
    rw[hmb]at hg
    cases hg
    have hu:=tX ([0]++ms[i].1.2.2) s.1
    have hl:=tO hmb
    simp only[ak,bz]at hu
    exact hI.port hmb _ (by omega)
  case hf=>
   simp only[kf]
   rw[ah (by omega)]
   have hb:=vD hI (by omega)
   have e0:idx ((0,[],0,false)::s.2:List Port) 0=some (0,[],0,false):=rfl
   have e1:List.set ((0,[],0,false)::s.2:List Port) (Int.toNat 0) (0,s.1,0,false)=(0,s.1,0,false)::s.2:=rfl
   simp only[af,e0,ab,e1,wh _ hb.1 hb.2]
   cases eA ((0,s.1,0,false)::s.2)<;>rfl
  rw[CH,Jj ms (by rintro rfl;simp at hn')]at this;refine Eq.trans this ?_;unfold s5;cases ms.all jA<;>rfl
def rF (f:Filter)(p:aC):Bool:=c6 f&&(((p.1==f.1)||((p.1==281474976710655)||f.2.1))&&((p.2.2.1== -1)||hasB f.2.2 p.2.2.1))
theorem H0 (f:Filter)(p:aC)(h:f.2.2.length≤1000000000):qQ f p=some (rF f p):=by simp only[qQ,ll f h,qP f.2.2 _ h,ab,rF];cases c6 f<;>cases p.1==f.1<;>cases p.1==281474976710655<;>cases f.2.1<;>cases p.2.2.1== -1<;>rfl
theorem I3 (f:Filter)(p:aC)(h:f.2.2.length≤1000000000):re f p=some (rF f p):=by simp only[re,lE f h,s9 f.2.2 _ h,ab,rF];cases c6 f<;>cases p.1==f.1<;>cases p.1==281474976710655<;>cases f.2.1<;>cases p.2.2.1== -1<;>rfl
def preB (a b n:Int):Bool:=Int.fdiv a (2^(min (Int.toNat (aw (32-n))) (IntKind.bits .i64)))==Int.fdiv b (2^(min (Int.toNat (aw (32-n))) (IntKind.bits .i64)))
theorem Ev {r:dC}(h:tU r=true):0≤r.2.2.2.1∧r.2.2.2.1≤32:=by rw[←db];unfold tU at h;simp only[hZ,cS,ab,bk]at h;cases hp:dB r.2.2.2.1 0 32 with|true=>rfl|false=>rw[hp]at h;revert h;cases dB r.1 0 1000<;>cases r.2.1 !=0<;>cases r.2.1 !=6<;>cases r.2.1 !=17<;>cases dB r.2.2.1 0 4294967295<;>simp
def OD (r:dC)(p:aC):Bool:=preB r.2.2.1 p.2.2.2.2.2.2.1 r.2.2.2.1&&(dB p.2.2.2.2.2.2.2.2.2.2.1 r.2.2.2.2.1 r.2.2.2.2.2.1&&((r.2.2.2.2.2.2.1== -2)||(r.2.2.2.2.2.2.1==p.2.2.1)))
def vB (r:dC)(p:aC):Bool:=tU r&&(dy p&&(((r.2.1==0)||(r.2.1==p.2.2.2.2.2.2.2.2.1))&&OD r p))
theorem RT (a b n:Int)(h0:0≤n)(h1:n≤32):kh a b n=some (preB a b n):=by unfold kh preB;rw[ar (by rw[wrap64 (n:=32-n) (by omega) (by omega)];omega),ar (by rw[wrap64 (n:=32-n) (by omega) (by omega)];omega)]
theorem Nc (r:dC)(p:aC):lP r p=some (vB r p):=by
 unfold lP vB;rw[Pa,ab];cases hr:tU r with|false=>rfl|true=>?_
 have hp:=Ev hr;simp only[lK,RT _ _ _ hp.1 hp.2,dH,ab,OD];cases dy p<;>cases r.2.1==0<;>cases r.2.1==p.2.2.2.2.2.2.2.2.1<;>cases preB r.2.2.1 p.2.2.2.2.2.2.1 r.2.2.2.1<;>cases dB p.2.2.2.2.2.2.2.2.2.2.1 r.2.2.2.2.1 r.2.2.2.2.2.1<;>cases r.2.2.2.2.2.2.1== -2<;>rfl
theorem NZ (r:dC)(p:aC):mh r p=some (vB r p):=by
 unfold mh vB;rw[CP,ab];cases hr:tU r with|false=>rfl|true=>?_
 have hp:=Ev hr;have hw:¬aw (32-r.2.2.2.1)<0:=by rw[wrap64 (n:=32-r.2.2.2.1) (by omega) (by omega)];omega
 simp only[ma,qG,ar hw,cS,ab,OD];rw[show(Int.fdiv r.2.2.1 (2^(min (Int.toNat (aw (32-r.2.2.2.1))) (IntKind.bits .i64)))==Int.fdiv p.2.2.2.2.2.2.1 (2^(min (Int.toNat (aw (32-r.2.2.2.1))) (IntKind.bits .i64))))=preB r.2.2.1 p.2.2.2.2.2.2.1 r.2.2.2.1 from rfl];cases dy p<;>cases r.2.1==0<;>cases r.2.1==p.2.2.2.2.2.2.2.2.1<;>cases preB r.2.2.1 p.2.2.2.2.2.2.1 r.2.2.2.1<;>cases dB p.2.2.2.2.2.2.2.2.2.2.1 r.2.2.2.2.1 r.2.2.2.2.2.1<;>cases r.2.2.2.2.2.2.1== -2<;>rfl
def Aa:dC:=(0,0,0,0,0,0,0,0,0)
def qH (l:List dC)(p:aC):Nat→Int
 |0=> -1
 |i+1=>bif vB (l.getD i Aa) p&&(decide (qH l p i<0)||decide ((l.getD i Aa).1<(l.getD (qH l p i).toNat Aa).1)) then(i:Int) else qH l p i
theorem AZ (l:List dC)(p:aC):∀i,qH l p i= -1∨∃n:Nat,qH l p i=(n:Int)∧n<i
 |0=> .inl rfl
 |i+1=>by rw[qH];cases vB (l.getD i Aa) p&&(decide (qH l p i<0)||decide ((l.getD i Aa).1<(l.getD (qH l p i).toNat Aa).1))with|true=>exact .inr ⟨i,rfl,by omega⟩|false=>rcases AZ l p i with h|⟨n,h,hn⟩;exact .inl h;exact .inr ⟨n,h,by omega⟩
theorem DP {R:Type}(l:List dC)(p:aC)(i:Nat)(hi:i<l.length)(nx:Int×Int→Option R): (aa (cond (vB l[i] p) (cond (decide (qH l p i<0)) (some true) (aa (idx l (qH l p i)) λx4=>some (decide (l[i].1<x4.1)))) (some false)) λq5=>cond q5 (nx ((i:Int),((i+1:Nat):Int))) (nx (qH l p i,((i+1:Nat):Int))))=nx (qH l p (i+1),((i+1:Nat):Int)):=by
 rw[qH,bI hi];cases vB l[i] p with|false=>rfl|true=>?_
 rcases AZ l p i with h|⟨n,h,hn⟩;rw[h];rfl;have hl:n<l.length:=by omega
 rw[h,ah (show¬(n:Int)<0 by omega),a4 hl];simp only[ae,af,ab,ax,bI hl,bm,cX];cases decide (l[i].1<l[n].1)<;>rfl
def u0 (l:List dC)(p:aC):Int:=bif su l then qH l p l.length else-1
theorem HM (l:List dC)(p:aC)(h:u0 l p≥0):∃n:Nat,u0 l p=(n:Int)∧n<l.length:=by unfold u0 at h⊢;cases hr:su l with|false=>rw[hr]at h;simp at h|true=>rw[hr]at h;simp only[ae]at h⊢;rcases AZ l p l.length with g|g;omega;exact g
theorem M9 (l:List dC)(p:aC)(h:l.length≤1000000000):pz l p=some (u0 l p):=by
 unfold pz u0;rw[Eb l h,ab];cases su l with|false=>rfl|true=>?_
 simp only[au,af,ae];refine cu (λi=>(qH l p i,(i:Int))) l.length (by omega) (λi nx hi=>?_) (λnx=>?_);simp only[lN];rw[aj (by omega),a4 hi,wrap64 (n:=(i:Int)+1) (by omega) (by omega)];simp only[ae,ab,Nc];exact DP l p i hi nx;simp only[lN];rw[ah (by omega)];rfl
theorem NX (l:List dC)(p:aC)(h:l.length≤1000000000):pU l p=some (u0 l p):=by
 have hfu:=fg;unfold pU u0;cases hr:su l with
 |false=>
  obtain⟨f,hf⟩:∃f,fuel=f+1:=⟨fuel-1,by omega⟩
  rw[hf,aW];simp only[jr,wz l h,hr,ab];cases decide ((0:Int)<(l.length:Int))<;>rfl
 |true=>simp only[ae];refine cu (λi=>(qH l p i,(i:Int))) l.length (by omega) (λi nx hi=>?_) (λnx=>?_);simp only[jr,wz l h,hr];rw[aj (by omega),a4 hi,wrap64 (n:=(i:Int)+1) (by omega) (by omega)];simp only[ae,ab,NZ];exact DP l p i hi nx;simp only[jr];rw[ah (by omega)];rfl
def kI (p:aC):Int×Int×Int×Int×Int:=(p.2.2.2.2.2.2.2.2.1,p.2.2.2.2.2.2.1,p.2.2.2.2.2.2.2.1,p.2.2.2.2.2.2.2.2.2.1,p.2.2.2.2.2.2.2.2.2.2.1)
theorem H7 (p:aC):qb p=some (kI p):=rfl
theorem I9 (p:aC):qo p=some (kI p):=rfl
def acM:Slot:=(0,(0,0,0,0,0),0)
def xD (s:dj)(q:Int)(p:aC):Int:=
 bif !nM s q|| !dy p then-1 else
 bif decide (u0 s.1 p≥0) then(bif (s.1.getD (u0 s.1 p).toNat Aa).2.2.2.2.2.2.2.1==1 then-1 else(s.1.getD (u0 s.1 p).toNat Aa).2.2.2.2.2.2.2.2) else
 bif decide (findF s.2.1 (kI p)≥0) then(s.2.1.getD (findF s.2.1 (kI p)).toNat acM).2.2 else yD s.2.2 q (kI p)
theorem Nj (s:dj)(q:Int)(p:aC)(h1:s.1.length≤1000000000)(h2:s.2.1.length≤1000000000)(h3:s.2.2.2.length≤1000000000):lT s q p=some (xD s q p):=by
 unfold lT xD;rw[ya s q h1 h2 h3,ab,lK,ab];cases nM s q with|false=>rfl|true=>?_
 cases dy p with|false=>rfl|true=>?_
 simp only[au,af,ab,cM,M9 s.1 p h1,H7,F2 s.2.1 _ h2,Ie s.2.2 q _ h3];cases hd:decide (u0 s.1 p≥0)with
 |true=>obtain⟨n,hn,hl⟩:=HM s.1 p (eD hd);simp only[ae,hn,a4 hl,ab,ax,bI hl];cases s.1[n].2.2.2.2.2.2.2.1==1<;>rfl
 |false=>
  simp only[af];cases hd2:decide (findF s.2.1 (kI p)≥0)with
  |true=>obtain⟨n,hn,hl⟩:=HL s.2.1 (kI p) (eD hd2);simp only[ae,hn,a4 hl,ab,ax,bI hl]
  |false=>rfl
theorem N5 (s:dj)(q:Int)(p:aC)(h1:s.1.length≤1000000000)(h2:s.2.1.length≤1000000000)(h3:s.2.2.2.length≤1000000000):mn s q p=some (xD s q p):=by
 unfold mn xD;rw[yA s q h1 h2 h3,ab,ma,ab];cases nM s q with|false=>rfl|true=>?_
 cases dy p with|false=>rfl|true=>?_
 simp only[au,af,ab,cM,NX s.1 p h1,I9,GC s.2.1 _,Jf s.2.2 q _ h3];cases hd:decide (u0 s.1 p≥0)with
 |true=>obtain⟨n,hn,hl⟩:=HM s.1 p (eD hd);simp only[ae,hn,a4 hl,ab,ax,bI hl];cases s.1[n].2.2.2.2.2.2.2.1==1<;>rfl
 |false=>
  simp only[af];cases hd2:decide (findF s.2.1 (kI p)≥0)with
  |true=>obtain⟨n,hn,hl⟩:=HL s.2.1 (kI p) (eD hd2);simp only[ae,hn,a4 hl,ab,ax,bI hl]
  |false=>rfl
def MO (a b:Int):Int:=(hG a b).getD 0
theorem AK (a b:Int):hG a b=some (MO a b):=by
 unfold MO;have:∃x,hG a b=some x:=by simp only[hG,cS,ab];cases dB a 0 65535<;>cases dB b 0 65535<;>cases decide (aw (a+b)>65535)<;>exact⟨_,rfl⟩
 obtain⟨x,hx⟩:=this;rw[hx];rfl
theorem H2 (a b:Int):qR a b=some (MO a b):=AK a b
theorem Rr {a b:Int}(h:0≤a∧a≤65535)(k:0≤b∧b≤65535):0≤MO a b∧MO a b≤65535:=by have e:=AK a b;simp only[hG,cS,ab,db.2 h,db.2 k,au,af]at e;rw[wrap64 (n:=a+b) (by omega) (by omega)]at e;by_cases hc:a+b>65535;rw[aj hc,ae,wrap64 (by omega) (by omega)]at e;rw[←cr e];omega;rw[ah hc,af]at e;rw[←cr e];omega
def sw (s:Bytes):Nat→Int
 |0=>0
 |j+1=>MO (sw s j) ((bO s (2*j)*256+bO s (2*j+1):Nat):Int)
theorem P0 (s:Bytes):∀j,0≤sw s j∧sw s j≤65535
 |0=>by simp[sw]
 |j+1=>by have b0:=di s (2*j);have b1:=di s (2*j+1);exact Rr (P0 s j) (by omega)
theorem Bh {s:Bytes}{i:Nat}(h:s.length≤i):bO s i=0:=by unfold bO;rw[List.getD_eq_getElem?_getD,List.getElem?_eq_none h];rfl
theorem Sp (s:Bytes)(h:s.length≤1000000000):p6 s=some (sw s ((s.length+1)/2)):=by
 unfold p6;refine cu (λj=>(sw s j,((2*j:Nat):Int))) ((s.length+1)/2) (by omega) (λj nx hj=>?_) (λnx=>?_);have b0:=di s (2*j);have b1:=di s (2*j+1);obtain⟨x,hx,ex⟩:=ka (s:=s) (i:=2*j) (by omega);simp only[mr];rw[aj (by omega),ae,hx,ab,ar (by omega),wrap64 (n:=((2*j:Nat):Int)+1) (by omega) (by omega),wrap64 (n:=((2*j:Nat):Int)+2) (by omega) (by omega),ex,ek (by omega)];have e8:min (Int.toNat 8) (IntKind.bits .i64)=8:=rfl;have en:((2*j:Nat):Int)+2=((2*(j+1):Nat):Int):=by omega
 rw[e8,wrap64 (n:=((bO s (2*j):Nat):Int)*2^8) (by omega) (by omega)];by_cases hc:2*j+1<s.length;obtain⟨y,hy,ey⟩:=ka (s:=s) (i:=2*j+1) hc;rw[aj (by omega),ae,show((2*j:Nat):Int)+1=((2*j+1:Nat):Int) by omega,hy,ab,ey,ek (n:=bO s (2*j+1)) (by omega),wrap64 (by omega) (by omega),AK,ab,en,show((bO s (2*j):Nat):Int)*2^8+((bO s (2*j+1):Nat):Int)=((bO s (2*j)*256+bO s (2*j+1):Nat):Int) by omega];rfl;have hz:=Bh (s:=s) (i:=2*j+1) (by omega);rw[ah (by omega),af,AK,ab,en,show((bO s (2*j):Nat):Int)*2^8=((bO s (2*j)*256+bO s (2*j+1):Nat):Int) by rw[hz];omega];rfl;simp only[mr];rw[ah (by omega)];rfl
theorem RV (s:Bytes)(h:s.length≤1000000000):pJ s=some (sw s ((s.length+1)/2)):=by
 unfold pJ;refine cu (λj=>(sw s j,((2*j:Nat):Int))) ((s.length+1)/2) (by omega) (λj nx hj=>?_) (λnx=>?_);have b0:=di s (2*j);have b1:=di s (2*j+1);obtain⟨x,hx,ex⟩:=ka (s:=s) (i:=2*j) (by omega);simp only[lV];rw[aj (by omega),ae,hx,ab,ar (by omega),wrap64 (n:=((2*j:Nat):Int)+1) (by omega) (by omega),wrap64 (n:=((2*j:Nat):Int)+2) (by omega) (by omega),ex,ek (by omega)];have e8:min (Int.toNat 8) (IntKind.bits .i64)=8:=rfl;have en:((2*j:Nat):Int)+2=((2*(j+1):Nat):Int):=by omega
 rw[e8,show((bO s (2*j):Nat):Int)*2^8=((2^8*bO s (2*j):Nat):Int) by omega,ek (n:=2^8*bO s (2*j)) (by omega)];by_cases hc:2*j+1<s.length;obtain⟨y,hy,ey⟩:=ka (s:=s) (i:=2*j+1) hc;rw[aj (by omega),ae,show((2*j:Nat):Int)+1=((2*j+1:Nat):Int) by omega,hy,ab,ey,ek (n:=bO s (2*j+1)) (by omega),xu (bO s (2*j)) 8 (bO s (2*j+1)) (by omega) (by omega),H2,ab,en,show 2^8*bO s (2*j)+bO s (2*j+1)=bO s (2*j)*256+bO s (2*j+1) by omega];rfl;have hz:=Bh (s:=s) (i:=2*j+1) (by omega);rw[ah (by omega),af,H2,ab,en,show((2^8*bO s (2*j):Nat):Int)=((bO s (2*j)*256+bO s (2*j+1):Nat):Int) by rw[hz];omega];rfl;simp only[lV];rw[ah (by omega)];rfl
def JT (s:Bytes):Int:=65535-sw s ((s.length+1)/2)
theorem Gy (s:Bytes)(h:s.length≤1000000000):kF s=some (JT s):=by have:=P0 s ((s.length+1)/2);simp only[kF,Sp s h,ab];rw[wrap64 (by omega) (by omega)];rfl
theorem L8 (s:Bytes)(h:s.length≤1000000000):mK s=some (JT s):=by have:=P0 s ((s.length+1)/2);simp only[mK,RV s h,ab];rw[wrap64 (by omega) (by omega)];rfl
def Ao (s:Bytes)(a:Int)(p:Bytes):Bytes:=bif dx s a (p.length:Int) then(s.take a.toNat++p)++s.drop (a.toNat+p.length) else s
theorem IT (s:Bytes)(a:Int)(p:Bytes):(Ao s a p).length=s.length:=by unfold Ao;cases hw:dx s a (p.length:Int)with|false=>rfl|true=>simp only[dx,aX]at hw;simp only[ae,ak,bt,bJ];omega
theorem IV (s:Bytes)(a:Int)(p:Bytes)(h:s.length≤1000000000)(hw:dx s a (p.length:Int)=true): (aa (sub s 0 a) λx2=>room (List.length x2+List.length p) (aa (sub s (aw (a+((List.length p:Int)))) ((List.length s:Int))) λx3=>room (List.length (x2++p)+List.length x3) (some ((x2++p)++x3))))=some (Ao s a p):=by
 have hw':=hw;simp only[dx,aX]at hw';obtain⟨n,rfl⟩:=aY hw'.1;have e1:sub s 0 (n:Int)=some (s.take n):=by unfold sub;rw[az (by omega)];rfl
 have e2:sub s (((n+p.length:Nat):Int)) (s.length:Int)=some (s.drop (n+p.length)):=by unfold sub;rw[az (by omega),ax,ax,bG]
 rw[e1,wrap64 (by omega) (by omega),show(n:Int)+(p.length:Int)=((n+p.length:Nat):Int) by omega,e2,ab,aM (by simp only[bt];omega),ab,aM (by simp only[ak,bt,bJ];omega)];unfold Ao;rw[hw];rfl
theorem GH (s:Bytes)(a:Int)(p:Bytes)(h:s.length≤1000000000):gk s a p=some (Ao s a p):=by unfold gk;rw[vJ s a _ h (by omega),ab];cases hw:dx s a (p.length:Int)with|false=>simp only[bp,ae,Ao,hw,af]|true=>exact IV s a p h hw
theorem F6 (s:Bytes)(a:Int)(p:Bytes)(h:s.length≤1000000000)(hp:p.length≤1000000000):kz s a p=some (Ao s a p):=by
 unfold kz;rw[wrap64 (n:=(s.length:Int)-(p.length:Int)) (by omega) (by omega)];cases hw:dx s a (p.length:Int)with
 |true=>have hw':=hw;simp only[dx,aX]at hw';rw[ah (show¬a<0 by omega),ah (show¬a>(s.length:Int)-(p.length:Int) by omega)];exact IV s a p h hw
 |false=>
  have hp:Ao s a p=s:=by unfold Ao;rw[hw];rfl
  rw[hp];simp only[dx,cE]at hw;by_cases h0:a<0;rw[aj h0];rfl;rw[ah h0,aj (show a>(s.length:Int)-(p.length:Int) by omega)];rfl
def W5 (x y:Int):Bytes:=bytesOf [x,y]
theorem E0 (x y:Int):(W5 x y).length=2:=rfl
def uC (a b k n:Int):Bool:=dB a 0 4294967295&&(dB b 0 4294967295&&(dB k 0 255&&dB n 0 65535))
def so (a b k n:Int):Bytes:=((gQ a++gQ b)++W5 0 (eP k))++df n
theorem Es (a b k n:Int):(so a b k n).length≤12:=by have:=dw a;have:=dw b;have:=bn n;simp only[so,ak,E0];omega
theorem xz (a b k n:Int):hY a b k n=some (bif uC a b k n then(so a b k n,true) else([],false)):=by
 have:=dw a;have:=dw b;have:=bn n;unfold hY uC;simp only[cS,ab,nD,jR];cases dB a 0 4294967295 with|false=>rfl|true=>?_
 cases dB b 0 4294967295 with|false=>rfl|true=>?_
 cases dB k 0 255 with|false=>rfl|true=>?_
 cases dB n 0 65535 with|false=>rfl|true=>?_
 simp only[au,af,bZ,ae,ab];have e:(bytesOf [0,eP k]).length=2:=rfl;rw[aM (by omega),aM (by simp only[ak,e];omega),aM (by simp only[ak,e];omega)];rfl
theorem Kh (a b k n:Int):oa a b k n=some (bif uC a b k n then(so a b k n,true) else([],false)):=xz a b k n
def bare (g:cJ):Bytes:=bif g.1==6 then
    (((((df g.2.1++df g.2.2.1)++gQ g.2.2.2.1)++gQ g.2.2.2.2.1)++W5 80 (eP g.2.2.2.2.2.1))++df g.2.2.2.2.2.2.1)++gQ 0++g.2.2.2.2.2.2.2
 else(((df g.2.1++df g.2.2.1)++df (8+(g.2.2.2.2.2.2.2.length:Int)))++df 0)++g.2.2.2.2.2.2.2
theorem EY (g:cJ):(bare g).length≤20+g.2.2.2.2.2.2.2.length:=by have:=bn g.2.1;have:=bn g.2.2.1;have:=dw g.2.2.2.1;have:=dw g.2.2.2.2.1;have:=bn g.2.2.2.2.2.2.1;have:=dw 0;have:=bn 0;have:=bn (8+(g.2.2.2.2.2.2.2.length:Int));unfold bare;cases g.1==6<;>simp only[ae,af,ak,E0]<;>omega
theorem Oe:df 0++df 0=gQ 0:=by rfl
theorem O3 (g:cJ)(h:g.2.2.2.2.2.2.2.length≤1000000):lX g=some (bare g):=by have:=bn g.2.1;have:=bn g.2.2.1;have:=dw g.2.2.2.1;have:=dw g.2.2.2.2.1;have:=bn g.2.2.2.2.2.2.1;have:=bn 0;have:=bn (8+(g.2.2.2.2.2.2.2.length:Int));have e:∀x,(bytesOf [80,eP x]).length=2:=λ_=>rfl;unfold lX bare;rw[wrap64 (n:=8+(g.2.2.2.2.2.2.2.length:Int)) (by omega) (by omega)];simp only[pb,xo,ab];rw[aM (by omega)];cases g.1==6 with|true=>simp only[ae];rw[aM (by simp only[ak,e];omega),aM (by simp only[ak,e];omega),aM (by simp only[ak,e];omega),aM (by simp only[ak,e];omega),aM (by simp only[ak,e];omega),aM (by simp only[ak,e];omega),aM (by simp only[ak,e];omega)];rw[←Oe];simp only[W5,aD]|false=>simp only[af];rw[aM (by simp only[ak];omega),aM (by simp only[ak];omega),aM (by simp only[ak];omega)]
def MD (a b:Int)(g:cJ):Int:=bif (JT (so a b g.1 ((bare g).length:Int)++bare g)==0)&&(g.1==17) then 65535 else JT (so a b g.1 ((bare g).length:Int)++bare g)
def Mr (a b:Int)(g:cJ):Bytes:=Ao (bare g) (bif g.1==6 then 16 else 6) (df (MD a b g))
def CL (a b:Int)(g:cJ):Bool:=xy g&&uC a b g.1 ((bare g).length:Int)
def tA (a b:Int)(g:cJ):Bytes×Bool:=bif CL a b g then(Mr a b g,true) else([],false)
theorem yu {g:cJ}(h:xy g=true):g.2.2.2.2.2.2.2.length≤320:=by simp only[xy,ai,aI,cE]at h;omega
theorem vH (a b:Int)(g:cJ):fJ a b g=some (tA a b g):=by
 unfold fJ tA CL;rw[My,ab];cases hg:xy g with|false=>rfl|true=>?_
 have hb:=yu hg;have hl:=EY g;have hp:=Es a b g.1 ((bare g).length:Int);have:=bn g.2.1;have:=bn g.2.2.1;have:=dw g.2.2.2.1;have:=dw g.2.2.2.2.1;have:=bn g.2.2.2.2.2.2.1;have:=dw 0;have:=bn 0;have:=bn (8+(g.2.2.2.2.2.2.2.length:Int));have e:∀x,(bytesOf [80,eP x]).length=2:=λ_=>rfl;rw[wrap64 (n:=8+(g.2.2.2.2.2.2.2.length:Int)) (by omega) (by omega)];simp only[jR,nD,ab,au,af,bm];rw[aM (by omega)];cases h6:g.1==6 with
 |true=>
  have hbare:bare g=(((((df g.2.1++df g.2.2.1)++gQ g.2.2.2.1)++gQ g.2.2.2.2.1)++bytesOf [80,eP g.2.2.2.2.2.1])++df g.2.2.2.2.2.2.1)++gQ 0++g.2.2.2.2.2.2.2:=by unfold bare;rw[h6];rfl
  simp only[ae];rw[aM (by simp only[ak,e];omega),aM (by simp only[ak,e];omega),aM (by simp only[ak,e];omega),aM (by simp only[ak,e];omega),aM (by simp only[ak,e];omega),aM (by simp only[ak,e];omega),←hbare,xz,ab];cases uC a b g.1 ((bare g).length:Int)with|false=>rfl|true=>?_
  simp only[ae,au,af];rw[aM (by omega),Gy _ (by simp only[ak];omega)];simp only[ab,bk,GH _ _ _ (show(bare g).length≤1000000000 by omega),Mr,MD,h6,ae,cF];cases (JT (so a b g.1 ((bare g).length:Int)++bare g)==0)&&(g.1==17)<;>rfl
 |false=>
  have hbare:bare g=(((df g.2.1++df g.2.2.1)++df (8+(g.2.2.2.2.2.2.2.length:Int)))++df 0)++g.2.2.2.2.2.2.2:=by unfold bare;rw[h6];rfl
  simp only[af];rw[aM (by simp only[ak];omega),aM (by simp only[ak];omega),aM (by simp only[ak];omega),←hbare,xz,ab];cases uC a b g.1 ((bare g).length:Int)with|false=>rfl|true=>?_
  simp only[ae,au,af];rw[aM (by omega),Gy _ (by simp only[ak];omega)];simp only[ab,bk,GH _ _ _ (show(bare g).length≤1000000000 by omega),Mr,MD,h6,af,cF];cases (JT (so a b g.1 ((bare g).length:Int)++bare g)==0)&&(g.1==17)<;>rfl
theorem vu (a b:Int)(g:cJ):fH a b g=some (tA a b g):=by
 unfold fH tA CL;rw[Mb,ab];cases hg:xy g with|false=>rfl|true=>?_
 have hb:=yu hg;have hl:=EY g;have hp:=Es a b g.1 ((bare g).length:Int);have hsp:mP g.1=some (bif g.1==6 then 16 else 6):=by unfold mP;rw[bk]
 have w1:=bn 65535;have w2:=bn (JT (so a b g.1 ((bare g).length:Int)++bare g));simp only[O3 g (by omega),Kh,ab,au,af,bm];cases uC a b g.1 ((bare g).length:Int)with|false=>rfl|true=>?_
 simp only[ae,au,af];rw[aM (by omega),L8 _ (by simp only[ak];omega)];simp only[ab,bk,hsp,pb,F6 _ _ _ (show(bare g).length≤1000000000 by omega) (show(df 65535).length≤1000000000 by omega),F6 _ _ _ (show(bare g).length≤1000000000 by omega) (show(df (JT (so a b g.1 ((bare g).length:Int)++bare g))).length≤1000000000 by omega),Mr,MD,cF];rw[Bool.and_comm];cases (JT (so a b g.1 ((bare g).length:Int)++bare g)==0)&&(g.1==17)<;>rfl
theorem Sk (a b:Int)(g:cJ):(tA a b g).1.length≤340:=by unfold tA;cases h:CL a b g with|false=>exact dr _|true=>simp only[CL,ai]at h;have:=yu h.1;have:=EY g;show(Ao _ _ _).length≤340;rw[IT];omega
def Kq (d:Ip):Bool:=dB d.1 0 255&&(dB d.2.2.1 0 255&&(dB d.2.2.2.1 0 255&&(dB d.2.1 0 65535&&(dB d.2.2.2.2.1 0 4294967295&&(dB d.2.2.2.2.2.1 0 4294967295&&decide ((d.2.2.2.2.2.2.length:Int)≤380))))))
theorem Ja (d:Ip):wA d=some (Kq d):=by simp only[wA,cS,ab,bk,cF,Kq]
theorem O9 (d:Ip):ze d=some (Kq d):=Ja d
def Ck (d:Ip):Bytes:=((((((W5 69 (eP d.1)++df (20+(d.2.2.2.2.2.2.length:Int)))++df d.2.1)++df 16384)++W5 (eP d.2.2.1) (eP d.2.2.2.1))++df 0)++gQ d.2.2.2.2.1)++gQ d.2.2.2.2.2.1
theorem Cl (d:Ip):(Ck d).length≤20:=by have:=bn (20+(d.2.2.2.2.2.2.length:Int));have:=bn d.2.1;have:=bn 16384;have:=bn 0;have:=dw d.2.2.2.2.1;have:=dw d.2.2.2.2.2.1;simp only[Ck,ak,E0];omega
def Cj (d:Ip):Bytes:=Ao (Ck d) 10 (df (JT (Ck d)))
theorem K3 (d:Ip):pY d=some (bif Kq d then(Cj d,true) else([],false)):=by
 unfold pY;rw[Ja,ab];cases hd:Kq d with|false=>rfl|true=>?_
 have hn:(d.2.2.2.2.2.2.length:Int)≤380:=by simp only[Kq,ai,aX]at hd;omega
 have:=bn (20+(d.2.2.2.2.2.2.length:Int));have:=bn d.2.1;have:=bn 16384;have:=bn 0;have:=dw d.2.2.2.2.1;have:=dw d.2.2.2.2.2.1;have hl:=Cl d;have e:∀x y,(bytesOf [x,y]).length=2:=λ_ _=>rfl;rw[wrap64 (n:=20+(d.2.2.2.2.2.2.length:Int)) (by omega) (by omega)];simp only[jR,nD,ab,au,af,ae];rw[aM (by simp only[ak,e];omega),aM (by simp only[ak,e];omega),aM (by simp only[ak,e];omega),aM (by simp only[ak,e];omega),aM (by simp only[ak,e];omega),aM (by simp only[ak,e];omega),aM (by simp only[ak,e];omega)];have hp:((((((bytesOf [69,eP d.1]++df (20+(d.2.2.2.2.2.2.length:Int)))++df d.2.1)++df 16384)++bytesOf [eP d.2.2.1,eP d.2.2.2.1])++df 0)++gQ d.2.2.2.2.1)++gQ d.2.2.2.2.2.1=Ck d:=rfl;rw[hp,Gy _ (by omega),ab,GH _ _ _ (by omega)];rfl
theorem Kf (d:Ip):pD d=some (bif Kq d then(Cj d,true) else([],false)):=by
 unfold pD;rw[O9,ab];cases hd:Kq d with|false=>rfl|true=>?_
 have hn:(d.2.2.2.2.2.2.length:Int)≤380:=by simp only[Kq,ai,aX]at hd;omega
 have:=bn (20+(d.2.2.2.2.2.2.length:Int));have:=bn d.2.1;have:=bn 16384;have:=bn 0;have:=dw d.2.2.2.2.1;have:=dw d.2.2.2.2.2.1;have hl:=Cl d;have hw:=bn (JT (Ck d));have e:∀x y,(bytesOf [x,y]).length=2:=λ_ _=>rfl;rw[wrap64 (n:=20+(d.2.2.2.2.2.2.length:Int)) (by omega) (by omega)];simp only[pb,xo,ab,au,af,ae];rw[aM (by simp only[ak,e];omega),aM (by simp only[ak,e];omega),aM (by simp only[ak,e];omega),aM (by simp only[ak,e];omega),aM (by simp only[ak,e];omega),aM (by simp only[ak,e];omega),aM (by simp only[ak,e];omega)];have hp:((((((bytesOf [69,eP d.1]++df (20+(d.2.2.2.2.2.2.length:Int)))++df d.2.1)++df 16384)++bytesOf [eP d.2.2.1,eP d.2.2.2.1])++df 0)++gQ d.2.2.2.2.1)++gQ d.2.2.2.2.2.1=Ck d:=rfl;rw[hp,L8 _ (by omega),ab,F6 _ _ _ (by omega) (by omega)];rfl
def Jz (d:Ip):Bytes×Bool:=bif Kq d then(Cj d++d.2.2.2.2.2.2,true) else([],false)
theorem zg (d:Ip):(Cj d).length≤20:=by unfold Cj;rw[IT];exact Cl d
theorem PV (d:Ip):oL d=some (Jz d):=by
 unfold oL Jz;rw[K3,ab];cases hd:Kq d with|false=>rfl|true=>?_
 have hn:(d.2.2.2.2.2.2.length:Int)≤380:=by simp only[Kq,ai,aX]at hd;omega
 have:=zg d;simp only[ae,au,af];rw[aM (by omega)]
theorem O8 (d:Ip):nY d=some (Jz d):=by
 unfold nY Jz;rw[Kf,ab];cases hd:Kq d with|false=>rfl|true=>?_
 have hn:(d.2.2.2.2.2.2.length:Int)≤380:=by simp only[Kq,ai,aX]at hd;omega
 have:=zg d;simp only[ae,au,af];rw[aM (by omega)]
def Jw (n:Nat):Bytes:=bytesOf (List.replicate n (0:Int))
theorem zJ (n:Nat):(Jw n).length=n:=by simp[Jw,bytesOf]
theorem PW (n:Nat)(h:n≤1000000000):rl (n:Int) 0=some (Jw n):=by unfold rl;rw[az (by omega),aM (by rw[ax];omega),ax];refine cu (λi=>(List.replicate n (0:Int),(i:Int))) n (by omega) (λi nx hi=>?_) (λnx=>?_);simp only[nt];rw[aj (by omega),a4 (by simpa using hi),wrap64 (by omega) (by omega)];simp only[ae,ab,ax,List.set_replicate_self];rfl;simp only[nt];rw[ah (by omega)];rfl
theorem RU (n:Nat)(h:n≤1000000000):sL 0 (n:Int)=some (Jw n):=by unfold sL;rw[az (by omega),aM (by rw[ax];omega),ax];refine cu (λi=>(List.replicate n (0:Int),(i:Int))) n (by omega) (λi nx hi=>?_) (λnx=>?_);simp only[oh];rw[aj (by simp;omega),a4 (by simpa using hi),wrap64 (by omega) (by omega)];simp only[ae,ab,ax,List.set_replicate_self];rfl;simp only[oh];rw[ah (by simp)];rfl
def pad (s:Bytes):Bytes:=if s.length<46 then s++Jw (46-s.length) else s
theorem Mm (s:Bytes):(pad s).length=max 46 s.length:=by unfold pad;split;simp only[ak,zJ];omega;omega
theorem So (s:Bytes)(h:s.length≤1000000000):rj s=some (pad s):=by unfold rj pad;by_cases hc:s.length<46;rw[aj (by omega),az hc,wrap64 (by omega) (by omega),show(46:Int)-(s.length:Int)=((46-s.length:Nat):Int) by omega,PW _ (by omega)];simp only[ae,ab];rw[aM (by rw[zJ];omega)];rw[ah (by omega),ar hc];rfl
theorem RS (s:Bytes)(h:s.length≤1000000000):qU s=some (pad s):=by unfold qU pad;by_cases hc:s.length<46;rw[ah (by omega),az hc,wrap64 (by omega) (by omega),show(46:Int)-(s.length:Int)=((46-s.length:Nat):Int) by omega,RU _ (by omega)];simp only[af,ab];rw[aM (by rw[zJ];omega)];rw[aj (by omega),ar hc];rfl
def tn (e:Dc):Bool:=dB e.1 0 281474976710655&&(dB e.2.1 0 281474976710655&&(dB e.2.2.1 (-1) 4095&&(dB e.2.2.2.1 1536 65535&&((e.2.2.2.1 !=33024)&&dB (e.2.2.2.2.length:Int) 46 400))))
theorem zE (e:Dc):ph e=some (tn e):=by simp only[ph,cS,ab,bk,cF,tn]
theorem D7 (e:Dc):rO e=some (tn e):=zE e
def SR (a:Int):Bytes:=(fQ a).getD []
theorem ta (a:Int):fQ a=some (SR a)∧(SR a).length≤6:=by
 have h:∃x,fQ a=some x∧x.length≤6:=by unfold fQ;rw[ar (by omega)];simp only[jR,nD,ab];have h1:=bn (Int.fdiv a (2^(min (Int.toNat 32) (IntKind.bits .i64))));have h2:=dw (aw (BitVec.toNat (BitVec.ofInt (IntKind.bits .i64) a&&&BitVec.ofInt (IntKind.bits .i64) 4294967295)));rw[aM (by omega)];exact⟨_,rfl,by simp only[ak];omega⟩
 obtain⟨x,hx,hl⟩:=h;unfold SR;rw[hx];exact⟨rfl,hl⟩
theorem RQ (a:Int):pK a=some (SR a):=(ta a).1
def HH (e:Dc):Bytes:=(bif decide (e.2.2.1≥0) then(((SR e.1++SR e.2.1)++df 33024)++df e.2.2.1) else SR e.1++SR e.2.1)++df e.2.2.2.1++e.2.2.2.2
theorem OU (e:Dc):(HH e).length≤18+e.2.2.2.2.length:=by have:=(ta e.1).2;have:=(ta e.2.1).2;have:=bn 33024;have:=bn e.2.2.1;have:=bn e.2.2.2.1;unfold HH;cases decide (e.2.2.1≥0)<;>simp only[ae,af,ak]<;>omega
def J2 (e:Dc):Bytes×Bool:=bif tn e then(HH e,true) else([],false)
theorem Sm (e:Dc):pQ e=some (J2 e):=by
 unfold pQ J2;rw[zE,ab];cases he:tn e with|false=>rfl|true=>?_
 have hn:(e.2.2.2.2.length:Int)≤400:=by simp only[tn,ai,db]at he;omega
 have:=(ta e.1).2;have:=(ta e.2.1).2;have:=bn 33024;have:=bn e.2.2.1;have:=bn e.2.2.2.1;simp only[(ta _).1,jR,ab,au,af,ae,HH];rw[aM (by omega)];cases decide (e.2.2.1≥0)with|true=>simp only[ae];rw[aM (by simp only[ak];omega),aM (by simp only[ak];omega),aM (by simp only[ak];omega),aM (by simp only[ak];omega)]|false=>simp only[af];rw[aM (by simp only[ak];omega),aM (by simp only[ak];omega)]
theorem RP (e:Dc):pt e=some (J2 e):=by
 unfold pt J2;rw[D7,ab];cases he:tn e with|false=>rfl|true=>?_
 have hn:(e.2.2.2.2.length:Int)≤400:=by simp only[tn,ai,db]at he;omega
 have:=(ta e.1).2;have:=(ta e.2.1).2;have:=bn 33024;have:=bn e.2.2.1;have:=bn e.2.2.2.1;simp only[RQ,pb,ab,au,af,ae,HH];rw[aM (by omega)];cases decide (e.2.2.1≥0)with|true=>simp only[ae];rw[aM (by omega),aM (by simp only[ak];omega),aM (by simp only[ak];omega),aM (by simp only[ak];omega)];simp only[aD]|false=>simp only[af];rw[aM (by simp only[ak];omega),aM (by simp only[ak];omega)]
def Sj (p:aC):Bytes×Bool:=tA p.2.2.2.2.2.2.1 p.2.2.2.2.2.2.2.1 p.2.2.2.2.2.2.2.2
def Ro (p:aC):Bytes×Bool:=Jz (p.2.2.2.1,p.2.2.2.2.1,p.2.2.2.2.2.1,p.2.2.2.2.2.2.2.2.1,p.2.2.2.2.2.2.1,p.2.2.2.2.2.2.2.1,(Sj p).1)
def Uf (p:aC):Bytes×Bool:=J2 (p.1,p.2.1,p.2.2.1,2048,pad (Ro p).1)
def nB (p:aC):Bytes×Bool:=bif dy p then Uf p else([],false)
theorem F7 (p:aC):(Ro p).1.length≤360:=by have h1:=Sk p.2.2.2.2.2.2.1 p.2.2.2.2.2.2.2.1 p.2.2.2.2.2.2.2.2;unfold Ro Jz;cases Kq (p.2.2.2.1,p.2.2.2.2.1,p.2.2.2.2.2.1,p.2.2.2.2.2.2.2.2.1,p.2.2.2.2.2.2.1,p.2.2.2.2.2.2.2.1,(Sj p).1)with|false=>exact dr _|true=>have h2:=zg (p.2.2.2.1,p.2.2.2.2.1,p.2.2.2.2.2.1,p.2.2.2.2.2.2.2.2.1,p.2.2.2.2.2.2.1,p.2.2.2.2.2.2.2.1,(Sj p).1);have h3:(Sj p).1.length≤340:=h1;simp only[ae,ak];omega
theorem EB (p:aC):km p=some (nB p):=by have hl:=F7 p;unfold km nB;simp only[ma,vH,PV,ab];rw[show(Jz (p.2.2.2.1,p.2.2.2.2.1,p.2.2.2.2.2.1,p.2.2.2.2.2.2.2.2.1,p.2.2.2.2.2.2.1,p.2.2.2.2.2.2.2.1,(tA p.2.2.2.2.2.2.1 p.2.2.2.2.2.2.2.1 p.2.2.2.2.2.2.2.2).1))=Ro p from rfl,So _ (by omega),ab,Sm];cases dy p<;>rfl
theorem Ea (p:aC):kc p=some (nB p):=by have hl:=F7 p;unfold kc nB;simp only[lK,vu,O8,ab];rw[show(Jz (p.2.2.2.1,p.2.2.2.2.1,p.2.2.2.2.2.1,p.2.2.2.2.2.2.2.2.1,p.2.2.2.2.2.2.1,p.2.2.2.2.2.2.2.1,(tA p.2.2.2.2.2.2.1 p.2.2.2.2.2.2.2.1 p.2.2.2.2.2.2.2.2).1))=Ro p from rfl,RS _ (by omega),ab,RP];cases dy p<;>rfl
theorem M6 {p:aC}(h:dy p=true):(nB p).2=true:=by
 have hl:=F7 p;have hh:u1 p=true:=by simp only[dy,ai]at h;exact h.1
 have hp:=Mm (Ro p).1;unfold nB Uf J2;rw[h,ae];have:tn (p.1,p.2.1,p.2.2.1,2048,pad (Ro p).1)=true:=by simp only[u1,ai]at hh;simp only[tn,ai];refine⟨hh.1,hh.2.1,hh.2.2.1,by decide,by decide,db.2 ?_⟩;omega
 rw[this];rfl
theorem yZ (p:aC):(nB p).1.length≤378:=by have hl:=F7 p;have hp:=Mm (Ro p).1;unfold nB Uf J2;cases dy p with|false=>exact dr _|true=>cases tn (p.1,p.2.1,p.2.2.1,2048,pad (Ro p).1)with|false=>exact dr _|true=>have:=OU (p.1,p.2.1,p.2.2.1,2048,pad (Ro p).1);simp only[ae]at this⊢;omega
def fcs (c:Int):Bytes:=bytesOf [eP c,eP (Int.fdiv c (2^(min (Int.toNat 8) (IntKind.bits .i64)))),eP (Int.fdiv c (2^(min (Int.toNat 16) (IntKind.bits .i64)))),eP (Int.fdiv c (2^(min (Int.toNat 24) (IntKind.bits .i64))))]
def ru (s:Bytes):Bytes:=s++fcs (OE s)
theorem RK (c:Int):(fcs c).length=4:=rfl
theorem Mx (s:Bytes)(h:s.length≤1000000000):oU s=some (ru s):=by unfold oU;rw[Sl s h,ab,ar (by omega),ar (by omega),ar (by omega)];exact aM (by show s.length+4≤_;omega)
theorem Ma (s:Bytes)(h:s.length≤1000000000):od s=some (ru s):=by unfold od;rw[RO s h,ab,ar (by omega),ar (by omega),ar (by omega)];exact aM (by show s.length+4≤_;omega)
def dN (p:aC):Bool:=dy p&&decide ((p.2.2.2.2.2.2.2.2.2.2.2.2.2.2.2.length:Int)≤128)
theorem uJ (p:aC):im p=some (dN p):=by simp only[im,ma,ab,bk,cF,dN]
theorem ug (p:aC):ig p=some (dN p):=by simp only[ig,lK,ab,bk,cF,dN]
def nV (p:aC):Bytes×Bool:=bif dN p then(ru (nB p).1,true) else([],false)
theorem Ez (p:aC):kl p=some (nV p):=by have hl:=yZ p;simp only[kl,uJ,EB,Mx _ (show(nB p).1.length≤1000000000 by omega),ab,nV];cases dN p<;>rfl
theorem D8 (p:aC):kb p=some (nV p):=by
 have hl:=yZ p;simp only[kb,ug,Ea,Ma _ (show(nB p).1.length≤1000000000 by omega),ab,nV];cases hp:dN p with
 |false=>rfl
 |true=>
  have:dy p=true:=by simp only[dN,ai]at hp;exact hp.1
  rw[M6 this];rfl
theorem wc (p:aC):(nV p).1.length≤382:=by have hl:=yZ p;unfold nV;cases dN p with|false=>exact dr _|true=>simp only[ae,ru,ak,RK];omega
def CA (p:aC)(z:Int)(k:Nat):aC:=
 (p.1,p.2.1,p.2.2.1,p.2.2.2.1,Int.tmod (aw (p.2.2.2.2.1+(k:Int))) 65536,p.2.2.2.2.2.1,p.2.2.2.2.2.2.1,p.2.2.2.2.2.2.2.1,p.2.2.2.2.2.2.2.2.1,p.2.2.2.2.2.2.2.2.2.1,p.2.2.2.2.2.2.2.2.2.2.1,
   Int.tmod (aw (p.2.2.2.2.2.2.2.2.2.2.2.1+((k:Int)*z))) 4294967296,p.2.2.2.2.2.2.2.2.2.2.2.2.1,
   (bif decide (((k:Int)+1)*z<(p.2.2.2.2.2.2.2.2.2.2.2.2.2.2.2.length:Int)) then aw (BitVec.toNat (BitVec.ofInt (IntKind.bits .i64) p.2.2.2.2.2.2.2.2.2.2.2.2.2.1&&&~~~ BitVec.ofInt (IntKind.bits .i64) 9)) else p.2.2.2.2.2.2.2.2.2.2.2.2.2.1),
   p.2.2.2.2.2.2.2.2.2.2.2.2.2.2.1,(p.2.2.2.2.2.2.2.2.2.2.2.2.2.2.2.take (min ((k+1)*z.toNat) p.2.2.2.2.2.2.2.2.2.2.2.2.2.2.2.length)).drop (k*z.toNat))
def fI (n z:Nat):Nat:=(n+z-1)/z
def tB (p:aC)(z:Int):List aC:=bif dy p&&dB z 1 128 then
    (bif (p.2.2.2.2.2.2.2.2.1 !=6)||decide ((p.2.2.2.2.2.2.2.2.2.2.2.2.2.2.2.length:Int)≤z) then [p] else(List.range (fI p.2.2.2.2.2.2.2.2.2.2.2.2.2.2.2.length z.toNat)).map (CA p z)) else []
theorem zv {n z k:Nat}(hz:0<z):k<fI n z↔k*z<n:=by unfold fI;rw[Nat.lt_div_iff_mul_lt hz];omega
theorem uP {p:aC}(h:dy p=true):p.2.2.2.2.2.2.2.2.2.2.2.2.2.2.2.length≤320:=by
 have hh:u1 p=true:=by simp only[dy,ai]at h;exact h.1
 exact yu (Cb hh)
theorem EE {b:Bytes}{k z:Nat}(hk:k*z<b.length)(hb:b.length≤320):sub b ((k*z:Nat):Int) ((min ((k+1)*z) b.length:Nat):Int)=some ((b.take (min ((k+1)*z) b.length)).drop (k*z)):=by have:k*z≤(k+1)*z:=bf _ (by omega);unfold sub;rw[az (by omega),ax,ax]
theorem N4 (p:aC)(z:Int):uM p z=some (tB p z):=by
 unfold uM tB;simp only[ma,cS,ab];cases hs:dy p with|false=>rfl|true=>?_
 cases hz:dB z 1 128 with|false=>rfl|true=>?_
 have hz':=db.1 hz;have hb:=uP hs;simp only[au,af,bZ,ae,ab,bk,cT];cases hq:(p.2.2.2.2.2.2.2.2.1 !=6)||decide ((p.2.2.2.2.2.2.2.2.2.2.2.2.2.2.2.length:Int)≤z)with
 |true=>simp only[ae,room,dh,bz,a9];rfl
 |false=>
  simp only[af];obtain⟨m,rfl⟩:=aY (show 0≤z by omega);have hN:∀k,k<fI p.2.2.2.2.2.2.2.2.2.2.2.2.2.2.2.length m↔k*m<p.2.2.2.2.2.2.2.2.2.2.2.2.2.2.2.length:=λk=>zv (by omega);have hcap:fI p.2.2.2.2.2.2.2.2.2.2.2.2.2.2.2.length m≤320:=by rcases bc 320 (fI p.2.2.2.2.2.2.2.2.2.2.2.2.2.2.2.length m)with h|h;have:=(hN 320).1 h;have:320*1≤320*m:=Nat.mul_le_mul_left _ (by omega);omega;exact h
  refine cu (λk=>((List.range k).map (CA p (m:Int)),(k:Int))) (fI p.2.2.2.2.2.2.2.2.2.2.2.2.2.2.2.length m) (by omega) (λk nx hk=>?_) (λnx=>?_);have hkm:=(hN k).1 hk;have hk1:(k+1)*m=k*m+m:=by rw[bl,cD]
  have e1:(k:Int)*(m:Int)=((k*m:Nat):Int):=by push_cast;rfl
  have e2:((k:Int)+1)*(m:Int)=(((k+1)*m:Nat):Int):=by push_cast;rfl
  simp only[p5];rw[wrap64 (n:=(k:Int)+1) (by omega) (by omega),e1,e2,ek (n:=k*m) (by omega),ek (n:=(k+1)*m) (by omega),aj (by omega),ae];have e3:(if(((k+1)*m:Nat):Int)<(p.2.2.2.2.2.2.2.2.2.2.2.2.2.2.2.length:Int) then(((k+1)*m:Nat):Int) else(p.2.2.2.2.2.2.2.2.2.2.2.2.2.2.2.length:Int))=((min ((k+1)*m) p.2.2.2.2.2.2.2.2.2.2.2.2.2.2.2.length:Nat):Int):=by split<;>omega
  rw[e3,EE hkm hb,ab,ar (by omega),ar (by omega)];rw[List.range_succ,List.map_append,List.map_singleton];simp only[CA,e1,e2,ax];cases decide ((((k+1)*m:Nat):Int)<(p.2.2.2.2.2.2.2.2.2.2.2.2.2.2.2.length:Int))with|true=>simp only[ae];rw[aM (by simp;omega)];rfl|false=>simp only[af];rw[aM (by simp;omega)];rfl
  have hkm:¬fI p.2.2.2.2.2.2.2.2.2.2.2.2.2.2.2.length m*m<p.2.2.2.2.2.2.2.2.2.2.2.2.2.2.2.length:=λh=>absurd ((hN _).2 h) (iK _);have hub:fI p.2.2.2.2.2.2.2.2.2.2.2.2.2.2.2.length m*m≤320*128:=Nat.mul_le_mul hcap (by omega);have e1:((fI p.2.2.2.2.2.2.2.2.2.2.2.2.2.2.2.length m:Nat):Int)*(m:Int)=((fI p.2.2.2.2.2.2.2.2.2.2.2.2.2.2.2.length m*m:Nat):Int):=by push_cast;rfl
  simp only[p5];rw[e1,ek (by omega),ah (by omega)];rfl
theorem Ni (p:aC)(z:Int):ui p z=some (tB p z):=by
 unfold ui tB;simp only[lK,dH,ab];cases hs:dy p with|false=>rfl|true=>?_
 cases hz:dB z 1 128 with|false=>rfl|true=>?_
 have hz':=db.1 hz;have hb:=uP hs;simp only[au,af,bZ,ae,ab,bk,cT];cases hq:(p.2.2.2.2.2.2.2.2.1 !=6)||decide ((p.2.2.2.2.2.2.2.2.2.2.2.2.2.2.2.length:Int)≤z)with
 |true=>rfl
 |false=>
  simp only[af];obtain⟨m,rfl⟩:=aY (show 0≤z by omega);have hN:∀k,k<fI p.2.2.2.2.2.2.2.2.2.2.2.2.2.2.2.length m↔k*m<p.2.2.2.2.2.2.2.2.2.2.2.2.2.2.2.length:=λk=>zv (by omega);have hcap:fI p.2.2.2.2.2.2.2.2.2.2.2.2.2.2.2.length m≤320:=by rcases bc 320 (fI p.2.2.2.2.2.2.2.2.2.2.2.2.2.2.2.length m)with h|h;have:=(hN 320).1 h;have:320*1≤320*m:=Nat.mul_le_mul_left _ (by omega);omega;exact h
  refine cu (λk=>((List.range k).map (CA p (m:Int)),(k:Int))) (fI p.2.2.2.2.2.2.2.2.2.2.2.2.2.2.2.length m) (by omega) (λk nx hk=>?_) (λnx=>?_);have hkm:=(hN k).1 hk;have hk1:(k+1)*m=k*m+m:=by rw[bl,cD]
  have e1:(k:Int)*(m:Int)=((k*m:Nat):Int):=by push_cast;rfl
  have e2:((k:Int)+1)*(m:Int)=(((k+1)*m:Nat):Int):=by push_cast;rfl
  have hsub:=EE hkm hb;simp only[pG];rw[wrap64 (n:=(k:Int)+1) (by omega) (by omega),e1,e2,ek (n:=k*m) (by omega),ek (n:=(k+1)*m) (by omega),aj (by omega),ae];rw[List.range_succ,List.map_append,List.map_singleton];simp only[CA,e1,e2,ax];by_cases hc:(((k+1)*m:Nat):Int)<(p.2.2.2.2.2.2.2.2.2.2.2.2.2.2.2.length:Int);rw[aj hc];rw[show min ((k+1)*m) p.2.2.2.2.2.2.2.2.2.2.2.2.2.2.2.length=(k+1)*m by omega]at hsub⊢;simp only[ae];rw[hsub,ab,ar (by omega),ar (by omega),aM (by simp;omega)];rfl;rw[ah hc];rw[show min ((k+1)*m) p.2.2.2.2.2.2.2.2.2.2.2.2.2.2.2.length=p.2.2.2.2.2.2.2.2.2.2.2.2.2.2.2.length by omega]at hsub⊢;simp only[af];rw[hsub,ab,ar (by omega),ar (by omega),aM (by simp;omega)];rfl;have hkm:¬fI p.2.2.2.2.2.2.2.2.2.2.2.2.2.2.2.length m*m<p.2.2.2.2.2.2.2.2.2.2.2.2.2.2.2.length:=λh=>absurd ((hN _).2 h) (iK _);have hub:fI p.2.2.2.2.2.2.2.2.2.2.2.2.2.2.2.length m*m≤320*128:=Nat.mul_le_mul hcap (by omega);have e1:((fI p.2.2.2.2.2.2.2.2.2.2.2.2.2.2.2.length m:Nat):Int)*(m:Int)=((fI p.2.2.2.2.2.2.2.2.2.2.2.2.2.2.2.length m*m:Nat):Int):=by push_cast;rfl
  simp only[pG];rw[e1,ek (by omega),ah (by omega)];rfl
theorem xC (p:aC)(z:Int):(tB p z).length≤320:=by
 unfold tB;cases hs:dy p&&dB z 1 128 with|false=>exact dr _|true=>?_
 simp only[ai,db]at hs;have hb:=uP hs.1;cases (p.2.2.2.2.2.2.2.2.1 !=6)||decide ((p.2.2.2.2.2.2.2.2.2.2.2.2.2.2.2.length:Int)≤z)with|true=>simp only[ae,bz];omega|false=>simp only[ae,af,cd,List.length_range];rcases bc 320 (fI p.2.2.2.2.2.2.2.2.2.2.2.2.2.2.2.length z.toNat)with h|h;have:=(zv (by omega)).1 h;have:320*1≤320*z.toNat:=Nat.mul_le_mul_left _ (by omega);omega;exact h
def AW (acc:List Bytes)(p:aC):List Bytes:=bif (nV p).2 then acc++[(nV p).1] else acc
theorem AX (acc:List Bytes)(p:aC):(AW acc p).length≤acc.length+1:=by unfold AW;cases (nV p).2<;>simp
def we (l:List aC):List Bytes:=l.foldl AW []
theorem zS:∀(l:List aC)(acc:List Bytes),(l.foldl AW acc).length≤acc.length+l.length
 |[],acc=>by simp
 |p::l,acc=>by have:=zS l (AW acc p);have:=AX acc p;simp only[cq,bD];omega
theorem wN:∀(l:List aC)(acc:List Bytes),(∀x∈acc,x.length≤382)→∀x∈l.foldl AW acc,x.length≤382
 |[],acc,h=>h
 |p::l,acc,h=>by rw[cq];refine wN l _ (λx hx=>?_);unfold AW at hx;cases hf:(nV p).2 with|false=>rw[hf]at hx;exact h x hx|true=>rw[hf]at hx;simp only[ae,aq,cL]at hx;rcases hx with hx|hx;exact h x hx;rw[hx];exact wc p
theorem K0 (l:List aC)(h:l.length≤1000000000):pV l=some (we l):=by
 unfold pV we;have:=oK (T:=js (λ(y3:List Bytes) (_:Int)=>some y3) l) l (λ(s:List Bytes) i=>(s,(i:Int))) (λi s=>s.length≤i) (λp s=> .ok (AW s p)) (λs=>some s) (by omega) (λi hi s nx hI=>?hs) (λi hi s s' hI hg=>?hn) (λs nx hI=>?hf) [] (by simp)
 case hs=>
  simp only[js]
  rw[aj (by omega),a4 hi,wrap64 (n:=(i:Int)+1) (by omega) (by omega)]
  simp only[ae,ab,Ez,AW]
  rw[aM (by simp;omega)]
  cases (nV l[i]).2<;>rfl
 case hn=>cases hg;have:=AX s l[i];omega
 case hf=>
  simp only[js]
  rw[ah (by omega)];rfl
 rw[uF]at this;exact this
theorem Kc (l:List aC)(h:l.length≤1000000000):pA l=some (we l):=by
 unfold pA we;have:=oK (T:=iR (λ(y3:List Bytes) (_:Int)=>some y3) l (l.length:Int)) l (λ(s:List Bytes) i=>(s,(i:Int))) (λi s=>s.length≤i) (λp s=> .ok (AW s p)) (λs=>some s) (by omega) (λi hi s nx hI=>?hs) (λi hi s s' hI hg=>?hn) (λs nx hI=>?hf) [] (by simp)
 case hs=>
  simp only[iR]
  rw[aj (by omega),a4 hi,wrap64 (n:=(i:Int)+1) (by omega) (by omega)]
  simp only[ae,ab,D8,AW]
  rw[aM (by simp;omega)]
  cases (nV l[i]).2<;>rfl
 case hn=>cases hg;have:=AX s l[i];omega
 case hf=>
  simp only[iR]
  rw[ah (by omega)];rfl
 rw[uF]at this;exact this
def yw (p:aC)(z:Int):List Bytes:=we (tB p z)
theorem PX (p:aC)(z:Int):nr p z=some (yw p z):=by have:=xC p z;simp only[nr,N4,K0 _ (show(tB p z).length≤1000000000 by omega),ab];rfl
theorem Pb (p:aC)(z:Int):nd p z=some (yw p z):=by have:=xC p z;simp only[nd,Ni,Kc _ (show(tB p z).length≤1000000000 by omega),ab];rfl
theorem zA (p:aC)(z:Int):(yw p z).length≤320∧∀x∈yw p z,x.length≤382:=by have:=xC p z;have:=zS (tB p z) [];exact⟨by unfold yw we;simp only[dh]at this;omega,wN _ [] (by simp)⟩
theorem xU {s:Bytes}{a:Int}(h0:0≤a)(h:a+2≤(s.length:Int)):0≤cz s a∧cz s a≤65535:=by have h1:=di s a.toNat;have h2:=di s (a.toNat+1);unfold cz dx;rw[aj ⟨h0,h⟩];simp only[ae];omega
theorem xV {s:Bytes}{a:Int}(h0:0≤a)(h:a+4≤(s.length:Int)):0≤ir s a∧ir s a≤4294967295:=by have h1:=di s a.toNat;have h2:=di s (a.toNat+1);have h3:=di s (a.toNat+2);have h4:=di s (a.toNat+3);unfold ir dx;rw[aj ⟨h0,h⟩];simp only[ae];omega
theorem Pk {x y:Int}(hx:0≤x∧x≤65535)(hy:0≤y∧y≤4294967295):aw (BitVec.toNat (BitVec.ofInt (IntKind.bits .i64) (aw (x*2^(min (Int.toNat 32) (IntKind.bits .i64))))|||BitVec.ofInt (IntKind.bits .i64) y))=x*4294967296+y:=by have e:(2:Int)^(min (Int.toNat 32) (IntKind.bits .i64))=4294967296:=rfl;obtain⟨x,rfl⟩:=aY hx.1;obtain⟨y,rfl⟩:=aY hy.1;rw[e,wrap64 (n:=(x:Int)*4294967296) (by omega) (by omega),show(x:Int)*4294967296=((2^32*x:Nat):Int) by omega,xu x 32 y (by omega) (by omega)];omega
theorem Mg {x y:Int}(hx:0≤x∧x≤65535)(hy:0≤y∧y≤4294967295):aw (aw (x*2^(min (Int.toNat 32) (IntKind.bits .i64)))+y)=x*4294967296+y:=by have e:(2:Int)^(min (Int.toNat 32) (IntKind.bits .i64))=4294967296:=rfl;rw[e,wrap64 (n:=x*4294967296) (by omega) (by omega),wrap64 (by omega) (by omega)]
theorem AL {α:Type}{l:List α}{n:Int}(h0:0≤n)(h1:n≤(l.length:Int)):sub l 0 n=some (l.take n.toNat):=by unfold sub;rw[az (by omega)];simp
theorem p8 {α:Type}{l:List α}(k:Nat)(h:k≤l.length){a:Int}(ha:a=(k:Int)):sub l a (l.length:Int)=some (l.drop k):=by unfold sub;rw[az (by omega)];subst ha;simp
theorem MC {α:Type}{l:List α}(k:Nat){a n:Int}(ha:a=(k:Int))(h0:a≤n)(h1:n≤(l.length:Int)):sub l a n=some ((l.take n.toNat).drop k):=by unfold sub;rw[az (by omega)];subst ha;simp
def ie (s:Bytes):Bytes×Bool:=bif decide ((s.length:Int)<4) then([],false) else bif ru (s.take ((s.length:Int)-4).toNat)==s then(s.take ((s.length:Int)-4).toNat,true) else([],false)
theorem KZ (s:Bytes)(h:s.length≤1000000000):pR s=some (ie s):=by unfold pR ie;rw[wrap64 (n:=(s.length:Int)-4) (by omega) (by omega)];by_cases h4:(s.length:Int)<4;rw[aj h4];rfl;rw[ah h4,AL (by omega) (by omega)];simp only[af,ab,Mx _ (show(s.take ((s.length:Int)-4).toNat).length≤1000000000 by rw[bt];omega)];cases ru (s.take ((s.length:Int)-4).toNat)==s<;>rfl
theorem Kb (s:Bytes)(h:s.length≤1000000000):pw s=some (ie s):=by unfold pw ie;rw[wrap64 (n:=(s.length:Int)-4) (by omega) (by omega)];by_cases h4:(s.length:Int)<4;rw[aj (show(s.length:Int)-4<0 by omega),aj h4];rfl;rw[ah (show¬(s.length:Int)-4<0 by omega),ah h4,AL (by omega) (by omega)];simp only[af,ab,Ma _ (show(s.take ((s.length:Int)-4).toNat).length≤1000000000 by rw[bt];omega)];cases ru (s.take ((s.length:Int)-4).toNat)==s<;>rfl
def OT:Dc:=(0,0,0,0,([]:Bytes))
def Mf (s:Bytes)(a:Int):Int:=cz s a*4294967296+ir s (a+2)
def HB (s:Bytes):Dc:=(Mf s 0,Mf s 6,cz s 14,cz s 16,s.drop 18)
def wL (s:Bytes):Dc:=(Mf s 0,Mf s 6, -1,cz s 12,s.drop 14)
def lC (s:Bytes):Dc×Bool:=bif decide ((s.length:Int)<18) then(OT,false) else
 bif cz s 12==33024 then(bif tn (HB s) then(HB s,true) else(OT,false)) else bif tn (wL s) then(wL s,true) else(OT,false)
theorem GF (s:Bytes)(h:s.length≤1000000000):pZ s=some (lC s):=by unfold pZ lC;by_cases h8:(s.length:Int)<18;rw[aj h8];rfl;rw[ah h8];simp only[af,tV s _ h,zF s _ h,ab];rw[ar (by omega),ar (by omega),p8 (l:=s) 14 (by omega) (show(14:Int)=((14:Nat):Int) from rfl),ab,p8 (l:=s) 18 (by omega) (show(18:Int)=((18:Nat):Int) from rfl)];rw[Mg (xU (s:=s) (a:=0) (by omega) (by omega)) (xV (s:=s) (a:=2) (by omega) (by omega)),Mg (xU (s:=s) (a:=6) (by omega) (by omega)) (xV (s:=s) (a:=8) (by omega) (by omega))];simp only[ab,zE];rw[show((cz s 0*4294967296+ir s 2,cz s 6*4294967296+ir s 8,cz s 14,cz s 16,s.drop 18):Dc)=HB s from rfl,show((cz s 0*4294967296+ir s 2,cz s 6*4294967296+ir s 8, -1,cz s 12,s.drop 14):Dc)=wL s from rfl];cases cz s 12==33024<;>cases tn (HB s)<;>cases tn (wL s)<;>rfl
theorem F4 (s:Bytes)(h:s.length≤1000000000):pE s=some (lC s):=by
 unfold pE lC;by_cases h4:(s.length:Int)<14;rw[aj h4,aj (show(s.length:Int)<18 by omega)];rfl;rw[ah h4];simp only[af,zb s _ h,zc s _ h,ab];rw[ar (by omega),ar (by omega),p8 (l:=s) 14 (by omega) (show(14:Int)=((14:Nat):Int) from rfl),ab];rw[Pk (xU (s:=s) (a:=0) (by omega) (by omega)) (xV (s:=s) (a:=2) (by omega) (by omega)),Pk (xU (s:=s) (a:=6) (by omega) (by omega)) (xV (s:=s) (a:=8) (by omega) (by omega))];simp only[ab,D7];rw[show((cz s 0*4294967296+ir s 2,cz s 6*4294967296+ir s 8, -1,cz s 12,s.drop 14):Dc)=wL s from rfl];by_cases h8:(s.length:Int)<18;have hB:tn (wL s)=false:=by
  unfold tn wL;have:dB ((s.drop 14).length:Int) 46 400=false:=by rw[Bool.eq_false_iff,ne_eq,db,bJ];omega
  simp only[this,eI]
 rw[aj h8,ah (show¬(s.length:Int)≥18 by omega),hB];cases cz s 12==33024<;>rfl;rw[ah h8,aj (show(s.length:Int)≥18 by omega),p8 (l:=s) 18 (by omega) (show(18:Int)=((18:Nat):Int) from rfl)];simp only[ab];rw[show((cz s 0*4294967296+ir s 2,cz s 6*4294967296+ir s 8,cz s 14,cz s 16,s.drop 18):Dc)=HB s from rfl];cases cz s 12==33024<;>cases tn (HB s)<;>cases tn (wL s)<;>rfl
def ip0:Ip:=(0,0,0,0,0,0,([]:Bytes))
def yf (s:Bytes):Ip:=((bO s 1:Int),cz s 4,(bO s 8:Int),(bO s 9:Int),ir s 12,ir s 16,(s.take (cz s 2).toNat).drop 20)
def rb (s:Bytes):Ip×Bool:=bif decide ((s.length:Int)<20)||(decide (cz s 2<20)||decide (cz s 2>(s.length:Int))) then(ip0,false) else
 bif (Jz (yf s)).2&&((Jz (yf s)).1==s.take (cz s 2).toNat) then(yf s,true) else(ip0,false)
theorem Jc (s:Bytes)(h:s.length≤1000000000):rk s=some (rb s):=by
 unfold rk rb;simp only[tV s _ h,zF s _ h,ab];by_cases h1:(s.length:Int)<20;rw[aj h1];rfl;by_cases h2:cz s 2<20;rw[ah h1,aj h2];rfl;by_cases h3:cz s 2>(s.length:Int);rw[ah h1,ah h2,aj h3];rfl;rw[ah h1,ah h2,ah h3];have b1:=jD (s[1]'(by omega));have b8:=jD (s[8]'(by omega));have b9:=jD (s[9]'(by omega));have i1:idx s 1=some (s[1]'(by omega)):=a4 (i:=1) (by omega);have i8:idx s 8=some (s[8]'(by omega)):=a4 (i:=8) (by omega);have i9:idx s 9=some (s[9]'(by omega)):=a4 (i:=9) (by omega);simp only[af,ab,cM,i1,i8,i9];rw[MC (l:=s) 20 (show(20:Int)=((20:Nat):Int) from rfl) (by omega) (by omega),AL (by omega) (by omega),ek (n:=(s[1]'(by omega)).toNat) (by omega),ek (n:=(s[8]'(by omega)).toNat) (by omega),ek (n:=(s[9]'(by omega)).toNat) (by omega)];have e:(((s[1]'(by omega)).toNat:Int),cz s 4,((s[8]'(by omega)).toNat:Int),((s[9]'(by omega)).toNat:Int),ir s 12,ir s 16,(s.take (cz s 2).toNat).drop 20)=yf s:=by simp only[yf,bO,bI (show 1<s.length by omega),bI (show 8<s.length by omega),bI (show 9<s.length by omega)]
 simp only[ab,e,PV];cases (Jz (yf s)).2<;>cases (Jz (yf s)).1==s.take (cz s 2).toNat<;>rfl
theorem H9 (s:Bytes)(h:s.length≤1000000000):qV s=some (rb s):=by
 unfold qV rb;simp only[zb s _ h,zc s _ h,ab];by_cases h1:(s.length:Int)<20;rw[aj h1];rfl;by_cases h2:cz s 2<20;rw[ah h1,aj h2];rfl;by_cases h3:cz s 2>(s.length:Int);rw[ah h1,ah h2,aj h3];rfl;rw[ah h1,ah h2,ah h3];have b1:=jD (s[1]'(by omega));have b8:=jD (s[8]'(by omega));have b9:=jD (s[9]'(by omega));have i1:idx s 1=some (s[1]'(by omega)):=a4 (i:=1) (by omega);have i8:idx s 8=some (s[8]'(by omega)):=a4 (i:=8) (by omega);have i9:idx s 9=some (s[9]'(by omega)):=a4 (i:=9) (by omega);simp only[af,ab,cM,i1,i8,i9];rw[MC (l:=s) 20 (show(20:Int)=((20:Nat):Int) from rfl) (by omega) (by omega),AL (by omega) (by omega),ek (n:=(s[1]'(by omega)).toNat) (by omega),ek (n:=(s[8]'(by omega)).toNat) (by omega),ek (n:=(s[9]'(by omega)).toNat) (by omega)];have e:(((s[1]'(by omega)).toNat:Int),cz s 4,((s[8]'(by omega)).toNat:Int),((s[9]'(by omega)).toNat:Int),ir s 12,ir s 16,(s.take (cz s 2).toNat).drop 20)=yf s:=by simp only[yf,bO,bI (show 1<s.length by omega),bI (show 8<s.length by omega),bI (show 9<s.length by omega)]
 simp only[ab,e,O8];cases (Jz (yf s)).2<;>cases (Jz (yf s)).1==s.take (cz s 2).toNat<;>rfl
def WZ:cJ:=(0,0,0,0,0,0,0,([]:Bytes))
def CM (k:Int)(s:Bytes):cJ:=(k,cz s 0,cz s 2,ir s 4,ir s 8,(bO s 13:Int),cz s 14,s.drop 20)
def Gw (k:Int)(s:Bytes):cJ:=(k,cz s 0,cz s 2,0,0,0,0,s.drop 8)
def sn (a b k:Int)(s:Bytes):cJ×Bool:=
 bif (k==6)&&decide ((s.length:Int)≥20) then(bif (tA a b (CM k s)).2&&((tA a b (CM k s)).1==s) then(CM k s,true) else(WZ,false)) else
 bif (k==17)&&decide ((s.length:Int)≥8) then(bif (tA a b (Gw k s)).2&&((tA a b (Gw k s)).1==s) then(Gw k s,true) else(WZ,false)) else(WZ,false)
theorem GG (a b k:Int)(s:Bytes)(h:s.length≤1000000000):k8 a b k s=some (sn a b k s):=by
 unfold k8 sn;simp only[tV s _ h,zF s _ h,ab];rw[show(aa (cond (k==6) (some (decide ((s.length:Int)≥20))) (some false)):(Bool→Option (cJ×Bool))→Option (cJ×Bool))=λK=>K ((k==6)&&decide ((s.length:Int)≥20)) from by funext K;cases k==6<;>rfl];rw[show(aa (cond (k==17) (some (decide ((s.length:Int)≥8))) (some false)):(Bool→Option (cJ×Bool))→Option (cJ×Bool))=λK=>K ((k==17)&&decide ((s.length:Int)≥8)) from by funext K;cases k==17<;>rfl];simp only;cases h1:(k==6)&&decide ((s.length:Int)≥20)with
 |true=>
  simp only[ai,aX]at h1;have bb:=jD (s[13]'(by omega));have i:idx s 13=some (s[13]'(by omega)):=a4 (i:=13) (by omega);have e:(k,cz s 0,cz s 2,ir s 4,ir s 8,((s[13]'(by omega)).toNat:Int),cz s 14,s.drop 20)=CM k s:=by simp only[CM,bO,bI (show 13<s.length by omega)]
  simp only[ae,i,ab];rw[p8 (l:=s) 20 (by omega) (show(20:Int)=((20:Nat):Int) from rfl),ek (n:=(s[13]'(by omega)).toNat) (by omega)];simp only[ab,e,vH];cases (tA a b (CM k s)).2<;>cases (tA a b (CM k s)).1==s<;>rfl
 |false=>simp only[af];cases h2:(k==17)&&decide ((s.length:Int)≥8)with|false=>rfl|true=>simp only[ai,aX]at h2;rw[p8 (l:=s) 8 (by omega) (show(8:Int)=((8:Nat):Int) from rfl)];simp only[ae,ab,show((k,cz s 0,cz s 2,0,0,0,0,s.drop 8):cJ)=Gw k s from rfl,vH];cases (tA a b (Gw k s)).2<;>cases (tA a b (Gw k s)).1==s<;>rfl
theorem F5 (a b k:Int)(s:Bytes)(h:s.length≤1000000000):kT a b k s=some (sn a b k s):=by
 unfold kT sn;simp only[zb s _ h,zc s _ h,ab];rw[show(aa (cond (k==6) (some (decide ((s.length:Int)≥20))) (some false)):(Bool→Option (cJ×Bool))→Option (cJ×Bool))=λK=>K ((k==6)&&decide ((s.length:Int)≥20)) from by funext K;cases k==6<;>rfl];rw[show(aa (cond (k==17) (some (decide ((s.length:Int)≥8))) (some false)):(Bool→Option (cJ×Bool))→Option (cJ×Bool))=λK=>K ((k==17)&&decide ((s.length:Int)≥8)) from by funext K;cases k==17<;>rfl];simp only;cases h1:(k==6)&&decide ((s.length:Int)≥20)with
 |true=>
  simp only[ai,aX]at h1;have bb:=jD (s[13]'(by omega));have i:idx s 13=some (s[13]'(by omega)):=a4 (i:=13) (by omega);have e:(k,cz s 0,cz s 2,ir s 4,ir s 8,((s[13]'(by omega)).toNat:Int),cz s 14,s.drop 20)=CM k s:=by simp only[CM,bO,bI (show 13<s.length by omega)]
  simp only[ae,i,ab];rw[p8 (l:=s) 20 (by omega) (show(20:Int)=((20:Nat):Int) from rfl),ek (n:=(s[13]'(by omega)).toNat) (by omega)];simp only[ab,e,vu];cases (tA a b (CM k s)).2<;>cases (tA a b (CM k s)).1==s<;>rfl
 |false=>simp only[af];cases h2:(k==17)&&decide ((s.length:Int)≥8)with|false=>rfl|true=>simp only[ai,aX]at h2;rw[p8 (l:=s) 8 (by omega) (show(8:Int)=((8:Nat):Int) from rfl)];simp only[ae,ab,show((k,cz s 0,cz s 2,0,0,0,0,s.drop 8):cJ)=Gw k s from rfl,vu];cases (tA a b (Gw k s)).2<;>cases (tA a b (Gw k s)).1==s<;>rfl
def Rp:aC:=(0,0,0,0,0,0,0,0,0,0,0,0,0,0,0,([]:Bytes))
def tS (s:Bytes):aC×Int:=
 let e:=lC s
 bif !e.2||(e.1.2.2.2.1 !=2048) then(Rp,2) else
 let i:=rb e.1.2.2.2.2
 bif !i.2 then(Rp,3) else
 let g:=sn i.1.2.2.2.2.1 i.1.2.2.2.2.2.1 i.1.2.2.2.1 i.1.2.2.2.2.2.2
 bif !g.2 then(Rp,4) else
 bif !dy (e.1.1,e.1.2.1,e.1.2.2.1,i.1.1,i.1.2.1,i.1.2.2.1,i.1.2.2.2.2.1,i.1.2.2.2.2.2.1,g.1) then(Rp,5) else
 ((e.1.1,e.1.2.1,e.1.2.2.1,i.1.1,i.1.2.1,i.1.2.2.1,i.1.2.2.2.2.1,i.1.2.2.2.2.2.1,g.1),0)
theorem ym (s:Bytes):(lC s).1.2.2.2.2.length≤s.length:=by
 unfold lC;cases decide ((s.length:Int)<18)with|true=>simp[OT]|false=>?_
 cases cz s 12==33024<;>cases tn (HB s)<;>cases tn (wL s)<;>simp[OT,HB,wL]
theorem zZ (s:Bytes):(rb s).1.2.2.2.2.2.2.length≤s.length:=by
 unfold rb;cases decide ((s.length:Int)<20)||(decide (cz s 2<20)||decide (cz s 2>(s.length:Int)))with|true=>simp[ip0]|false=>?_
 cases (Jz (yf s)).2&&((Jz (yf s)).1==s.take (cz s 2).toNat)with|false=>simp[ip0]|true=>simp[yf];omega
theorem N1 (s:Bytes)(h:s.length≤1000000000):oR s=some (tS s):=by
 have h1:=ym s;unfold oR tS;rw[GF s h,ab];generalize lC s=e at h1⊢;have h2:=zZ e.1.2.2.2.2;simp only;cases e.2 with|false=>rfl|true=>?_
 cases e.1.2.2.2.1 !=2048 with|true=>rfl|false=>?_
 simp only[au,af,ab,cM,Jc _ (show e.1.2.2.2.2.length≤1000000000 by omega)];generalize rb e.1.2.2.2.2=i at h2⊢;cases i.2 with|false=>rfl|true=>?_
 simp only[au,af,ab,GG _ _ _ _ (show i.1.2.2.2.2.2.2.length≤1000000000 by omega)];generalize sn i.1.2.2.2.2.1 i.1.2.2.2.2.2.1 i.1.2.2.2.1 i.1.2.2.2.2.2.2=g;cases g.2 with|false=>rfl|true=>?_
 simp only[au,af,ab,ma];cases dy (e.1.1,e.1.2.1,e.1.2.2.1,i.1.1,i.1.2.1,i.1.2.2.1,i.1.2.2.2.2.1,i.1.2.2.2.2.2.1,g.1)<;>rfl
theorem Nf (s:Bytes)(h:s.length≤1000000000):oc s=some (tS s):=by
 have h1:=ym s;unfold oc tS;rw[F4 s h,ab];generalize lC s=e at h1⊢;have h2:=zZ e.1.2.2.2.2;simp only;cases e.2 with|false=>rfl|true=>?_
 cases e.1.2.2.2.1 !=2048 with|true=>rfl|false=>?_
 simp only[au,af,ab,cM,H9 _ (show e.1.2.2.2.2.length≤1000000000 by omega)];generalize rb e.1.2.2.2.2=i at h2⊢;cases i.2 with|false=>rfl|true=>?_
 simp only[au,af,ab,F5 _ _ _ _ (show i.1.2.2.2.2.2.2.length≤1000000000 by omega)];generalize sn i.1.2.2.2.2.1 i.1.2.2.2.2.2.1 i.1.2.2.2.1 i.1.2.2.2.2.2.2=g;cases g.2 with|false=>rfl|true=>?_
 simp only[au,af,ab,lK];cases dy (e.1.1,e.1.2.1,e.1.2.2.1,i.1.1,i.1.2.1,i.1.2.2.1,i.1.2.2.2.2.1,i.1.2.2.2.2.2.1,g.1)<;>rfl
def dT (s:Bytes):aC×Int:=
 let c:=ie s
 bif !c.2 then(Rp,1) else
 let r:=tS c.1
 bif r.2 !=0 then(Rp,r.2) else
 bif !dN r.1 then(Rp,5) else(r.1,0)
theorem Bi (s:Bytes):(ie s).1.length≤s.length:=by
 unfold ie;cases decide ((s.length:Int)<4)with|true=>simp|false=>?_
 cases ru (s.take ((s.length:Int)-4).toNat)==s with|false=>simp|true=>simp;omega
theorem zG (s:Bytes)(h:s.length≤1000000000):jv s=some (dT s):=by
 have h1:=Bi s;unfold jv dT;rw[KZ s h,ab];generalize ie s=c at h1⊢;simp only;cases c.2 with|false=>rfl|true=>?_
 simp only[au,af,ab,N1 _ (show c.1.length≤1000000000 by omega)];generalize tS c.1=r;cases r.2 !=0 with|true=>rfl|false=>?_
 simp only[af,ab,uJ];cases dN r.1<;>rfl
theorem zd (s:Bytes)(h:s.length≤1000000000):iV s=some (dT s):=by
 have h1:=Bi s;unfold iV dT;rw[Kb s h,ab];generalize ie s=c at h1⊢;simp only;cases c.2 with|false=>rfl|true=>?_
 simp only[au,af,ab,Nf _ (show c.1.length≤1000000000 by omega)];generalize tS c.1=r;cases r.2 !=0 with|true=>rfl|false=>?_
 simp only[af,ab,ug];cases dN r.1<;>rfl
def AA {α:Type}(a b:α):Bool:= @decide (a=b) (Classical.propDecidable _)
theorem vW {α:Type}{a b:α}:AA a b=true↔a=b:=by unfold AA;exact @decide_eq_true_iff _ (Classical.propDecidable _)
theorem FQ {α:Type}{a b:α}{x:Bool}(h:x=true↔a=b):x=AA a b:=by rw[bH,vW];exact h
theorem acR {α:Type}[BEq α][LawfulBEq α](a b:α):(a==b)=AA a b:=FQ aR
theorem ON {α β:Type}(a b:α)(c d:β):AA (a,c) (b,d)=(AA a b&&AA c d):=by rw[bH];simp only[ai,vW,Prod.mk.injEq]
theorem HC {α β:Type}(a b:α×β):AA a b=(AA a.1 b.1&&AA a.2 b.2):=ON a.1 b.1 a.2 b.2
theorem OO {α:Type}{a b:α}(h:a=b):AA a b=true:=vW.2 h
theorem MX {α:Type}{a b:α}(h:¬a=b):AA a b=false:=by rw[Bool.eq_false_iff,ne_eq,vW];exact h
theorem OS {α R:Type}{T:(Int→Option R)→Int→Option R}{fin hit:Option R}(p:α→α→Bool)(hp:∀x y,p x y=true↔x=y)(a b:List α)(hl:a.length=b.length)(h:a.length≤1000000000)(hs:∀i (hi:i<a.length) nx,T nx (i:Int)=cond (!(p a[i] (b[i]'(hl▸hi)))) hit (nx ((i+1:Nat):Int)))(hf:∀nx,T nx (a.length:Int)=fin): aW T fuel 0=cond (AA a b) fin hit:=by
 have hq:∀i,i<a.length→i<b.length:=λi hi=>hl▸hi;rw[fF (fin:=fin) (hit:=hit) (λi=>AA a[i]? b[i]?) a.length (by omega) ?hs hf]
 case hs=>
  intro i nx hi
  rw[hs i hi,List.getElem?_eq_getElem hi,List.getElem?_eq_getElem (hq i hi)]
  have:p a[i] (b[i]'(hq i hi))=AA (some a[i]) (some (b[i]'(hq i hi))):=FQ (by rw[hp,aU])
  rw[this]
 congr 1;apply FQ;rw[a6];constructor;intro k;apply List.ext_getElem?;intro i;by_cases hi:i<a.length;exact vW.1 (k i (cZ.2 hi));rw[List.getElem?_eq_none (by omega),List.getElem?_eq_none (by omega)];rintro rfl i _;exact OO rfl
theorem RJ {α:Type}{T:(Int→Option Bool)→Int→Option Bool}(p:α→α→Bool)(hp:∀x y,p x y=true↔x=y)(a b:List α)(h:a.length≤1000000000)(hs:a.length=b.length→∀i (hi:i<a.length)(hi':i<b.length) nx,T nx (i:Int)=cond (!(p a[i] b[i])) (some false) (nx ((i+1:Nat):Int)))(hf:∀nx,T nx (a.length:Int)=some true): cond ((a.length:Int) !=(b.length:Int)) (some false) (aW T fuel 0)=some (AA a b):=by by_cases hl:a.length=b.length;rw[OS p hp a b hl h (λi hi nx=>hs hl i hi (hl▸hi) nx) hf];rw[show((a.length:Int) !=(b.length:Int))=false by simp[hl]];cases AA a b<;>rfl;rw[MX (λe=>hl (by rw[e]))];rw[show((a.length:Int) !=(b.length:Int))=true by simp;omega];rfl
theorem O7 (a b:List Int)(h:a.length≤1000000000):l9 a b=some (AA a b):=by unfold l9;refine RJ (λx y=>x==y) (λx y=>aR) a b h (λhl i hi hi' nx=>?_) (λnx=>?_);simp only[iC];rw[aj (by omega),a4 hi,a4 hi',wrap64 (by omega) (by omega)];rfl;simp only[iC];rw[ah (by omega)];rfl
theorem xZ (a b:Filter)(h:a.2.2.length≤1000000000):nh a b=some (AA a b):=by simp only[nh,O7 _ _ h,ab,bk,cF,HC a b,HC a.2 b.2,acR]
theorem qz (l:List Bytes)(h:l.length≤1000000000):gr l=some l:=by simp only[gr,fX h,a9]
theorem iO (f:Filter)(h:f.2.2.length≤1000000000):c7 f=some f:=by simp only[c7,zM _ h,ab]
theorem jn (f:Filter)(h:f.2.2.length≤1000000000):dM f=some f:=by simp only[dM,fX h,a9]
theorem u3 (l:List Stream)(h:l.length≤1000000000):iX l=some l:=by simp only[iX,fX h,a9]
theorem Dk (t:List Slot)(h:t.length≤1000000000):oe t=some t:=by simp only[oe,fX h,a9]
theorem Ce (s:eO)(h:s.2.length≤1000000000):ng s=some s:=by simp only[ng,zM _ h,ab]
theorem Dj (s:dj)(h1:s.1.length≤1000000000)(h2:s.2.1.length≤1000000000)(h3:s.2.2.2.length≤1000000000):kZ s=some s:=by simp only[kZ,fX h1,Dk _ h2,Ce _ h3,ab,a9]
theorem DA (t:List Slot)(h:t.length≤1000000000):rn t=some t:=by simp only[rn,fX h,a9]
theorem Dz (s:dj)(h1:s.1.length≤1000000000)(h2:s.2.1.length≤1000000000)(h3:s.2.2.2.length≤1000000000):rp s=some s:=by simp only[rp,fX h1,DA _ h2,fX h3,ab,a9]
theorem xY (s:dV)(z:bK 1000000000 cw s):mN s=some s:=by simp only[mN,iO _ z.1.2.2.1,Dj _ z.2.1.1.1 z.2.1.2.1.1 z.2.1.2.2.2.1,u3 _ z.2.2.2.1.1,qz _ z.2.2.2.2.1,ab]
def acN:dV:=((0,false,([]:List Int)),(([]:List dC),([]:List Slot),([]:Bytes),([]:List Int)),0,([]:List Stream),([]:List Bytes))
noncomputable def vG (s:dV):Bool:=c6 s.1&&nM s.2.1 s.2.2.1
theorem Je (s:dV)(h0:s.1.2.2.length≤1000000000)(h1:s.2.1.1.length≤1000000000)(h2:s.2.1.2.1.length≤1000000000)(h3:s.2.1.2.2.2.length≤1000000000):qp s=some (vG s):=by unfold qp vG;simp only[lE _ h0,yA _ _ h1 h2 h3,ab,bk];cases c6 s.1<;>rfl
theorem Ic (s:dV)(h0:s.1.2.2.length≤1000000000)(h1:s.2.1.1.length≤1000000000)(h2:s.2.1.2.1.length≤1000000000)(h3:s.2.1.2.2.2.length≤1000000000):qc s=some (vG s):=by unfold qc vG;simp only[ll _ h0,ya _ _ h1 h2 h3,ab,bk];cases c6 s.1<;>rfl
def Rm (f:Int×Int×Int×Int×Int)(s:Stream):Bool:=decide (s.1=f)
def Au (l:List Stream)(f:Int×Int×Int×Int×Int):Int:=match l.findIdx? (Rm f)with|some i=>(i:Int)|none=> -1
theorem PY (l:List Stream)(f:Int×Int×Int×Int×Int)(h:l.length≤1000000000):mq l f=some (Au l f):=by
 unfold mq Au;rw[vZ (p:=Rm f) (hit:=λi=>some i) (fin:=some (-1)) l (by omega) (λi hi nx=>?hs) (λnx=>?hf)]
 case hs=>
  simp only[iE]
  rw[aj (by omega),a4 hi,wrap64 (by omega) (by omega)]
  simp only[ae,ab,xT,Rm];rfl
 case hf=>
  simp only[iE]
  rw[ah (by omega)];rfl
 cases l.findIdx? (Rm f)<;>rfl
theorem Pc (l:List Stream)(f:Int×Int×Int×Int×Int)(h:l.length≤1000000000):lU l f=some (Au l f):=by
 unfold lU Au;rw[vZ (p:=Rm f) (hit:=λi=>some i) (fin:=some (-1)) l (by omega) (λi hi nx=>?hs) (λnx=>?hf)]
 case hs=>
  simp only[iA]
  rw[aj (by omega),a4 hi,wrap64 (by omega) (by omega)]
  simp only[ae,ab,xT,Rm];rfl
 case hf=>
  simp only[iA]
  rw[ah (by omega)];rfl
 cases l.findIdx? (Rm f)<;>rfl
def La:Stream:=((0,0,0,0,0),0,([]:Bytes),false)
def body (p:aC):Bytes:=p.2.2.2.2.2.2.2.2.2.2.2.2.2.2.2
def udp (p:aC):Bytes:=df ((body p).length:Int)++body p
def qv (p:aC)(b:Int):Bool:=aw (BitVec.toNat (BitVec.ofInt (IntKind.bits .i64) p.2.2.2.2.2.2.2.2.2.2.2.2.2.1&&&BitVec.ofInt (IntKind.bits .i64) b)) !=0
def lf (s:Stream)(p:aC):Int:=(s.2.1-p.2.2.2.2.2.2.2.2.2.2.2.1)%4294967296
def SA (s:Stream)(p:aC):Stream:=(s.1,(s.2.1+((body p).length:Int)-lf s p)%4294967296,s.2.2.1++(body p).drop (lf s p).toNat,qv p 1)
def nT (l:List Stream)(p:aC):List Stream:=
 bif !dy p then l else
 match l.findIdx? (Rm (kI p))with
 |none=>
  bif p.2.2.2.2.2.2.2.2.1==17 then l++[(kI p,0,udp p,false)] else
  bif qv p 2 then l++[(kI p,Int.tmod (aw (p.2.2.2.2.2.2.2.2.2.2.2.1+1)) 4294967296,([]:Bytes),false)] else l
 |some i=>
  bif p.2.2.2.2.2.2.2.2.1==17 then l.set i ((l.getD i La).1,(l.getD i La).2.1,(l.getD i La).2.2.1++udp p,(l.getD i La).2.2.2) else
  bif qv p 2 then l else
  bif (l.getD i La).2.2.2||qv p 4 then l else
  bif decide (lf (l.getD i La) p≤((body p).length:Int)) then l.set i (SA (l.getD i La) p) else l
theorem GY (s:Stream)(p:aC):0≤lf s p∧lf s p<4294967296:=by unfold lf;omega
theorem WA (x:Int):aw (BitVec.toNat (BitVec.ofInt (IntKind.bits .i64) x&&&BitVec.ofInt (IntKind.bits .i64) 4294967295))=x%4294967296:=by have:=Ow x 32 (by omega);rw[show((2:Int)^32-1)=4294967295 from rfl,show((2:Int)^32)=4294967296 from rfl]at this;rw[this,wrap64 (by omega) (by omega)]
theorem Rl (x:Int):aw x%4294967296=x%4294967296:=by have:=Og x 32 (by omega);rwa[show((2:Int)^32)=4294967296 from rfl]at this
theorem yx {α:Type}(l:List α)(x y:α):(l++[x]).set l.length y=l++[y]:=by rw[List.set_append_right _ _ (aZ _),dp,List.set_cons_zero]
theorem L5 {α:Type}{l:List α}{i:Nat}(h:i<l.length)(x:α):idx (l.set i x) (i:Int)=some x:=by rw[wg,List.getElem?_set_self h]
theorem qO {α:Type}(l:List α)(x:α):idx (l++[x]) (l.length:Int)=some x:=by rw[wg,List.getElem?_append_right (aZ _),dp];rfl
theorem Bd {p:aC}(h:dy p=true):(body p).length≤320:=uP h
theorem F0 (l:List Stream)(p:aC)(h:bK 900000000 (.sl bC) l):nZ l p=some (nT l p):=by
 have hl:l.length≤900000000:=h.1;unfold nZ nT;simp only[u3 l (by omega),lK,ab,H7,Pc l _ (show l.length≤1000000000 by omega),pb];cases hs:dy p with|false=>rfl|true=>?_
 have hb:=Bd hs;have hw:=bn ((body p).length:Int);simp only[au,af];rw[show p.2.2.2.2.2.2.2.2.2.2.2.2.2.2.2=body p from rfl];cases hf:l.findIdx? (Rm (kI p))with
 |none=>
  have e1:Au l (kI p)= -1:=by rw[Au,hf]
  simp only[e1,show decide ((-1:Int)<0)=true from rfl,ae];cases p.2.2.2.2.2.2.2.2.1==17 with|true=>simp only[ae];rw[aM (by simp;omega),qO,ab];simp only;rw[aM (by omega),aM (by simp only[ak,dh];omega),ab,ax];simp only[ab,qO,yx,a9];rfl|false=>simp only[af];rw[show(aw (BitVec.toNat (BitVec.ofInt (IntKind.bits .i64) p.2.2.2.2.2.2.2.2.2.2.2.2.2.1&&&BitVec.ofInt (IntKind.bits .i64) 2)) !=0)=qv p 2 from rfl];cases qv p 2 with|true=>simp only[ae];rw[ar (by omega),aM (by simp;omega)]|false=>rfl
 |some i=>
  obtain⟨hi,_⟩:=List.findIdx?_eq_some_iff_getElem.1 hf;have hd:(l[i].2.2.1).length≤900000000:=(h.2 _ (aG hi)).2.2.1;have e1:Au l (kI p)=(i:Int):=by rw[Au,hf]
  simp only[e1,ah (show¬(i:Int)<0 by omega),af,a4 hi,ab,bI hi,ax];cases p.2.2.2.2.2.2.2.2.1==17 with
  |true=>simp only[ae];rw[aM (by omega),aM (by simp only[ak];omega)];rfl
  |false=>
   simp only[af];rw[show(aw (BitVec.toNat (BitVec.ofInt (IntKind.bits .i64) p.2.2.2.2.2.2.2.2.2.2.2.2.2.1&&&BitVec.ofInt (IntKind.bits .i64) 2)) !=0)=qv p 2 from rfl,show(aw (BitVec.toNat (BitVec.ofInt (IntKind.bits .i64) p.2.2.2.2.2.2.2.2.2.2.2.2.2.1&&&BitVec.ofInt (IntKind.bits .i64) 4)) !=0)=qv p 4 from rfl,show(aw (BitVec.toNat (BitVec.ofInt (IntKind.bits .i64) p.2.2.2.2.2.2.2.2.2.2.2.2.2.1&&&BitVec.ofInt (IntKind.bits .i64) 1)) !=0)=qv p 1 from rfl];cases qv p 2 with|true=>rfl|false=>?_
   simp only[af];rw[show(aa (cond l[i].2.2.2 (some true) (some (qv p 4))):(Bool→Option (List Stream))→Option (List Stream))=λK=>K (l[i].2.2.2||qv p 4) from by funext K;cases l[i].2.2.2<;>rfl];simp only;cases l[i].2.2.2||qv p 4 with|true=>rfl|false=>?_
   simp only[af,Nv _ 4294967296 (by omega) (by omega),ab,Rl];rw[show(l[i].2.1-p.2.2.2.2.2.2.2.2.2.2.2.1)%4294967296=lf l[i] p from rfl];have ha:=GY l[i] p;by_cases hq:lf l[i] p≤((body p).length:Int);rw[aj hq,p8 (l:=body p) (lf l[i] p).toNat (by omega) (by omega)];simp only[ae,ab];rw[aM (by rw[bJ];omega)];simp only[L5 hi,ab,c5];refine congrArg some (congrArg (l.set i) ?_);simp only[SA];rw[show(aw (l[i].2.1+((body p).length:Int))-lf l[i] p)%4294967296=(l[i].2.1+((body p).length:Int)-lf l[i] p)%4294967296 from by rw[Int.sub_emod,Rl,←Int.sub_emod]];rw[ah hq];rfl
theorem Gz (l:List Stream)(p:aC)(h:bK 900000000 (.sl bC) l):oM l p=some (nT l p):=by
 have hl:l.length≤900000000:=h.1;unfold oM nT;rw[fX (by omega)];simp only[a9,ma,ab,I9,PY l _ (show l.length≤1000000000 by omega),jR];cases hs:dy p with|false=>rfl|true=>?_
 have hb:=Bd hs;have hw:=bn ((body p).length:Int);simp only[au,af];rw[show p.2.2.2.2.2.2.2.2.2.2.2.2.2.2.2=body p from rfl];cases hf:l.findIdx? (Rm (kI p))with
 |none=>
  have e1:Au l (kI p)= -1:=by rw[Au,hf]
  simp only[e1,show decide ((-1:Int)<0)=true from rfl,ae];cases p.2.2.2.2.2.2.2.2.1==17 with|true=>simp only[ae];rw[aM (by simp;omega),qO,ab];simp only;rw[aM (by simp only[dh];omega),aM (by simp only[ak,dh];omega),ab,ax];simp only[ab,qO,yx,a9];rfl|false=>simp only[af];rw[show(aw (BitVec.toNat (BitVec.ofInt (IntKind.bits .i64) p.2.2.2.2.2.2.2.2.2.2.2.2.2.1&&&BitVec.ofInt (IntKind.bits .i64) 2)) !=0)=qv p 2 from rfl];cases qv p 2 with|true=>simp only[ae];rw[ar (by omega),aM (by simp;omega)]|false=>rfl
 |some i=>
  obtain⟨hi,_⟩:=List.findIdx?_eq_some_iff_getElem.1 hf;have hd:(l[i].2.2.1).length≤900000000:=(h.2 _ (aG hi)).2.2.1;have e1:Au l (kI p)=(i:Int):=by rw[Au,hf]
  simp only[e1,ah (show¬(i:Int)<0 by omega),af,a4 hi,ab,bI hi,ax];cases p.2.2.2.2.2.2.2.2.1==17 with
  |true=>simp only[ae];rw[aM (by omega),aM (by simp only[ak];omega),aD];rfl
  |false=>
   simp only[af];rw[show(aw (BitVec.toNat (BitVec.ofInt (IntKind.bits .i64) p.2.2.2.2.2.2.2.2.2.2.2.2.2.1&&&BitVec.ofInt (IntKind.bits .i64) 2)) !=0)=qv p 2 from rfl,show(aw (BitVec.toNat (BitVec.ofInt (IntKind.bits .i64) p.2.2.2.2.2.2.2.2.2.2.2.2.2.1&&&BitVec.ofInt (IntKind.bits .i64) 4)) !=0)=qv p 4 from rfl,show(aw (BitVec.toNat (BitVec.ofInt (IntKind.bits .i64) p.2.2.2.2.2.2.2.2.2.2.2.2.2.1&&&BitVec.ofInt (IntKind.bits .i64) 1)) !=0)=qv p 1 from rfl];cases qv p 2 with|true=>rfl|false=>?_
   simp only[af];rw[show(aa (cond l[i].2.2.2 (some true) (some (qv p 4))):(Bool→Option (List Stream))→Option (List Stream))=λK=>K (l[i].2.2.2||qv p 4) from by funext K;cases l[i].2.2.2<;>rfl];simp only;cases l[i].2.2.2||qv p 4 with|true=>rfl|false=>?_
   simp only[af,WA,ab,Rl];rw[show(l[i].2.1-p.2.2.2.2.2.2.2.2.2.2.2.1)%4294967296=lf l[i] p from rfl];have ha:=GY l[i] p;by_cases hq:lf l[i] p≤((body p).length:Int);rw[aj hq,p8 (l:=body p) (lf l[i] p).toNat (by omega) (by omega)];simp only[ae,ab];rw[aM (by rw[bJ];omega)];simp only[L5 hi,ab,c5,ar (show¬(4294967296:Nat)=0 by omega)];refine congrArg some (congrArg (l.set i) ?_);simp only[SA];have e:Int.tmod (aw (aw (l[i].2.1%4294967296+((body p).length:Int))-lf l[i] p)) 4294967296=(l[i].2.1+((body p).length:Int)-lf l[i] p)%4294967296:=by rw[wrap64 (n:=l[i].2.1%4294967296+((body p).length:Int)) (by omega) (by omega),wrap64 (by omega) (by omega),Int.tmod_eq_emod_of_nonneg (by omega)];omega
   rw[e];rw[ah hq];rfl
theorem H5 (l:List Stream)(p:aC)(h:bK 100000000 (.sl bC) l):nZ l p=some (nT l p):=F0 l p (h.mono (by omega))
theorem I6 (l:List Stream)(p:aC)(h:bK 100000000 (.sl bC) l):oM l p=some (nT l p):=Gz l p (h.mono (by omega))
theorem FJ {l:List Stream}{p:aC}{n:Nat}(h:bK n (.sl bC) l):bK (n+322) (.sl bC) (nT l p):=by
 have h':bK (n+322) (.sl bC) l:=h.mono (by omega);unfold nT;cases hs:dy p with|false=>exact h'|true=>?_
 have hb:=Bd hs;have hw:=bn ((body p).length:Int);have hu:(udp p).length≤322:=by simp only[udp,ak];omega
 simp only[au,af];have app:∀x:Stream,x.2.2.1.length≤n+322→bK (n+322) (.sl bC) (l++[x]):=by intro x hx;refine⟨?_,λy hy=>?_⟩;have:l.length≤n:=h.1;simp only[ak,bz];omega;rcases aq.1 hy with g|g;exact h'.2 y g;rw[cL.1 g];exact⟨⟨trivial,trivial,trivial,trivial,trivial⟩,trivial,hx,trivial⟩
 have put:∀(i:Nat)(x:Stream),x.2.2.1.length≤n+322→bK (n+322) (.sl bC) (l.set i x):=by intro i x hx;refine⟨?_,λy hy=>?_⟩;show(l.set i x).length≤_;rw[aO];exact h'.1;rcases List.mem_or_eq_of_mem_set hy with g|rfl;exact h'.2 y g;exact⟨⟨trivial,trivial,trivial,trivial,trivial⟩,trivial,hx,trivial⟩
 split;cases p.2.2.2.2.2.2.2.2.1==17 with|true=>exact app _ (show(udp p).length≤_ by omega)|false=>cases qv p 2 with|true=>exact app _ (dr _)|false=>exact h'
 rename_i i hf;obtain⟨hi,_⟩:=List.findIdx?_eq_some_iff_getElem.1 hf;have hd:(l[i].2.2.1).length≤n:=(h.2 _ (aG hi)).2.2.1;simp only[bI hi];cases p.2.2.2.2.2.2.2.2.1==17 with
 |true=>exact put _ _ (by simp only[ak];omega)
 |false=>
  cases qv p 2 with|true=>exact h'|false=>?_
  cases l[i].2.2.2||qv p 4 with|true=>exact h'|false=>?_
  cases decide (lf l[i] p≤((body p).length:Int))with|false=>exact h'|true=>exact put _ _ (by simp only[SA,ak,bJ];omega)
theorem yz (s:dV)(z:bK 1000000000 cw s):oX s=some s:=by simp only[oX,jn _ z.1.2.2.1,Dz _ z.2.1.1.1 z.2.1.2.1.1 z.2.1.2.2.2.1,fX z.2.2.2.1.1,fX z.2.2.2.2.1,ab,a9]
def GR (s:dV)(x:Bytes):Bool:=vG s&&(((dT x).2==0)&&(rF s.1 (dT x).1&&(xD s.2.1 s.2.2.1 (dT x).1 != -1)))
def sq (s:dV)(x:Bytes):dV:=bif GR s x then(s.1,s.2.1,s.2.2.1,nT s.2.2.2.1 (dT x).1,s.2.2.2.2) else s
theorem Ia (s:dV)(x:Bytes)(z:bK 100000000 cw s)(h:x.length≤1000000000):lQ s x=some (sq s x):=by have z9:bK 1000000000 cw s:=z.mono (by omega);unfold lQ sq GR;simp only[xY s z9,zd x h,Ic s z9.1.2.2.1 z9.2.1.1.1 z9.2.1.2.1.1 z9.2.1.2.2.2.1,H0 s.1 _ z9.1.2.2.1,Nj s.2.1 _ _ z9.2.1.1.1 z9.2.1.2.1.1 z9.2.1.2.2.2.1,H5 s.2.2.2.1 _ z.2.2.2.1,ab];cases vG s<;>cases (dT x).2==0<;>cases rF s.1 (dT x).1<;>cases xD s.2.1 s.2.2.1 (dT x).1 != -1<;>rfl
theorem Jd (s:dV)(x:Bytes)(z:bK 100000000 cw s)(h:x.length≤1000000000):mi s x=some (sq s x):=by have z9:bK 1000000000 cw s:=z.mono (by omega);unfold mi sq GR;simp only[yz s z9,zG x h,Je s z9.1.2.2.1 z9.2.1.1.1 z9.2.1.2.1.1 z9.2.1.2.2.2.1,I3 s.1 _ z9.1.2.2.1,N5 s.2.1 _ _ z9.2.1.1.1 z9.2.1.2.1.1 z9.2.1.2.2.2.1,I6 s.2.2.2.1 _ z.2.2.2.1,ab];cases vG s<;>cases (dT x).2==0<;>cases rF s.1 (dT x).1<;>cases xD s.2.1 s.2.2.1 (dT x).1 != -1<;>rfl
theorem Gq {s:dV}{x:Bytes}{n:Nat}(z:bK n cw s):bK (n+322) cw (sq s x):=by have z':bK (n+322) cw s:=z.mono (by omega);unfold sq;cases GR s x with|false=>exact z'|true=>exact⟨z'.1,z'.2.1,trivial,FJ z.2.2.2.1,z'.2.2.2.2⟩
def RL:al:=(0,0,(0,0,0),false,0,0)
def m8 (b:Int×Int×Int):Bool:=dB b.1 0 10000&&(dB b.2.1 0 100000&&dB b.2.2 0 b.2.1)
def B7 (n:Int)(f:al):Bool:=dB f.1 0 7&&(dB f.2.1 1 (aw (n-1))&&(m8 f.2.2.1&&(dB f.2.2.2.2.1 0 1000000000000&&dB f.2.2.2.2.2 0 1000000000000)))
def OX (f g:al):Bool:=(g.1==f.1)||(g.2.1==f.2.1)
def Ug (l:List al)(n:Int)(i:Nat):Bool:=B7 n (l.getD i RL)&&(List.range i).all (λj=> !(OX (l.getD i RL) (l.getD j RL)))
def eL (l:List al)(ps:List Port):Bool:=eA ps&&(List.range l.length).all (Ug l (ps.length:Int))
theorem uH (b:Int×Int×Int):kE b=some (m8 b):=by simp only[kE,cS,ab,bk,cF,m8]
theorem xm (b:Int×Int×Int):mJ b=some (m8 b):=uH b
theorem wZ (l:List al)(ps:List Port)(h:l.length≤1000000000)(h1:ps.length≤1000000000)(h2:∀p∈ps,p.2.1.length≤1000000000):jt l ps=some (eL l ps):=by
 unfold jt eL;rw[fF (hit:=some false) (fin:=some true) (Ug l (ps.length:Int)) l.length (by omega) (λi nx hi=>?hs) (λnx=>?hf)]
 case hs=>
  simp only[iD]
  rw[aj (by omega),a4 hi,wrap64 (n:=(i:Int)+1) (by omega) (by omega)]
  simp only[ae,ab,cS,uH,bk,cT]
  rw[fF (hit:=some false) (fin:=nx ((i:Int)+1)) (λj=> !(OX l[i] (l.getD j RL))) i (by omega) (λj nx' hj=>?hs2) (λnx'=>?hf2)]
  case hs2=>
   have hjl:j<l.length:=by omega
   simp only[hH]
   rw[aj (by omega),a4 hjl,wrap64 (n:=(j:Int)+1) (by omega) (by omega)]
   simp only[ae,ab,bk,cT,bI hjl,dU];rfl
  case hf2=>
   simp only[hH]
   rw[ah (by omega)];rfl
  simp only[Ug,bI hi]
  rw[show(!dB l[i].1 0 7||(!dB l[i].2.1 1 (aw ((ps.length:Int)-1))||(!m8 l[i].2.2.1||(!dB l[i].2.2.2.2.1 0 1000000000000|| !dB l[i].2.2.2.2.2 0 1000000000000))))= !B7 (ps.length:Int) l[i] by unfold B7;simp only[Bool.not_and]]
  cases B7 (ps.length:Int) l[i]<;>cases (List.range i).all (λj=> !(OX l[i] (l.getD j RL)))<;>rfl
 case hf=>
  simp only[iD]
  rw[ah (by omega)];rfl
 simp only[wy ps h1 h2,ab];cases eA ps<;>cases (List.range l.length).all (Ug l (ps.length:Int))<;>rfl
theorem wR (l:List al)(ps:List Port)(h:l.length≤1000000000)(h1:ps.length≤1000000000)(h2:∀p∈ps,p.2.1.length≤1000000000):iS l ps=some (eL l ps):=by
 unfold iS eL;rw[fF (hit:=some false) (fin:=some true) (Ug l (ps.length:Int)) l.length (by omega) (λi nx hi=>?hs) (λnx=>?hf)]
 case hs=>
  simp only[ix]
  rw[aj (by omega),a4 hi,wrap64 (n:=(i:Int)+1) (by omega) (by omega),CX l i (by omega)]
  simp only[ae,ab,dH,xm,bk,cT]
  have hti:(l.take i).length=i:=by simp;omega
  rw[hti,fF (hit:=some false) (fin:=nx ((i:Int)+1)) (λj=> !(OX l[i] (l.getD j RL))) i (by omega) (λj nx' hj=>?hs2) (λnx'=>?hf2)]
  case hs2=>
   have hjl:j<l.length:=by omega
   have hjt:j<(l.take i).length:=by omega
   simp only[iy]
   rw[aj (by omega),a4 hjt,wrap64 (n:=(j:Int)+1) (by omega) (by omega),List.getElem_take]
   simp only[ae,ab,bk,cT,bI hjl,dU];rfl
  case hf2=>
   simp only[iy]
   rw[ah (by omega)];rfl
  simp only[Ug,bI hi]
  rw[show(!dB l[i].1 0 7||(!dB l[i].2.1 1 (aw ((ps.length:Int)-1))||(!m8 l[i].2.2.1||(!dB l[i].2.2.2.2.1 0 1000000000000|| !dB l[i].2.2.2.2.2 0 1000000000000))))= !B7 (ps.length:Int) l[i] by unfold B7;simp only[Bool.not_and]]
  cases B7 (ps.length:Int) l[i]<;>cases (List.range i).all (λj=> !(OX l[i] (l.getD j RL)))<;>rfl
 case hf=>
  simp only[ix]
  rw[ah (by omega)];rfl
 simp only[wh ps h1 h2,ab];cases eA ps<;>cases (List.range l.length).all (Ug l (ps.length:Int))<;>rfl
def tx (l:List al)(i:Nat):Bool:=((l.getD i RL).1==(i:Int))&&((l.getD i RL).2.1==(i:Int)+1)
theorem Kg (l:List al)(h:l.length≤1000000000):og l=some ((List.range l.length).all (tx l)):=by
 unfold og;rw[fF (hit:=some false) (fin:=some true) (tx l) l.length (by omega) (λi nx hi=>?hs) (λnx=>?hf)]
 case hs=>
  simp only[k5]
  rw[aj (by omega),a4 hi,wrap64 (n:=(i:Int)+1) (by omega) (by omega)]
  simp only[ae,ab,bk,cT,bne,tx,bI hi]
  cases l[i].1==(i:Int)<;>cases l[i].2.1==(i:Int)+1<;>rfl
 case hf=>
  simp only[k5]
  rw[ah (by omega)];rfl
 cases (List.range l.length).all (tx l)<;>rfl
theorem GB (a b:Filter)(h:a.2.2.length≤1000000000):nE a b=some (AA a b):=xZ a b h
theorem B8:∀(ms:List aS)(i:Nat)(s:List Int×List Port),GX i s→ms.all jA=true→GX (i+ms.length) (ms.foldl w4 s)
 |[],i,s,h,_=>h
 |m::ms,i,s,h,hm=>by rw[bg,ai]at hm;have hu:=tX m.1.2.2 s.1;have hl:=tO hm.1;have:=B8 ms (i+1) (w4 s m) (h.port hm.1 _ (by omega)) hm.2;rw[cq,bD,show i+(ms.length+1)=i+1+ms.length by omega];exact this
theorem wv (ms:List aS):(dv ms).1.length≤1000000000∧∀p∈(dv ms).1,p.2.1.length≤1000000000:=by unfold dv;cases hc:dB (ms.length:Int) 1 3&&(ms.all jA&&eA (s5 ms))with|false=>exact⟨by simp,by simp⟩|true=>simp only[ai,db]at hc;have:=B8 ms 0 ([0],[]) ⟨by simp,rfl,by simp⟩ hc.2.1;rw[bE]at this;exact vD this (by omega)
def xl (w:a8)(i:Nat):Bool:=(w.1[i]?.all vG)&&AA (w.1[i]?.map (·.1)) (w.2.2.2.1[i]?.map (·.1))
def wT (w:a8):Bool:=((w.1.length:Int)==(w.2.2.2.1.length:Int))&&(((w.2.1.length:Int)==(w.2.2.2.1.length:Int))&&((w.2.2.1.length:Int)==(w.2.2.2.1.length:Int)))
def kJ (w:a8):Bool:=(dv w.2.2.2.1).2&&(wT w&&(eL w.2.2.1 (dv w.2.2.2.1).1&&((List.range w.1.length).all (xl w)&&(List.range w.1.length).all (tx w.2.2.1))))
structure ER (w:a8):Prop where
 s0:w.1.length≤1000000000
 f0:w.2.2.1.length≤1000000000
 m:∀m∈w.2.2.2.1,m.1.2.2.length≤1000000000
 s1:∀s∈w.1,s.1.2.2.length≤1000000000
 s2:∀s∈w.1,s.2.1.1.length≤1000000000
 s3:∀s∈w.1,s.2.1.2.1.length≤1000000000
 s4:∀s∈w.1,s.2.1.2.2.2.length≤1000000000
theorem Cp {w:a8}(h:wT w=true):w.1.length=w.2.2.2.1.length∧w.2.2.1.length=w.2.2.2.1.length:=by unfold wT at h;simp only[ai,aR]at h;omega
theorem D6 {w:a8}(i:Nat)(hi:i<w.1.length)(hj:i<w.2.2.2.1.length):xl w i=(vG w.1[i]&&AA w.1[i].1 w.2.2.2.1[i].1):=by unfold xl;rw[List.getElem?_eq_getElem hi,List.getElem?_eq_getElem hj];congr 1;apply FQ;rw[vW];simp
theorem EA (w:a8)(z:ER w):oP w=some (kJ w):=by
 have hp:=wv w.2.2.2.1;unfold oP kJ;simp only[qn _ z.m,wZ _ _ z.f0 hp.1 hp.2,ab,bk,cT,bne];rw[show((!((w.1.length:Int)==(w.2.2.2.1.length:Int)))||((!((w.2.1.length:Int)==(w.2.2.2.1.length:Int)))||((!((w.2.2.1.length:Int)==(w.2.2.2.1.length:Int)))|| !eL w.2.2.1 (dv w.2.2.2.1).1)))= !(wT w&&eL w.2.2.1 (dv w.2.2.2.1).1) by unfold wT;simp only[Bool.not_and,Bool.or_assoc]];cases (dv w.2.2.2.1).2 with|false=>rfl|true=>?_
 cases hl:wT w with|false=>rfl|true=>?_
 cases eL w.2.2.1 (dv w.2.2.2.1).1 with|false=>rfl|true=>?_
 have hL:=Cp hl;have h0:=z.s0;simp only[au,cX,gm,af,bm];rw[fF (hit:=some false) (fin:=some true) (λi=>xl w i&&tx w.2.2.1 i) w.2.2.2.1.length (by omega) (λi nx hi=>?hs) (λnx=>?hf)]
 case hs=>
  have q1:i<w.1.length:=by omega
  have q2:i<w.2.2.1.length:=by omega
  have hm:=aG q1
  rw[D6 i q1 hi]
  simp only[nm]
  rw[aj (by omega),a4 q1,a4 hi,a4 q2,wrap64 (n:=(i:Int)+1) (by omega) (by omega)]
  simp only[ae,ab,Je _ (z.s1 _ hm) (z.s2 _ hm) (z.s3 _ hm) (z.s4 _ hm),GB _ _ (z.s1 _ hm),bk,cT,bne,tx,bI q2]
  cases vG w.1[i]<;>cases AA w.1[i].1 w.2.2.2.1[i].1<;>cases w.2.2.1[i].1==(i:Int)<;>cases w.2.2.1[i].2.1==(i:Int)+1<;>rfl
 case hf=>
  simp only[nm]
  rw[ah (by omega)];rfl
 have e:∀(l:List Nat)(p q:Nat→Bool),l.all (λx=>p x&&q x)=(l.all p&&l.all q):=by intro l p q;induction l with|nil=>rfl|cons x l ih=>simp only[bg,ih];cases p x<;>cases q x<;>cases l.all p<;>rfl
 rw[e,←hL.1];cases (List.range w.1.length).all (xl w)<;>cases (List.range w.1.length).all (tx w.2.2.1)<;>rfl
theorem D9 (w:a8)(z:ER w):n7 w=some (kJ w):=by
 have hp:=wv w.2.2.2.1;unfold n7 kJ;simp only[sJ _ z.m,wR _ _ z.f0 hp.1 hp.2,Kg _ z.f0,ab,bk,cT,cF,bne];rw[show((!((w.1.length:Int)==(w.2.2.2.1.length:Int)))||((!((w.2.1.length:Int)==(w.2.2.2.1.length:Int)))|| !((w.2.2.1.length:Int)==(w.2.2.2.1.length:Int))))= !(wT w) by unfold wT;simp only[Bool.not_and]];cases (dv w.2.2.2.1).2 with|false=>rfl|true=>?_
 cases hl:wT w with|false=>rfl|true=>?_
 have hL:=Cp hl;have h0:=z.s0;simp only[au,cX,af,bm];rw[fF (hit:=some false) (fin:=some (eL w.2.2.1 (dv w.2.2.2.1).1&&(List.range w.2.2.1.length).all (tx w.2.2.1))) (xl w) w.1.length (by omega) (λi nx hi=>?hs) (λnx=>?hf)]
 case hs=>
  have q1:i<w.2.2.2.1.length:=by omega
  have hm:=aG hi
  rw[D6 i hi q1]
  simp only[na]
  rw[aj (by omega),a4 hi,a4 q1,wrap64 (n:=(i:Int)+1) (by omega) (by omega)]
  simp only[ae,ab,Ic _ (z.s1 _ hm) (z.s2 _ hm) (z.s3 _ hm) (z.s4 _ hm),xZ _ _ (z.s1 _ hm),bk,cT]
  cases vG w.1[i]<;>cases AA w.1[i].1 w.2.2.2.1[i].1<;>rfl
 case hf=>
  simp only[na]
  rw[ah (by omega)];rfl
 rw[hL.2,←hL.1];cases (List.range w.1.length).all (xl w)<;>cases (List.range w.1.length).all (tx w.2.2.1)<;>cases eL w.2.2.1 (dv w.2.2.2.1).1<;>rfl
theorem qy (m:aS)(h:m.1.2.2.length≤1000000000):gq m=some m:=by simp only[gq,iO _ h,ab]
theorem nk (m:aS)(h:m.1.2.2.length≤1000000000):jY m=some m:=by simp only[jY,jn _ h,ab]
theorem wQ (l:List aS)(h:l.length≤1000000000)(hx:∀m∈l,m.1.2.2.length≤1000000000):lq l=some l:=by unfold lq;refine(cu (λi=>(l.take i,(i:Int))) l.length (by omega) (λi nx hi=>?_) (λnx=>?_));simp only[kW];rw[aj (by omega),a4 hi,wrap64 (by omega) (by omega)];simp only[ae,ab,qy _ (hx _ (aG hi))];rw[aM (by simp;omega),←bB hi];rfl;simp only[kW];rw[ah (by omega),bG];rfl
theorem nX (l:List al)(h:l.length≤1000000000):eV l=some l:=by simp only[eV,fX h,a9]
end
end Go.Pu
