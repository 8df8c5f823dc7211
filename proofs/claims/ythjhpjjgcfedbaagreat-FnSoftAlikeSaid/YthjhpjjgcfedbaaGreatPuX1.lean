import Derived.Test.YthjhpjjgcfedbaaGreatDnData
import Derived.Test.YthjhpjjgcfedbaaGreatPure
namespace Go.Pu
open Go.Dn
set_option linter.unusedSimpArgs false
set_option linter.unusedVariables false
noncomputable section
/- Plain laws of the partial operations and of loops. -/
theorem wrap64 {n:Int}(h1: -9223372036854775808≤n)(h2:n≤9223372036854775807):ar n=n:=by simp only[ar,dK,IntKind.wrap,IntKind.bits,IntKind.signed];simp;omega
@[simp] theorem ae {α R:Type}(a:α)(k:α→Option R):aa (some a) k=k a:=rfl
@[simp] theorem OY {α R:Type}(k:α→Option R):aa none k=none:=rfl
@[simp] theorem rG {α R:Type}(c:Bool)(x y:α)(k:α→Option R):aa (cond c (some x) (some y)) k=k (cond c x y):=by cases c<;>rfl
theorem bm {α:Type}(c:Bool)(x y:α):cond c (some x) (some y)=some (cond c x y):=by cases c<;>rfl
theorem aS {R:Type}{n:Nat}{k:Option R}(h:n≤1073741824):room n k=k:=by simp[room,h]
theorem B3 {α:Type}(xs:List α)(i:Nat):idx xs (i:Int)=xs[i]?:=rfl
theorem bD {α:Type}{xs:List α}{i:Nat}(h:i<xs.length):idx xs (i:Int)=some xs[i]:=by rw[B3];exact List.getElem?_eq_getElem h
def OK {σ R:Type}(step:Nat→σ→(σ→Option R)→Option R)(fin:σ→Option R)(N:Nat):Nat→Nat→σ→Option R
 |0,_,s=>fin s
 |n+1,i,s=>step i s (λs'=>OK step fin N n (i+1) s')
theorem uJ {X σ R:Type}{T:(X→Option R)→X→Option R}(N:Nat)(e:σ→Nat→X)(step:Nat→σ→(σ→Option R)→Option R)(fin:σ→Option R)(hs:∀i s nx,i<N→T nx (e s i)=step i s (λs'=>nx (e s' (i+1))))(hf:∀s nx,T nx (e s N)=fin s): ∀n i s,i≤N→N-i<n→aZ T n (e s i)=OK step fin N (N-i) i s:=by
 intro n;induction n with
 |zero=>intro i s _ h;omega
 |succ n ih=>
  intro i s hi hn;rw[aZ];rcases bd i N with hlt|hge;rw[hs i s _ hlt,show N-i=(N-(i+1))+1 by omega,OK];congr 1;funext s';exact ih (i+1) s' (by omega) (by omega);have:i=N:=by omega
  subst this;rw[hf,fN,OK]
def rK {α σ R:Type}(step:α→σ→(σ→Option R)→Option R)(fin:σ→Option R):List α→σ→Option R
 |[],s=>fin s
 |x::xs,s=>step x s (rK step fin xs)
theorem ta {α X σ R:Type}{T:(X→Option R)→X→Option R}(xs:List α)(e:σ→Nat→X)(step:α→σ→(σ→Option R)→Option R)(fin:σ→Option R)(hs:∀i (h:i<xs.length) s nx,T nx (e s i)=step xs[i] s (λs'=>nx (e s' (i+1))))(hf:∀s nx,T nx (e s xs.length)=fin s): ∀n i s,i≤xs.length→xs.length-i<n→aZ T n (e s i)=rK step fin (xs.drop i) s:=by
 intro n;induction n with
 |zero=>intro i s _ h;omega
 |succ n ih=>
  intro i s hi hn;rw[aZ];rcases bd i xs.length with hlt|hge;rw[hs i hlt s _,a6 hlt,rK];congr 1;funext s';exact ih (i+1) s' (by omega) (by omega);have:i=xs.length:=by omega
  subst this;rw[hf,dC,rK]
def Fm:(t:CT)→t.D→Nat
 | .int _,_=>0
 | .bool,_=>0
 | .str,s=>s.length
 | .sl e,xs=>xs.length+(xs.map (Fm e)).sum
 | .pair a b,x=>Fm a x.1+Fm b x.2
def jA (n:Nat):(t:CT)→t.D→Prop
 | .int _,_=>True
 | .bool,_=>True
 | .str,s=>s.length≤n
 | .sl e,xs=>xs.length≤n∧∀x∈xs,jA n e x
 | .pair a b,x=>jA n a x.1∧jA n b x.2
theorem yz {α:Type}(f:α→Nat):∀(xs:List α)(x:α),x∈xs→f x≤(xs.map f).sum
 |y::ys,x,h=>by rcases bl.1 h with rfl|h;simp;have:=yz f ys x h;simp;omega
theorem xl {n:Nat}:∀{t:CT}{x:t.D},Fm t x≤n→jA n t x
 | .int _,_,_=>trivial
 | .bool,_,_=>trivial
 | .str,_,h=>h
 | .sl e,xs,h=>by simp only[Fm]at h;exact⟨by omega,λx hx=>xl (by have:=yz (Fm e) xs x hx;omega)⟩
 | .pair a b,x,h=>by simp only[Fm]at h;exact⟨xl (by omega),xl (by omega)⟩
theorem jA.mono {n m:Nat}(h:n≤m):∀{t:CT}{x:t.D},jA n t x→jA m t x
 | .int _,_,_=>trivial
 | .bool,_,_=>trivial
 | .str,_,k=>bO k h
 | .sl _,_,k=>⟨bO k.1 h,λx hx=>jA.mono h (k.2 x hx)⟩
 | .pair _ _,_,k=>⟨jA.mono h k.1,jA.mono h k.2⟩
def J9:(t:CT)→t.D→Prop
 | .int k,n=>k.min≤n∧n≤k.max
 | .bool,_=>True
 | .str,s=>s.length≤9223372036854775807
 | .sl e,xs=>xs.length≤9223372036854775807∧∀x∈xs,J9 e x
 | .pair a b,x=>J9 a x.1∧J9 b x.2
def jt (l n:Int):Int:=if n≤l then l-n else-1
def xm {α R:Type}(f:α→Int→Option Int)(k0:Int→Int→Option R)(k1:Int→Int→Int→Option R)(v0:List α)(nx:Int×Int→Option R)(x:Int×Int):Option R:=
 cond (decide (x.2<((List.length v0:Int)))) (
  aa (idx v0 x.2) λx1=>
  aa (f x1 x.1) λr2=>
  cond (decide (r2<0)) (
   k1 r2 (-1) x.2) (
   nx (r2,ar (x.2+1)))) (
  k0 x.1 x.2)
noncomputable def CF {α:Type}(f:α→Int→Option Int)(a0:List α)(a1:Int):Option Int:=
 cond (decide ((ar (a1-((List.length a0:Int))))<0)) (
  some (-1)) (
  aZ (xm f (λy3 _=>some y3) (λ_ y6 _=>some y6) a0) fuel (ar (a1-((List.length a0:Int))),0))
theorem Hc {α:Type}{f:α→Int→Option Int}{s:α→Nat}{a:List α}{l:Int}(h0:0≤l)(h1:l≤1048576)(hm:a.length≤9223372036854775807)(hf:∀x∈a,∀l:Int,0≤l→l≤1048576→∃r,f x l=some r∧((s x:Int)≤l→r=l-s x)∧(¬(s x:Int)≤l→r<0)):CF f a l=some (jt l ((a.length+(a.map s).sum:Nat):Int)):=by
 unfold CF;have hfu:=dY;rw[wrap64 (by omega) (by omega)];rcases Int.lt_or_le (l-a.length) 0 with hneg|hpos;rw[ak hneg];simp only[ah,jt];rw[aq (by omega)];rw[af (by omega)];simp only[ai];have key:=ta (T:=xm f (λy3 _=>some y3) (λ_ y6 _=>some y6) a) a (λ(q:Int) i=>(q,(i:Int))) (λx q k=>aa (f x q) λr=>cond (decide (r<0)) (some (-1)) (k r)) (λq=>some q) (λi hi q nx=>by simp only[xm];rw[ak (by omega)];simp only[ah,bD hi,ae];rw[wrap64 (by omega) (by omega)];rfl) (λq nx=>by simp only[xm];rw[af (by omega)];rfl) fuel 0 (l-a.length) (by omega) (by omega);have e:((0:Nat):Int)=0:=rfl;rw[e,cS]at key;rw[key];have main:∀(b:List α)(q:Int),0≤q→q≤1048576→(∀x∈b,x∈a)→rK (λx q k=>aa (f x q) λr=>cond (decide (r<0)) (some (-1)) (k r)) (λq=>some q) b q=some (jt q ((b.map s).sum:Nat)):=by intro b;induction b with|nil=>intro q hq _ _;simp[rK,jt,hq]|cons x b ih=>intro q hq hq2 hb;obtain⟨r,hr,hr1,hr2⟩:=hf x (hb x (by simp)) q hq hq2;rw[rK,hr,ae];by_cases hle:(s x:Int)≤q;have:=hr1 hle;subst this;rw[af (by omega)];simp only[ai];rw[ih _ (by omega) (by omega) (λy hy=>hb y (by simp[hy]))];simp only[jt,cl,List.sum_cons];congr 1;split<;>split<;>omega;rw[ak (hr2 hle)];simp only[ah,jt,cl,List.sum_cons];rw[aq (by omega)]
 rw[main a _ (by omega) (by omega) (λx h=>h)];simp only[jt];congr 1;split<;>split<;>omega
def Bh (f:Int→Option Int)(n:Nat):Prop:=∀l:Int,0≤l→l≤1048576→f l=some (jt l n)
theorem Bh.nil:Bh (λl=>some l) 0:=λl h0 _=>by simp[jt,h0]
theorem Bh.sub {f k:Int→Option Int}{n m:Nat}(hf:Bh f n)(h:Bh k m):Bh (λl=>aa (f l) λr=>cond (decide (r<0)) (some (-1)) (k r)) (n+m):=by
 intro l h0 h1;simp only;rw[hf l h0 h1,ae];by_cases hl:(n:Int)≤l;have e:jt l n=l-n:=by simp[jt,hl]
 rw[e,af (by omega)];simp only[ai];rw[h _ (by omega) (by omega)];simp only[jt];congr 1;split<;>split<;>omega;have e:jt l n= -1:=by simp[jt,hl]
 rw[e];simp only[jt];rw[aq (by omega)];rfl
theorem Bh.list {α:Type}{f:α→Int→Option Int}{s:α→Nat}{a:List α}(hm:a.length≤9223372036854775807)(hf:∀x∈a,Bh (f x) (s x)):Bh (CF f a) (a.length+(a.map s).sum):=λ_ h0 h1=>Hc h0 h1 hm (λx hx l h0 h1=>⟨_,hf x hx l h0 h1,λh=>by simp[jt,h],λh=>by simp[jt,h]⟩)
theorem CO {α R:Type}{T:(Int→Option R)→Int→Option R}{fin hit:Option R}(p:α→Bool)(a:List α)(h:a.length≤1000000000000)(hs:∀i (hi:i<a.length) nx,T nx (i:Int)=cond (p a[i]) hit (nx ((i+1:Nat):Int)))(hf:∀nx,T nx (a.length:Int)=fin): aZ T fuel 0=cond (a.any p) hit fin:=by
 have hfu:=dY;have key:∀n i,i≤a.length→a.length-i<n→aZ T n (i:Int)=cond ((a.drop i).any p) hit fin:=by
  intro n;induction n with
  |zero=>intro i _ h;omega
  |succ n ih=>
   intro i hi hn;rw[aZ];rcases bd i a.length with hlt|hge;rw[hs i hlt,a6 hlt,List.any_cons];cases hq:p a[i]with|true=>rfl|false=>exact ih (i+1) (by omega) (by omega)
   have:i=a.length:=by omega
   subst this;rw[hf,dC];rfl
 exact key fuel 0 (by omega) (by omega)
theorem lr {R:Type}{T:(Int→Option R)→Int→Option R}{fin hit:Option R}(p:Nat→Bool)(N:Nat)(h:N≤1000000000000)(hs:∀i nx,i<N→T nx (i:Int)=cond (!(p i)) hit (nx ((i+1:Nat):Int)))(hf:∀nx,T nx (N:Int)=fin): aZ T fuel 0=cond ((List.range N).all p) fin hit:=by
 have hfu:=dY;have key:∀n i,i≤N→N-i<n→aZ T n (i:Int)=cond ((List.range' i (N-i)).all p) fin hit:=by
  intro n;induction n with
  |zero=>intro i _ h;omega
  |succ n ih=>
   intro i hi hn;rw[aZ];rcases bd i N with hlt|hge;rw[hs i _ hlt,show N-i=(N-(i+1))+1 by omega,List.range'_succ,ba];cases hq:p i with|false=>rfl|true=>exact ih (i+1) (by omega) (by omega)
   have:i=N:=by omega
   subst this;rw[hf,fN];rfl
 have:=key fuel 0 (by omega) (by omega);rw[Nat.sub_zero,←List.range_eq_range']at this;exact this
theorem lq {α R:Type}{T:(Int→Option R)→Int→Option R}{fin hit:Option R}(p:α→Bool)(a:List α)(h:a.length≤1000000000000)(hs:∀i (hi:i<a.length) nx,T nx (i:Int)=cond (!(p a[i])) hit (nx ((i+1:Nat):Int)))(hf:∀nx,T nx (a.length:Int)=fin): aZ T fuel 0=cond (a.all p) fin hit:=by
 have:=CO (T:=T) (fin:=fin) (hit:=hit) (λx=> !(p x)) a h hs hf;rw[this];have e:a.any (λx=> !(p x))= !(a.all p):=by rw[bT];simp
 rw[e];cases a.all p<;>rfl
theorem Ag {X R:Type}{T:(X→Option R)→X→Option R}{fin hit:Option R}(e:Nat→X)(p:Nat→Bool)(N:Nat)(h:N≤1000000000000)(hs:∀i nx,i<N→(∀j,j<i→p j=true)→T nx (e i)=cond (!(p i)) hit (nx (e (i+1))))(hf:(∀j,j<N→p j=true)→∀nx,T nx (e N)=fin): aZ T fuel (e 0)=cond ((List.range N).all p) fin hit:=by
 have hfu:=dY;have key:∀n i,i≤N→N-i<n→(∀j,j<i→p j=true)→aZ T n (e i)=cond ((List.range' i (N-i)).all p) fin hit:=by
  intro n;induction n with
  |zero=>intro i _ h;omega
  |succ n ih=>
   intro i hi hn hp;rw[aZ];rcases bd i N with hlt|hge;rw[hs i _ hlt hp,show N-i=(N-(i+1))+1 by omega,List.range'_succ,ba];cases hq:p i with|false=>rfl|true=>refine ih (i+1) (by omega) (by omega) λj hj=>?_;by_cases hji:j=i;rw[hji];exact hq;exact hp j (by omega)
   have:i=N:=by omega
   subst this;rw[hf hp,fN];rfl
 have:=key fuel 0 (by omega) (by omega) (λj hj=>absurd hj (by omega));rw[Nat.sub_zero,←List.range_eq_range']at this;exact this
theorem sZ {α R:Type}{T:(Int→Option R)→Int→Option R}{fin:Option R}{hit:Int→Option R}(p:α→Bool)(a:List α)(h:a.length≤1000000000000)(hs:∀i (hi:i<a.length) nx,T nx (i:Int)=cond (p a[i]) (hit (i:Int)) (nx ((i+1:Nat):Int)))(hf:∀nx,T nx (a.length:Int)=fin): aZ T fuel 0=(match a.findIdx? p with|some i=>hit (i:Int)|none=>fin):=by
 have hfu:=dY;have key:∀n i,i≤a.length→a.length-i<n→aZ T n (i:Int)=(match (a.drop i).findIdx? p with|some j=>hit ((i+j:Nat):Int)|none=>fin):=by
  intro n;induction n with
  |zero=>intro i _ h;omega
  |succ n ih=>
   intro i hi hn;rw[aZ];rcases bd i a.length with hlt|hge;rw[hs i hlt,a6 hlt,List.findIdx?_cons];cases hq:p a[i]with|true=>rfl|false=>have:=ih (i+1) (by omega) (by omega);simp only[ai];refine this.trans ?_;cases (a.drop (i+1)).findIdx? p with|none=>rfl|some j=>simp only[bQ,aD,bf];congr 2;omega
   have:i=a.length:=by omega
   subst this;rw[hf,dC];rfl
 have:=key fuel 0 (by omega) (by omega);refine this.trans ?_;rw[cS];cases a.findIdx? p with|none=>rfl|some j=>simp only[bG]
theorem cF (a b:Bool):(bif a then b else false)=(a&&b):=by cases a<;>rfl
theorem cT (a b:Bool):(bif a then true else b)=(a||b):=by cases a<;>rfl
theorem cN (a b:Bool):(bif a then false else b)=(!a&&b):=by cases a<;>rfl
def GU {α σ R:Type}(g:α→σ→Except (Option R) σ)(fin:σ→Option R):List α→σ→Option R
 |[],s=>fin s
 |x::xs,s=>match g x s with| .error r=>r| .ok s'=>GU g fin xs s'
theorem EP {α X σ R:Type}{T:(X→Option R)→X→Option R}(xs:List α)(e:σ→Nat→X)(Inv:Nat→σ→Prop)(g:α→σ→Except (Option R) σ)(fin:σ→Option R)(h:xs.length≤1000000000000)(hs:∀i (hi:i<xs.length) s nx,Inv i s→T nx (e s i)=match g xs[i] s with| .error r=>r| .ok s'=>nx (e s' (i+1)))(hn:∀i (hi:i<xs.length) s s',Inv i s→g xs[i] s=.ok s'→Inv (i+1) s')(hf:∀s nx,Inv xs.length s→T nx (e s xs.length)=fin s)(s:σ)(h0:Inv 0 s): aZ T fuel (e s 0)=GU g fin xs s:=by
 have key:∀n i s,i≤xs.length→xs.length-i<n→Inv i s→aZ T n (e s i)=GU g fin (xs.drop i) s:=by
  intro n;induction n with
  |zero=>intro i s _ h;omega
  |succ n ih=>
   intro i s hi hn' hI;rw[aZ];rcases bd i xs.length with hlt|hge;rw[hs i hlt s _ hI,a6 hlt,GU];cases hg:g xs[i] s with|error r=>rfl|ok s'=>exact ih (i+1) s' (by omega) (by omega) (hn i hlt s s' hI hg)
   have:i=xs.length:=by omega
   subst this;rw[hf s _ hI,dC,GU]
 have hfu:=dY;have:=key fuel 0 s (by omega) (by omega) h0;rwa[cS]at this
theorem Cq {α σ R:Type}(f:σ→α→σ)(fin:σ→Option R):∀(xs:List α)(s:σ),GU (λx s=> .ok (f s x)) fin xs s=fin (xs.foldl f s)
 |[],_=>rfl
 |x::xs,s=>by rw[GU];exact Cq f fin xs (f s x)
theorem fR {X R:Type}{T:(X→Option R)→X→Option R}{fin:Option R}(e:Nat→X)(N:Nat)(h:N≤1000000000000)(hs:∀i nx,i<N→T nx (e i)=nx (e (i+1)))(hf:∀nx,T nx (e N)=fin):aZ T fuel (e 0)=fin:=by rw[Ag (hit:=fin) (fin:=fin) e (λ_=>true) N h (λi nx hi _=>by rw[hs i nx hi];rfl) (λ_ nx=>hf nx)];cases (List.range N).all (λ_=>true)<;>rfl
theorem kH {α R:Type}{l:List α}{k:Option R}(h:l.length≤1000000000):room (List.length ([]:List α)+l.length) k=k:=aS (by simp only[List.length_nil];omega)
def Ends {α:Type}(o:Option α)(P:α→Prop):Prop:=∃x,o=some x∧P x
theorem Ends.pure {α:Type}{x:α}{P:α→Prop}(h:P x):Ends (some x) P:=⟨x,rfl,h⟩
theorem Ends.bind {α R:Type}{o:Option α}{P:α→Prop}{k:α→Option R}{Q:R→Prop}(h:Ends o P)(hk:∀x,P x→Ends (k x) Q):Ends (aa o k) Q:=by obtain⟨x,rfl,hx⟩:=h;exact hk x hx
theorem Ends.mono {α:Type}{o:Option α}{P Q:α→Prop}(h:Ends o P)(hq:∀x,P x→Q x):Ends o Q:=by obtain⟨x,hx,hp⟩:=h;exact⟨x,hx,hq x hp⟩
theorem Ends.cond {α:Type}{c:Bool}{a b:Option α}{P:α→Prop}(h1:c=true→Ends a P)(h2:c=false→Ends b P):Ends (cond c a b) P:=by cases c with|true=>exact h1 rfl|false=>exact h2 rfl
theorem Ends.N2 {α:Type}{p:Prop}[Decidable p]{a:Option α}{P:α→Prop}(h:¬p)(ha:Ends a P):Ends (if p then none else a) P:=by rw[aq h];exact ha
theorem Ends.room {α:Type}{n:Nat}{k:Option α}{P:α→Prop}(h:n≤1073741824)(hk:Ends k P):Ends (room n k) P:=by rw[aS h];exact hk
theorem Ends.of {α:Type}{o:Option α}{x:α}{P:α→Prop}(h:o=some x)(hp:P x):Ends o P:=⟨x,h,hp⟩
theorem Ends.iter {σ R:Type}{T:(σ→Option R)→σ→Option R}{Q:R→Prop}(I:σ→Prop)(m:σ→Nat)(hs:∀x nx,I x→(∀y,I y→m y<m x→Ends (nx y) Q)→Ends (T nx x) Q): ∀n x,I x→m x<n→Ends (aZ T n x) Q:=by intro n;induction n with|zero=>intro x _ h;omega|succ n ih=>intro x hx hm;rw[aZ];exact hs x _ hx λy hy hlt=>ih y hy (by omega)
theorem Ends.l6 {σ R:Type}{T:(σ→Option R)→σ→Option R}{Q:R→Prop}(I:σ→Prop)(m:σ→Nat){x:σ}(hx:I x)(hm:m x≤1000000000000)(hs:∀x nx,I x→(∀y,I y→m y<m x→Ends (nx y) Q)→Ends (T nx x) Q):Ends (aZ T fuel x) Q:=Ends.iter I m hs fuel x hx (by have:=dY;omega)
theorem Ends.idx {α R:Type}{xs:List α}{i:Int}{k:α→Option R}{Q:R→Prop}(h0:0≤i)(h1:i<(xs.length:Int))(hk:∀(h:i.toNat<xs.length),Ends (k xs[i.toNat]) Q):Ends (aa (idx xs i) k) Q:=by
 obtain⟨n,rfl⟩:=bg h0;have hn:n<xs.length:=by omega
 rw[bD hn,ae];exact hk (by simpa using hn)
abbrev oZ:=List Int×Int×Int
def Cu (c:oZ):Prop:=0≤c.2.1∧c.2.1≤(c.1.length:Int)∧c.1.length≤1048576
theorem Kg (x y:Int)(n:Nat)(hy:(BitVec.ofInt (IntKind.bits .i64) y).toNat=n)(hn:n<9223372036854775808):0≤ar (BitVec.toNat (BitVec.ofInt (IntKind.bits .i64) x&&&BitVec.ofInt (IntKind.bits .i64) y))∧ar (BitVec.toNat (BitVec.ofInt (IntKind.bits .i64) x&&&BitVec.ofInt (IntKind.bits .i64) y))≤n:=by
 have h:(BitVec.ofInt (IntKind.bits .i64) x&&&BitVec.ofInt (IntKind.bits .i64) y).toNat≤n:=by rw[BitVec.toNat_and,hy];exact Nat.and_le_right
 generalize (BitVec.ofInt (IntKind.bits .i64) x&&&BitVec.ofInt (IntKind.bits .i64) y).toNat=k at h;rw[wrap64 (by omega) (by omega)];omega
theorem QJ {a:List Int}(ha:a.length≤1048576):Ends (qg a) Cu:=by
 unfold qg;refine Ends.l6 (λx=>0≤x.2∧x.2≤4000) (λx=>(4000-x.2).toNat) ⟨by omega,by omega⟩ (by simp) λx nx hx hn=>?_;unfold pF;refine Ends.bind (P:=λb=>b=true→x.2<(a.length:Int)∧x.2<4000) (Ends.cond (λh=>Ends.pure λh2=>⟨aL h,aL h2⟩) λh=>Ends.pure λh2=>by cases h2) λq hq=>?_;refine Ends.cond (λh=>?_) (λh=>Ends.pure ⟨ed _,by simp,ha⟩);have hq:=hq h;refine Ends.idx hx.1 hq.1 λ_=>hn _ ⟨?_,?_⟩ ?_;all_goals simp only[wrap64 (n:=x.2+1) (by omega) (by omega)]
 all_goals omega
theorem sW {c:oZ}(h:Cu c):Ends (fi c) λr=>(0≤r.1∧r.1≤255)∧Cu r.2:=by
 unfold fi;refine Ends.N2 (by decide) (Ends.N2 (by decide) (Ends.cond (λh1=>?_) λh1=>?_))
 ·have h1:=aL h1;refine Ends.idx h.1 h1 λ_=>Ends.pure ⟨Kg _ 255 255 rfl (by decide),?_⟩;refine⟨?_,?_,h.2.2⟩;all_goals simp only[wrap64 (n:=c.2.1+1) (by have:=h.1;omega) (by have:=h.2.2;omega)]
  have:=h.1;omega;omega
 exact Ends.pure ⟨Kg _ 255 255 rfl (by decide),h.1,h.2.1,h.2.2⟩
theorem dA {c:oZ}(h:Cu c){n:Int}(hn:0<n):Ends (bj c n) λr=>(0≤r.1∧r.1<n)∧Cu r.2:=by unfold bj;rw[af (by omega)];simp only[ai];refine Ends.cond (λh1=>?_) λh1=>?_;refine(sW h).bind λr hr=>Ends.N2 (by omega) (Ends.pure ⟨⟨Int.tmod_nonneg _ hr.1.1,Int.tmod_lt_of_pos _ hn⟩,hr.2⟩);refine(sW h).bind λr2 h2=>(sW h2.2).bind λr3 h3=>(sW h3.2).bind λr4 h4=>(sW h4.2).bind λr5 h5=>Ends.N2 (by omega) (Ends.pure ⟨⟨Int.tmod_nonneg _ ?_,Int.tmod_lt_of_pos _ hn⟩,h5.2⟩);have a2:=h2.1;have a3:=h3.1;have a4:=h4.1;have a5:=h5.1;rw[wrap64 (n:=r2.1*16777216) (by omega) (by omega),wrap64 (n:=r3.1*65536) (by omega) (by omega),wrap64 (n:=r4.1*256) (by omega) (by omega)];rw[wrap64 (n:=r2.1*16777216+r3.1*65536) (by omega) (by omega)];rw[wrap64 (n:=r2.1*16777216+r3.1*65536+r4.1*256) (by omega) (by omega)];rw[wrap64 (by omega) (by omega)];omega
theorem uj {c:oZ}(h:Cu c)(n:Int):Ends (bj c n) λr=>(0≤r.1∧(r.1<n∨r.1=0))∧Cu r.2:=by
 rcases Int.lt_or_le 0 n with hn|hn;exact(dA h hn).mono λr hr=>⟨⟨hr.1.1,Or.inl hr.1.2⟩,hr.2⟩
 unfold bj;rw[ak hn];exact Ends.pure ⟨⟨ed _,Or.inr rfl⟩,h⟩
theorem nn {c:oZ}(h:Cu c)(n:Int):Ends (dz c n) λr=>Cu r.2:=by unfold dz;exact(uj h n).bind λr hr=>Ends.pure hr.2
theorem eo {c:oZ}(h:Cu c){l:List Int}{P:Int→Prop}(hl:0<l.length)(hp:∀x∈l,P x):Ends (bq c l) λr=>P r.1∧Cu r.2:=by unfold bq;exact(dA h (by omega)).bind λr hr=>Ends.idx hr.1.1 hr.1.2 λhi=>Ends.pure ⟨hp _ (bP hi),hr.2⟩
theorem vg {c:oZ}(h:Cu c)(n:Int):Ends (gj c n) λr=>(r.1.length≤5000∧(0≤n→n≤5000→(r.1.length:Int)=n)∧(n≤0→r.1=[]))∧Cu r.2:=by
 have key:∀v:Int,v≤5000→∀Q:(Bytes×oZ)→Prop,(∀x c,((x.length:Int)=v∨(v≤0∧x=[]))→Cu c→Q (bytesOf x,c))→Ends (aZ (ix (λy _ z=>some (bytesOf y,z)) v) fuel (([]:List Int),0,c)) Q:=by
  intro v hv Q hQ;refine Ends.l6 (λx=>(x.1.length:Int)=x.2.1∧(x.2.1≤v∨x.2.1=0)∧Cu x.2.2) (λx=>(v-x.2.1).toNat) ⟨rfl,Or.inr rfl,h⟩ (by simp;omega) λx nx hx hn=>?_;unfold ix;refine Ends.cond (λh1=>?_) λh1=>Ends.pure (hQ _ _ ?_ hx.2.2)
  ·have h1:=aL h1;refine(sW hx.2.2).bind λr hr=>Ends.room (by simp;omega) (hn _ ⟨?_,?_,hr.2⟩ ?_);all_goals simp only[wrap64 (n:=x.2.1+1) (by omega) (by omega)]
   simp;omega;omega;omega
  have h1:=of_decide_eq_false h1;rcases hx.2.1 with h2|h2;exact Or.inl (by omega);rcases Int.lt_or_le 0 v with h3|h3;omega;exact Or.inr ⟨h3,bk (by omega)⟩
 have hb:∀x:List Int,(bytesOf x).length=x.length:=λx=>by simp[bytesOf]
 unfold gj;refine Ends.cond (λh1=>?_) λh1=>?_;have h1:=aL h1;refine key 5000 (by omega) _ λx c hx hc=>⟨⟨by rw[hb];rcases hx with hx|hx<;>omega,λ_ _=>by omega,λ_=>by omega⟩,hc⟩
 have h1:=of_decide_eq_false h1;refine key n (by omega) _ λx c hx hc=>⟨⟨?_,λh0 _=>?_,λh0=>?_⟩,hc⟩
 rw[hb];rcases hx with hx|hx;omega;rw[hx.2];simp;rw[hb];rcases hx with hx|hx;omega;rw[hx.2];simp;omega;rcases hx with hx|hx;have:x=[]:=bk (by omega);rw[this];rfl;rw[hx.2];rfl
theorem OX {a:List Int}{k:Bool→Option Bool}(ht:k true=some true)(hk:a.length≤1048576→Ends (k false) (λb=>b=true)):Ends (aa (uK a) k) (λb=>b=true):=by unfold uK;rw[ae];by_cases h:((a.length:Int))>1048576;rw[ak h,ht];exact Ends.pure rfl;rw[af h];exact hk (by omega)
theorem Ends.true {o:Option Bool}(h:Ends o (λb=>b=true)):o=some true:=by obtain⟨x,h1,rfl⟩:=h;exact h1
theorem vW (l:List Stream)(h:l.length≤1000000000):jR l l=some true:=by refine Ends.true ?_;unfold jR;rw[bne_self_eq_false,ai];refine Ends.l6 (λx=>0≤x∧x≤(l.length:Int)) (λx=>((l.length:Int)-x).toNat) ⟨by omega,by omega⟩ (by omega) λx nx hx hn=>?_;unfold ko;refine Ends.cond (λk=>?_) λ_=>Ends.pure rfl;have k:=aL k;refine Ends.idx hx.1 k λ_=>Ends.idx hx.1 k λ_=>?_;simp only[beq_self_eq_true,fy,aw,ai];rw[wrap64 (by omega) (by omega)];exact hn _ ⟨by omega,by omega⟩ (by omega)
def cQ (a lo hi:Int):Bool:=decide (lo≤a)&&decide (a≤hi)
theorem br {a lo hi:Int}:cQ a lo hi=true↔lo≤a∧a≤hi:=by simp[cQ]
theorem cu (a b c:Int):aH a b c=some (cQ a b c):=by simp only[aH,bm,ae,cQ];cases h:decide (a≥b)<;>rfl
theorem dq (a b c:Int):ay a b c=some (cQ a b c):=cu a b c
theorem cd {α:Type}{l:List α}{i:Nat}(h:i<l.length)(d:α):l.getD i d=l[i]:=by rw[List.getD_eq_getElem?_getD,List.getElem?_eq_getElem h];rfl
def zz (l:List Int)(i:Nat):Bool:=cQ (l.getD i 0) 0 4095&& !(decide (0<i)&&decide (l.getD i 0≤l.getD (i-1) 0))
def gA (f:Filter):Bool:=(List.range f.2.2.length).all (zz f.2.2)&&(cQ f.1 0 281474976710654&&decide ((f.2.2.length:Int)≤8))
theorem zc (f:Filter)(h:f.2.2.length≤1000000000):kL f=some (gA f):=by
 unfold kL;rw[lr (hit:=some false) (fin:=some (cQ f.1 0 281474976710654&&decide ((f.2.2.length:Int)≤8))) (zz f.2.2) f.2.2.length (by omega) (λi nx hi=>?hs) (λnx=>?hf)]
 case hs=>
  simp only[jU]
  rw[ak (by omega),bD hi,wrap64 (n:=(i:Int)+1) (by omega) (by omega)]
  simp only[ah,ae,cu,zz,cd hi]
  by_cases h0:0<i
  ·have e:ar ((i:Int)-1)=((i-1:Nat):Int):=by rw[wrap64 (by omega) (by omega)];omega
   have hp:i-1<f.2.2.length:=by omega
   rw[e,bD hp,ak (show(i:Int)>0 by omega),ak h0,cd hp]
   simp only[ah,ae,bR]
   cases cQ f.2.2[i] 0 4095<;>cases decide (f.2.2[i]≤f.2.2[i-1])<;>rfl
  ·rw[af (show¬(i:Int)>0 by omega),af h0]
   simp only[ai,dE]
   cases cQ f.2.2[i] 0 4095<;>rfl
 case hf=>
  simp only[jU]
  rw[af (by omega)]
  simp only[ai,cu,ae,rG,bm]
  cases cQ f.1 0 281474976710654<;>rfl
 unfold gA;cases (List.range f.2.2.length).all (zz f.2.2)<;>rfl
theorem tT (f:Filter)(h:f.2.2.length≤1000000000):iJ f=some (gA f):=by
 unfold iJ;rw[lr (hit:=some false) (fin:=some (cQ f.1 0 281474976710654&&decide ((f.2.2.length:Int)≤8))) (zz f.2.2) f.2.2.length (by omega) (λi nx hi=>?hs) (λnx=>?hf)]
 case hs=>
  simp only[jE]
  rw[ak (by omega),bD hi,wrap64 (n:=(i:Int)+1) (by omega) (by omega)]
  simp only[ah,ae,dq,zz,cd hi]
  by_cases h0:0<i
  ·have e:ar ((i:Int)-1)=((i-1:Nat):Int):=by rw[wrap64 (by omega) (by omega)];omega
   have hp:i-1<f.2.2.length:=by omega
   rw[e,bD hp,ak (show(i:Int)>0 by omega),ak h0,cd hp]
   simp only[ah,ae,bR,ge_iff_le]
   cases cQ f.2.2[i] 0 4095<;>cases decide (f.2.2[i]≤f.2.2[i-1])<;>rfl
  ·rw[af (show¬(i:Int)>0 by omega),af h0]
   simp only[ai,dE]
   cases cQ f.2.2[i] 0 4095<;>rfl
 case hf=>
  simp only[jE]
  rw[af (by omega)]
  simp only[ai,dq,ae,rG,bm]
  cases cQ f.1 0 281474976710654<;>rfl
 unfold gA;cases (List.range f.2.2.length).all (zz f.2.2)<;>rfl
def pD (r:dw):Bool:=(fw r).getD false
theorem zj (r:dw):fw r=some (pD r):=by
 have:∃b,fw r=some b:=by simp only[fw,cu,ae,bm];exact⟨_,rfl⟩
 obtain⟨b,hb⟩:=this;simp[pD,hb]
theorem KM (r:dw):pY r=some (pD r):=zj r
theorem EN {r:dw}(h:pD r=true):r.2.2.2.2.2.2.2.1=0∨r.2.2.2.2.2.2.2.2=0:=by
 by_cases h0:r.2.2.2.2.2.2.2.1=0;exact .inl h0;by_cases h1:r.2.2.2.2.2.2.2.2=0;exact .inr h1;exfalso;have e0:(r.2.2.2.2.2.2.2.1==0)=false:=by simp[h0]
 have e1:(r.2.2.2.2.2.2.2.2==0)=false:=by simp[h1]
 revert h;unfold pD;simp only[fw,cu,ae,bm,e0,e1,ai,cZ];have z:∀c:Bool,(bif c then false else false)=false:=by intro c;cases c<;>rfl
 simp only[z];intro h;cases h
def mM (l:List dw):Bool:=l.all pD&&decide ((l.length:Int)≤12)
theorem tf (l:List dw)(h:l.length≤1000000000):mx l=some (mM l):=by
 unfold mx;rw[lq (hit:=some false) (fin:=some (decide ((l.length:Int)≤12))) pD l (by omega) (λi hi nx=>?hs) (λnx=>?hf)]
 case hs=>
  simp only[k7]
  rw[ak (by omega),bD hi,wrap64 (by omega) (by omega)]
  simp only[ah,ae,zj];rfl
 case hf=>
  simp only[k7]
  rw[af (by omega)];rfl
 unfold mM;cases l.all pD<;>rfl
theorem Aw (l:List dw)(h:l.length≤1000000000):oB l=some (mM l):=by rw[←tf l h];rfl
theorem Vg (x:Int):((BitVec.ofInt 64 x&&&BitVec.ofInt 64 7).toNat:Int)=x%8:=by
 have h7:(BitVec.ofInt 64 7).toNat=2^3-1:=by decide
 rw[BitVec.toNat_and,h7,Nat.and_two_pow_sub_one_eq_mod];simp only[BitVec.toNat_ofInt];omega
theorem RT (x:Int):((BitVec.ofInt (IntKind.bits .i64) x&&&BitVec.ofInt (IntKind.bits .i64) 7).toNat:Int)=x%8:=Vg x
theorem Ng (x:Int):eK x 8=some (x%8):=by unfold eK;rw[aq (by omega),Int.tmod_eq_emod];split;rw[af (by omega)];simp;rw[ak (by simp;omega),wrap64 (by simp;omega) (by simp;omega)];simp
def qF (f:dQ):Int:=(f.1%8+f.2.1%8+f.2.2.1%8+f.2.2.2.1%8+f.2.2.2.2%8)%8
theorem yf (f:dQ):0≤qF f∧qF f<8:=by unfold qF;omega
theorem Mp {n:Int}(h:0≤n):Int.tmod n 8=n%8:=cL h
theorem E4 (f:dQ):kM f=some (qF f):=by
 unfold kM;generalize hL:[f.1,f.2.1,f.2.2.1,f.2.2.2.1,f.2.2.2.2]=L;have hlen:L.length=5:=by rw[←hL];rfl
 have hfu:=dY;have key:=ta (R:=Int) (T:=gV (λ(y2:Int) (y3:Int)=>if 8=0 then none else(some (Int.tmod y2 8))) L) L (λ(s:Int) i=>(s,(i:Int))) (λx s k=>k (ar (s+ar (x%8)))) (λs=>some (Int.tmod s 8)) (λi hi s nx=>by simp only[gV];rw[ak (by omega),bD hi,wrap64 (n:=(i:Int)+1) (by omega) (by omega)];simp only[ah,ae];rw[RT L[i]];rfl) (λs nx=>by simp only[gV];rw[af (by omega)];rfl) fuel 0 0 (by omega) (by omega);refine key.trans ?_;rw[←hL];simp only[cS,rK];rw[wrap64 (n:=f.1%8) (by omega) (by omega),wrap64 (n:=f.2.1%8) (by omega) (by omega),wrap64 (n:=f.2.2.1%8) (by omega) (by omega),wrap64 (n:=f.2.2.2.1%8) (by omega) (by omega),wrap64 (n:=f.2.2.2.2%8) (by omega) (by omega)];rw[wrap64 (n:=0+f.1%8) (by omega) (by omega),wrap64 (n:=0+f.1%8+_) (by omega) (by omega),wrap64 (n:=0+f.1%8+_+_) (by omega) (by omega),wrap64 (n:=0+f.1%8+_+_+_) (by omega) (by omega),wrap64 (n:=0+f.1%8+_+_+_+_) (by omega) (by omega)];rw[Mp (by omega),qF,Int.zero_add]
theorem KI (f:dQ):nf f=some (qF f):=by
 unfold nf;generalize hL:[f.1,f.2.1,f.2.2.1,f.2.2.2.1,f.2.2.2.2]=L;have hlen:L.length=5:=by rw[←hL];rfl
 have hfu:=dY;have key:=ta (R:=Int) (T:=gM (λ(y2:Int) (y3:Int)=>if 8=0 then none else(some (Int.tmod y2 8))) L (L.length:Int)) L (λ(s:Int) i=>(s,(i:Int))) (λx s k=>k (ar (s+(x%8)))) (λs=>some (Int.tmod s 8)) (λi hi s nx=>by simp only[gM];rw[ak (by omega),bD hi,wrap64 (n:=(i:Int)+1) (by omega) (by omega)];simp only[ah,ae,Ng];rfl) (λs nx=>by simp only[gM];rw[af (by omega)];rfl) fuel 0 0 (by omega) (by omega);refine key.trans ?_;rw[←hL];simp only[cS,rK];rw[wrap64 (n:=0+f.1%8) (by omega) (by omega),wrap64 (n:=0+f.1%8+_) (by omega) (by omega),wrap64 (n:=0+f.1%8+_+_) (by omega) (by omega),wrap64 (n:=0+f.1%8+_+_+_) (by omega) (by omega),wrap64 (n:=0+f.1%8+_+_+_+_) (by omega) (by omega)];rw[Mp (by omega),qF,Int.zero_add]
def dm (t:List Slot)(i:Nat):Slot:=t.getD i (0,(0,0,0,0,0),0)
theorem mO {t:List Slot}{i:Nat}(h:i<t.length):dm t i=t[i]:=cd h _
def fJ (f:dQ)(k:Nat):Nat:=((qF f).toNat+k)%8
theorem tp (f:dQ)(k:Nat):fJ f k<8:=Nat.mod_lt _ (by omega)
theorem Fg (f:dQ)(k:Nat)(h:k<8):Int.tmod (ar (qF f+(k:Int))) 8=(fJ f k:Int):=by have:=yf f;rw[wrap64 (by omega) (by omega),Mp (by omega),fJ];omega
def iE (s:Slot)(f:dQ):Bool:=(s.1==1)&&decide (s.2.1=f)
theorem s6 (p q:dQ):((p.1==q.1)&&((p.2.1==q.2.1)&&((p.2.2.1==q.2.2.1)&&((p.2.2.2.1==q.2.2.2.1)&&((p.2.2.2.2==q.2.2.2.2)&&true)))))=decide (p=q):=by obtain⟨a,b,c,d,e⟩:=p;obtain⟨a',b',c',d',e'⟩:=q;rw[bT];simp
def walk (t:List Slot)(f:dQ):Nat→Nat→Int
 |0,_=> -1
 |n+1,k=>if(dm t (fJ f k)).1=0 then-1 else if iE (dm t (fJ f k)) f then(fJ f k:Int) else walk t f n (k+1)
theorem zd (t:List Slot)(f:dQ)(ht:t.length=8):kh t f=some (walk t f 8 0):=by
 unfold kh;have hfu:=dY
 have key:=uJ (R:=Int) (T:=iA (λ(y6:Int)=>some (-1)) (λ(y7:Int) (y8:Int)=>some y7) 0 t f) 8 (λ(_:Unit) i=>(i:Int))
  (λi s k=>if(dm t (fJ f i)).1=0 then some (-1) else if iE (dm t (fJ f i)) f then some (fJ f i:Int) else k s) (λ_=>some (-1))
  (λi s nx hi=>by
   have hw:fJ f i<t.length:=by have:=tp f i;omega
   simp only[iA,E4];rw[ak (by omega),wrap64 (n:=(i:Int)+1) (by omega) (by omega)];simp only[ah,ae,Fg f i hi,bD hw,mO hw,s6,iE,bm,ae];rw[aq (by omega)];by_cases h0:t[fJ f i].1=0;simp[h0];have e0:(t[fJ f i].1==0)=false:=by simp[h0]
   rw[e0,aq h0];cases (t[fJ f i].1==1)<;>cases decide (t[fJ f i].2.1=f)<;>rfl)
  (λs nx=>by simp only[iA];rfl)
  fuel 0 () (by omega) (by omega)
 refine key.trans ?_;have main:∀n i,OK (R:=Int) (λi (s:Unit) k=>if(dm t (fJ f i)).1=0 then some (-1) else if iE (dm t (fJ f i)) f then some (fJ f i:Int) else k s) (λ_=>some (-1)) 8 n i ()=some (walk t f n i):=by intro n;induction n with|zero=>intro i;rfl|succ n ih=>intro i;rw[OK,walk];split;rfl;split;rfl;exact ih (i+1)
 exact main 8 0
def n5 (f:dQ):List Slot→Int→Int
 |[],_=> -1
 |s::r,i=>if iE s f then i else n5 f r (i+1)
theorem DP (t:List Slot)(f:dQ)(h:t.length≤1000000000):nQ t f=some (n5 f t 0):=by
 unfold nQ;have hfu:=dY;have key:∀n i,i≤t.length→t.length-i<n→aZ (l0 (λ(y3:Int)=>some (-1)) (λ(y4:Int) (y5:Int)=>some y4) 0 t ((List.length t:Int)) f) n (i:Int)=some (n5 f (t.drop i) i):=by
  intro n;induction n with
  |zero=>intro i _ h;omega
  |succ n ih=>
   intro i hi hn;rw[aZ];simp only[l0];rcases bd i t.length with hlt|hge;rw[ak (by omega),bD hlt,a6 hlt,n5,wrap64 (by omega) (by omega)];simp only[ah,ae,s6,bm];have e:(bif t[i].1==1 then decide (t[i].2.1=f) else false)=iE t[i] f:=by unfold iE;cases (t[i].1==1)<;>rfl
   rw[e];cases iE t[i] f with|true=>rfl|false=>exact ih (i+1) (by omega) (by omega)
   have:i=t.length:=by omega
   subst this;rw[af (by omega),dC];rfl
 exact key fuel 0 (by omega) (by omega)
theorem MZ (f:dQ):rb f=some ((List.range 8).map λk=>(fJ f k:Int)):=by unfold rb;have hfu:=dY;have key:=uJ (R:=List Int) (T:=kE (λ(y2:List Int) (y3:Int)=>some y2) f) 8 (λ(_:Unit) i=>((List.range i).map (λk=>(fJ f k:Int)),(i:Int))) (λ_ s k=>k s) (λ_=>some ((List.range 8).map λk=>(fJ f k:Int))) (λi s nx hi=>by simp only[kE,KI];rw[ak (by omega),wrap64 (n:=(i:Int)+1) (by omega) (by omega)];simp only[ah,ae,Fg f i hi];rw[aq (by omega),aS (by simp;omega),List.range_succ,List.map_append];rfl) (λs nx=>by simp only[kE];rfl) fuel 0 () (by omega) (by omega);exact key
def clear (t:List Slot)(f:dQ)(i:Nat):Nat→Nat→Bool
 |0,_=>true
 |n+1,k=>if fJ f k=i then true else if(dm t (fJ f k)).1=0 then false else clear t f i n (k+1)
theorem IG {R:Type}(k0:Int→Option R)(k1:Bool→Int→Option R)(hit fin:Option R)(h0:∀x,k0 x=fin)(h1:∀x,k1 false x=hit)(v2:Bool)(i:Nat)(v12:List Slot)(v13 v14:Int)(t:List Slot)(f:dQ)(ht:t.length=8): aZ (fA k0 k1 v2 (i:Int) v12 v13 v14 ((List.range 8).map λk=>(fJ f k:Int)) (((List.range 8).map λk=>(fJ f k:Int)).length:Int) t) fuel 0=cond (clear t f i 8 0) fin hit:=by
 have hfu:=dY;have hl:((List.range 8).map λk=>(fJ f k:Int)).length=8:=by simp
 have key:=uJ (R:=R) (T:=fA k0 k1 v2 (i:Int) v12 v13 v14 ((List.range 8).map λk=>(fJ f k:Int)) (((List.range 8).map λk=>(fJ f k:Int)).length:Int) t) 8 (λ(_:Unit) i=>(i:Int))
  (λk s c=>if fJ f k=i then fin else if(dm t (fJ f k)).1=0 then hit else c s) (λ_=>fin)
  (λk s nx hk=>by
   have hw:fJ f k<t.length:=by have:=tp f k;omega
   simp only[fA];rw[ak (by omega),bD (show k<((List.range 8).map λk=>(fJ f k:Int)).length by omega),wrap64 (n:=(k:Int)+1) (by omega) (by omega)];simp only[ah,ae,List.getElem_map,List.getElem_range,bD hw,mO hw,h0,h1];by_cases e1:fJ f k=i;subst e1;simp;have:((fJ f k:Int)==(i:Int))=false:=by simp;omega
   rw[this,aq e1];by_cases e2:t[fJ f k].1=0;simp[e2];have:(t[fJ f k].1==0)=false:=by simp[e2]
   rw[this,aq e2];rfl)
  (λs nx=>by simp only[fA];rw[af (by omega)];exact h0 _)
  fuel 0 () (by omega) (by omega)
 refine key.trans ?_;have main:∀n k,OK (R:=R) (λk (s:Unit) c=>if fJ f k=i then fin else if(dm t (fJ f k)).1=0 then hit else c s) (λ_=>fin) 8 n k ()=cond (clear t f i n k) fin hit:=by intro n;induction n with|zero=>intro k;rfl|succ n ih=>intro k;rw[OK,clear];split;rfl;split;rfl;exact ih (k+1)
 exact main 8 0
def Dz:dQ:=(0,0,0,0,0)
theorem DA (p:dQ):((p.1==0)&&((p.2.1==0)&&((p.2.2.1==0)&&((p.2.2.2.1==0)&&((p.2.2.2.2==0)&&true)))))=decide (p=Dz):=s6 p Dz
def AW (s:Slot):Bool:=cQ s.1 0 2&&cQ s.2.2 0 3&&((s.1==1)||(s.2.2==0)&&decide (s.2.1=Dz))
def gR (t:List Slot)(i:Nat):Bool:=AW (dm t i)&&(!((dm t i).1==1)||(walk t (dm t i).2.1 8 0==(i:Int)))
def lv (t:List Slot)(i:Nat):Bool:=AW (dm t i)&&(!((dm t i).1==1)||(n5 (dm t i).2.1 t 0==(i:Int))&&clear t (dm t i).2.1 i 8 0)
def gv (t:List Slot):Bool:=(t.length==8)&&(List.range 8).all (gR t)
theorem we (t:List Slot):kc t=some (gv t):=by
 unfold kc gv;by_cases ht:t.length=8
 ·have e:((t.length:Int) !=8)=false:=by rw[ht];rfl
  have e2:(t.length==8)=true:=by rw[ht];rfl
  rw[e,e2];simp only[ai,bR];rw[lr (hit:=some false) (fin:=some true) (gR t) 8 (by omega) (λi nx hi=>?hs) (λnx=>?hf)]
  case hs=>
   have hl:i<t.length:=by omega
   simp only[k8]
   rw[ak (by omega),bD hl,wrap64 (by omega) (by omega)]
   simp only[ah,ae,cu,bm,DA,zd t _ ht,gR,mO hl,AW,bne]
   cases cQ t[i].1 0 2<;>cases cQ t[i].2.2 0 3<;>cases (t[i].1==1)<;>cases (t[i].2.2==0)<;>cases decide (t[i].2.1=Dz)<;>first|rfl|(cases (walk t t[i].2.1 8 0==(i:Int))<;>rfl)
  case hf=>
   simp only[k8]
   rw[af (by omega)];rfl
  cases (List.range 8).all (gR t)<;>rfl
 have e:((t.length:Int) !=8)=true:=by simp;omega
 have e2:(t.length==8)=false:=by simp[ht]
 rw[e,e2];rfl
theorem Gc (t:List Slot):jN t=some ((t.length==8)&&(List.range 8).all (lv t)):=by
 unfold jN;by_cases ht:t.length=8
 ·have e:((t.length:Int) !=8)=false:=by rw[ht];rfl
  have e2:(t.length==8)=true:=by rw[ht];rfl
  rw[e,e2];simp only[ai,bR];rw[lr (hit:=some false) (fin:=some true) (lv t) 8 (by omega) (λi nx hi=>?hs) (λnx=>?hf)]
  case hs=>
   have hl:i<t.length:=by omega
   simp only[kV]
   rw[ak (by omega),bD hl,wrap64 (by omega) (by omega)]
   simp only[ah,ae,dq,bm,DA,DP t _ (show t.length≤1000000000 by omega),MZ,lv,mO hl,AW,bne]
   rw[IG (λ_=>nx ((i:Int)+1)) (λ(y:Bool) (_:Int)=>some y) (some false) (nx ((i:Int)+1)) (λ_=>rfl) (λ_=>rfl) _ _ _ _ _ _ _ ht]
   cases cQ t[i].1 0 2<;>cases cQ t[i].2.2 0 3<;>cases (t[i].1==1)<;>cases (t[i].2.2==0)<;>cases decide (t[i].2.1=Dz)<;>first|rfl|(cases (n5 t[i].2.1 t 0==(i:Int))<;>first|rfl|(cases clear t t[i].2.1 i 8 0<;>rfl))
  case hf=>
   simp only[kV]
   rw[af (by omega)];rfl
  cases (List.range 8).all (lv t)<;>rfl
 have e:((t.length:Int) !=8)=true:=by simp;omega
 have e2:(t.length==8)=false:=by simp[ht]
 rw[e,e2];rfl
theorem Bd (t:List Slot)(f:dQ)(i:Nat):∀n k,walk t f n k=(i:Int)→iE (dm t i) f=true∧clear t f i n k=true∧∃j,j<n∧fJ f (k+j)=i
 |0,k,h=>by unfold walk at h;omega
 |n+1,k,h=>by
  unfold walk at h;unfold clear;by_cases h0:(dm t (fJ f k)).1=0;rw[au h0]at h;omega;rw[aq h0]at h;by_cases h1:iE (dm t (fJ f k)) f=true;rw[au h1]at h;have:fJ f k=i:=by omega
  subst this;exact⟨h1,by simp,0,by omega,rfl⟩;rw[aq h1]at h;obtain⟨a,b,j,hj,e⟩:=Bd t f i n (k+1) h;refine⟨a,?_,j+1,by omega,by rw[←e];congr 1;omega⟩;rw[aq h0,b];split<;>rfl
theorem Ih (t:List Slot)(f:dQ)(i:Nat)(hu:iE (dm t i) f=true)(huniq:∀j,j<8→iE (dm t j) f=true→j=i):∀n k,clear t f i n k=true→(∃j,j<n∧fJ f (k+j)=i)→walk t f n k=(i:Int)
 |0,k,_,h=>by obtain⟨j,hj,_⟩:=h;omega
 |n+1,k,hc,⟨j,hj,e⟩=>by unfold walk;unfold clear at hc;by_cases h1:fJ f k=i;rw[h1,aq,au hu];intro h0;unfold iE at hu;rw[h0]at hu;simp at hu;rw[aq h1]at hc;by_cases h0:(dm t (fJ f k)).1=0;rw[au h0]at hc;cases hc;rw[aq h0]at hc;rw[aq h0,aq (λhu'=>h1 (huniq _ (tp f k) hu'))];refine Ih t f i hu huniq n (k+1) hc ?_;cases j with|zero=>exact absurd e h1|succ j=>exact⟨j,by omega,by rw[←e];congr 1;omega⟩
theorem NR (f:dQ)(i:Nat)(hi:i<8):∃j,j<8∧fJ f (0+j)=i:=by have:=yf f;refine⟨(i+8-(qF f).toNat)%8,by omega,?_⟩;unfold fJ;omega
theorem so (f:dQ):∀(t:List Slot)(m:Nat),(∃j,j<t.length∧iE (dm t j) f=true)→∃j,j<t.length∧iE (dm t j) f=true∧n5 f t m=((m+j:Nat):Int)
 |[],_,h=>by obtain⟨j,hj,_⟩:=h;simp at hj
 |s::r,m,⟨j,hj,e⟩=>by
  unfold n5;by_cases hs:iE s f=true;rw[au hs];exact⟨0,by simp,by simpa[dm]using hs,by simp⟩;rw[aq hs];cases j with
  |zero=>exact absurd (by simpa[dm]using e) hs
  |succ j=>
   obtain⟨j',h1,h2,h3⟩:=so f r (m+1) ⟨j,by simpa using hj,by simpa[dm]using e⟩;refine⟨j'+1,by simpa using h1,by simpa[dm]using h2,?_⟩;have:((m:Int)+1)=((m+1:Nat):Int):=by omega
   rw[this,h3];congr 1;omega
theorem GW (t:List Slot)(ht:t.length=8):(List.range 8).all (lv t)=(List.range 8).all (gR t):=by
 rw[bT,az,az];simp only[bI];constructor;intro h i hi;have hI:=h i hi;unfold lv at hI;unfold gR;simp only[ab,bH,aA,aQ]at hI⊢;refine⟨hI.1,?_⟩;rcases hI.2 with h1|⟨h1,h2⟩;exact .inl h1;by_cases hu:((dm t i).1==1)=true;right;have hu':iE (dm t i) (dm t i).2.1=true:=by unfold iE;rw[hu];simp
 refine Ih t _ i hu' (λj hj huj=>?_) 8 0 h2 (NR _ i hi);have hJ:=h j hj;unfold lv at hJ;unfold iE at huj;simp only[ab,aF]at huj;simp only[ab,bH,aA,aQ]at hJ;rcases hJ.2 with h3|⟨h3,_⟩;rw[huj.1]at h3;cases h3;rw[huj.2]at h3;omega;exact .inl (by simpa using hu);intro h i hi;have hI:=h i hi;unfold gR at hI;unfold lv;simp only[ab,bH,aA,aQ]at hI⊢;refine⟨hI.1,?_⟩;rcases hI.2 with h1|h1;exact .inl h1;right;obtain⟨hu,hc,_⟩:=Bd t _ i 8 0 h1;refine⟨?_,hc⟩;obtain⟨j,hj,huj,e⟩:=so (dm t i).2.1 t 0 ⟨i,by omega,hu⟩;have hJ:=h j (by omega);unfold gR at hJ;unfold iE at huj;simp only[ab,aF]at huj;simp only[ab,bH,aA,aQ]at hJ;rcases hJ.2 with h3|h3;rw[huj.1]at h3;cases h3;rw[huj.2,h1]at h3;have e':n5 (dm t i).2.1 t 0=((0+j:Nat):Int):=e;rw[e'];omega
theorem Ay (t:List Slot):jN t=some (gv t):=by
 rw[Gc,gv];by_cases ht:t.length=8;rw[GW t ht];have e2:(t.length==8)=false:=by simp[ht]
 rw[e2];rfl
def HX (n:Int):Bool:=(n==1)||(n==2)||(n==4)||(n==8)||(n==16)
theorem Gq (n:Int):oP n=some (HX n):=by simp only[oP,bm,ae,HX];cases (n==1)<;>cases (n==2)<;>cases (n==4)<;>cases (n==8)<;>rfl
def jh (s:eS)(q:Int):Bool:=cQ q 1 4&&((s.1.length:Int)==16)&&HX s.2.length&&s.2.all λx=>cQ x 0 (q-1)
theorem ud (s:eS)(q:Int)(h:s.2.length≤1000000000):kR s q=some (jh s q):=by
 unfold kR jh;simp only[cu,Gq,ae,bm,bne];by_cases hq:cQ q 1 4=true
 ·rw[lq (hit:=some false) (fin:=some true) (λx=>cQ x 0 (q-1)) s.2 (by omega) (λi hi nx=>?hs) (λnx=>?hf)]
  case hs=>
   rw[br]at hq
   simp only[jY]
   rw[ak (by omega),bD hi,wrap64 (n:=(i:Int)+1) (by omega) (by omega),wrap64 (n:=q-1) (by omega) (by omega)]
   simp only[ah,ae,cu];rfl
  case hf=>
   simp only[jY]
   rw[af (by omega)];rfl
  rw[hq];cases ((s.1.length:Int)==16)<;>cases HX s.2.length<;>cases s.2.all (λx=>cQ x 0 (q-1))<;>rfl
 have hq':cQ q 1 4=false:=by simpa using hq
 rw[hq'];rfl
theorem yk (s:eS)(q:Int)(h:s.2.length≤1000000000):nk s q=some (jh s q):=by rw[←ud s q h];rfl
def dh (s:bL)(q:Int):Bool:=mM s.1&&gv s.2.1&&jh s.2.2 q&&s.1.all (λr=> !(decide (r.2.2.2.2.2.2.2.2≥q)))&&s.2.1.all (λx=> !(decide (x.2.2≥q)))
theorem vc (s:bL)(q:Int)(h1:s.1.length≤1000000000)(h2:s.2.1.length≤1000000000)(h3:s.2.2.2.length≤1000000000):iv s q=some (dh s q):=by
 unfold iv dh;simp only[tf _ h1,we,ud _ _ h3,ae,bm];rw[lq (hit:=some false) (fin:=cond (s.2.1.all (λx=> !(decide (x.2.2≥q)))) (some true) (some false)) (λr:dw=> !(decide (r.2.2.2.2.2.2.2.2≥q))) s.1 (by omega) (λi hi nx=>?hs) (λnx=>?hf)]
 case hs=>
  simp only[ie]
  rw[ak (by omega),bD hi,wrap64 (by omega) (by omega)]
  simp only[ah,ae,dv];rfl
 case hf=>
  simp only[ie]
  rw[af (by omega)]
  simp only[ai]
  rw[lq (hit:=some false) (fin:=some true) (λx:Slot=> !(decide (x.2.2≥q))) s.2.1 (by omega) (λi hi nx=>?hs) (λnx=>?hf)]
  case hs=>
   simp only[ig]
   rw[ak (by omega),bD hi,wrap64 (by omega) (by omega)]
   simp only[ah,ae,dv];rfl
  case hf=>
   simp only[ig]
   rw[af (by omega)];rfl
 cases mM s.1<;>cases gv s.2.1<;>cases jh s.2.2 q<;>cases s.1.all (λr=> !(decide (r.2.2.2.2.2.2.2.2≥q)))<;>cases s.2.1.all (λx=> !(decide (x.2.2≥q)))<;>rfl
theorem qY (s:bL)(q:Int)(h1:s.1.length≤1000000000)(h2:s.2.1.length≤1000000000)(h3:s.2.2.2.length≤1000000000):fP s q=some (dh s q):=by
 unfold fP dh;simp only[Aw _ h1,Ay,yk _ _ h3,ae,bm];rw[lq (hit:=some false) (fin:=cond (s.2.1.all (λx=> !((x.1==1)&&decide (x.2.2≥q)))) (some true) (some false)) (λr:dw=> !((r.2.2.2.2.2.2.2.1==0)&&decide (r.2.2.2.2.2.2.2.2≥q))) s.1 (by omega) (λi hi nx=>?hs) (λnx=>?hf)]
 case hs=>
  simp only[hR]
  rw[ak (by omega),bD hi,wrap64 (by omega) (by omega)]
  simp only[ah,ae,dv,bm]
  cases (s.1[i].2.2.2.2.2.2.2.1==0)<;>rfl
 case hf=>
  simp only[hR]
  rw[af (by omega)]
  simp only[ai]
  rw[lq (hit:=some false) (fin:=some true) (λx:Slot=> !((x.1==1)&&decide (x.2.2≥q))) s.2.1 (by omega) (λi hi nx=>?hs) (λnx=>?hf)]
  case hs=>
   simp only[gB]
   rw[ak (by omega),bD hi,wrap64 (by omega) (by omega)]
   simp only[ah,ae,dv,bm]
   cases (s.2.1[i].1==1)<;>rfl
  case hf=>
   simp only[gB]
   rw[af (by omega)];rfl
 cases hr:mM s.1 with
 |false=>rfl
 |true=>
  cases ht:gv s.2.1 with
  |false=>rfl
  |true=>
   cases hs:jh s.2.2 q with
   |false=>rfl
   |true=>
    have hq:1≤q:=by unfold jh at hs;simp only[ab,br]at hs;exact hs.1.1.1.1
    have e1:s.1.all (λr=> !((r.2.2.2.2.2.2.2.1==0)&&decide (r.2.2.2.2.2.2.2.2≥q)))=s.1.all (λr=> !(decide (r.2.2.2.2.2.2.2.2≥q))):=by unfold mM at hr;simp only[ab,az]at hr;rw[bT,az,az];refine forall_congr' λr=>forall_congr' λhm=>?_;rcases EN (hr.1 r hm)with h0|h0;rw[h0];simp;rw[h0];simp only[af (show¬(0:Int)≥q by omega),eO]
    have e2:s.2.1.all (λx=> !((x.1==1)&&decide (x.2.2≥q)))=s.2.1.all (λx=> !(decide (x.2.2≥q))):=by unfold gv at ht;simp only[ab,az,bI,aQ]at ht;rw[bT,az,az];refine forall_congr' λx=>forall_congr' λhm=>?_;obtain⟨i,hi,rfl⟩:=List.mem_iff_getElem.1 hm;have hsl:=ht.2 i (by omega);unfold gR AW at hsl;rw[mO hi]at hsl;simp only[ab,bH,aQ]at hsl;rcases hsl.1.2 with h0|⟨h0,_⟩;rw[h0];simp;rw[h0];simp only[af (show¬(0:Int)≥q by omega),eO]
    rw[e1,e2];cases s.1.all (λr=> !(decide (r.2.2.2.2.2.2.2.2≥q)))<;>cases s.2.1.all (λx=> !(decide (x.2.2≥q)))<;>rfl
theorem ev {n:Nat}(h:n<9223372036854775808):ar (n:Int)=(n:Int):=wrap64 (by omega) (by omega)
theorem vm {n:Nat}(h:n<4294967296):IntKind.wrap .u32 (n:Int)=(n:Int):=by simp only[ar,dK,IntKind.wrap,IntKind.bits,IntKind.signed];simp;omega
theorem hC (b:UInt8):b.toNat<256:=b.toNat_lt
def cI (v:Int):Bytes:=(bE v).getD []
theorem gr (v:Int):bE v=some (cI v):=by
 unfold cI;have:∃x,bE v=some x:=by simp only[bE,cu,ae];cases cQ v 0 65535<;>exact⟨_,rfl⟩
 obtain⟨x,hx⟩:=this;rw[hx];rfl
theorem pt (v:Int):cC v=some (cI v):=gr v
theorem He (v:Int):(cI v).length=bif cQ v 0 65535 then 2 else 0:=by have h:=gr v;simp only[bE,cu,ae]at h;cases hb:cQ v 0 65535<;>rw[hb]at h<;>(rw[←cc h];rfl)
theorem bn (v:Int):(cI v).length≤2:=by rw[He];cases cQ v 0 65535<;>simp
def fj (v:Int):Bytes:=(cX v).getD []
theorem jw (v:Int):cX v=some (fj v):=by
 unfold fj;have:∃x,cX v=some x:=by simp only[cX,cu,ae];cases cQ v 0 4294967295<;>exact⟨_,rfl⟩
 obtain⟨x,hx⟩:=this;rw[hx];rfl
theorem tU (v:Int):fu v=some (fj v):=jw v
theorem Hf (v:Int):(fj v).length=bif cQ v 0 4294967295 then 4 else 0:=by have h:=jw v;simp only[cX,cu,ae]at h;cases hb:cQ v 0 4294967295<;>rw[hb]at h<;>(rw[←cc h];rfl)
theorem cR (v:Int):(fj v).length≤4:=by rw[Hf];cases cQ v 0 4294967295<;>simp
def bJ (s:Bytes)(i:Nat):Nat:=(s.getD i 0).toNat
theorem cV (s:Bytes)(i:Nat):bJ s i<256:=hC _
theorem ik {s:Bytes}{i:Nat}(h:i<s.length):∃x,idx s (i:Int)=some x∧x.toNat=bJ s i:=⟨s[i],bD h,by rw[bJ,cd h]⟩
def c8 (s:Bytes)(a n:Int):Bool:=decide (0≤a∧a+n≤(s.length:Int))
theorem sL (s:Bytes)(a n:Int)(h:s.length≤1000000000)(hn:0≤n):gX s a n=some (c8 s a n):=by unfold gX c8;by_cases h0:0≤a;by_cases h1:a≤(s.length:Int);rw[ak (show a≥0 from h0),ak h1,wrap64 (by omega) (by omega)];simp only[ah,ae];congr 1;rw[decide_eq_decide];omega;rw[ak (show a≥0 from h0),af h1,af (show¬(0≤a∧a+n≤(s.length:Int)) by omega)];rfl;rw[af (show¬a≥0 from h0),af (show¬(0≤a∧a+n≤(s.length:Int)) by omega)];rfl
def cf (s:Bytes)(a:Int):Int:=bif c8 s a 2 then((bJ s a.toNat*256+bJ s (a.toNat+1):Nat):Int) else-1
def fF (s:Bytes)(a:Int):Int:=bif c8 s a 4 then(((bJ s a.toNat*256+bJ s (a.toNat+1))*65536+(bJ s (a.toNat+2)*256+bJ s (a.toNat+3)):Nat):Int) else-1
theorem qQ (s:Bytes)(a:Int)(h:s.length≤1000000000):dP s a=some (cf s a):=by unfold dP cf;rw[sL s a 2 h (by omega),ae];cases hw:c8 s a 2 with|false=>rfl|true=>simp only[c8,aF]at hw;obtain⟨n,rfl⟩:=bg hw.1;obtain⟨x,hx,ex⟩:=ik (s:=s) (i:=n) (by omega);obtain⟨y,hy,ey⟩:=ik (s:=s) (i:=n+1) (by omega);have hxl:=cV s n;have hyl:=cV s (n+1);rw[wrap64 (n:=(n:Int)+1) (by omega) (by omega),hx,show(n:Int)+1=((n+1:Nat):Int) by omega,hy];simp only[aw,ai,ae,aI,ah];rw[aq (by omega),ex,ey,ev (by omega),ev (by omega)];have e8:min (Int.toNat 8) (IntKind.bits .i64)=8:=rfl;rw[e8,wrap64 (n:=((bJ s n:Nat):Int)*2^8) (by omega) (by omega),wrap64 (by omega) (by omega)];congr 1;all_goals omega
theorem wc (s:Bytes)(a:Int)(h:s.length≤1000000000):ib s a=some (fF s a):=by
 unfold ib fF;rw[sL s a 4 h (by omega),ae];cases hw:c8 s a 4 with
 |false=>rfl
 |true=>
  simp only[c8,aF]at hw;obtain⟨n,rfl⟩:=bg hw.1;have w1:c8 s (n:Int) 2=true:=by simp only[c8,aF];omega
  have w2:c8 s ((n:Int)+2) 2=true:=by simp only[c8,aF];omega
  have b0:=cV s n;have b1:=cV s (n+1);have b2:=cV s (n+2);have b3:=cV s (n+3);rw[wrap64 (n:=(n:Int)+2) (by omega) (by omega),qQ s _ h,qQ s _ h];simp only[aw,ai,ae,ah,cf,w1,w2,aI];rw[aq (by omega),show((n:Int)+2).toNat=n+2 by omega,show n+2+1=n+3 by omega];have e8:min (Int.toNat 16) (IntKind.bits .i64)=16:=rfl;rw[e8,wrap64 (n:=((bJ s n*256+bJ s (n+1):Nat):Int)*2^16) (by omega) (by omega),wrap64 (by omega) (by omega)];congr 1;all_goals omega
theorem Yr (a b:Nat)(ha:a<9223372036854775808)(hb:b<9223372036854775808):BitVec.toNat (BitVec.ofInt (IntKind.bits .i64) (a:Int)|||BitVec.ofInt (IntKind.bits .i64) (b:Int))=a|||b:=by show(BitVec.ofInt 64 (a:Int)|||BitVec.ofInt 64 (b:Int)).toNat=_;rw[bW,bW,BitVec.toNat_or,ch,ch,cm (by omega),cm (by omega)]
theorem NY (a b:Nat)(ha:a<9223372036854775808)(hb:b<9223372036854775808):BitVec.toNat (BitVec.ofInt (IntKind.bits .i64) (a:Int)&&&BitVec.ofInt (IntKind.bits .i64) (b:Int))=a&&&b:=by show(BitVec.ofInt 64 (a:Int)&&&BitVec.ofInt 64 (b:Int)).toNat=_;rw[bW,bW,BitVec.toNat_and,ch,ch,cm (by omega),cm (by omega)]
theorem Ii (a b:Nat)(ha:a<9223372036854775808)(hb:b<9223372036854775808):BitVec.toNat (BitVec.ofInt (IntKind.bits .i64) (a:Int)^^^BitVec.ofInt (IntKind.bits .i64) (b:Int))=a^^^b:=by show(BitVec.ofInt 64 (a:Int)^^^BitVec.ofInt 64 (b:Int)).toNat=_;rw[bW,bW,BitVec.toNat_xor,ch,ch,cm (by omega),cm (by omega)]
theorem RS (a b:Nat)(ha:a<4294967296)(hb:b<4294967296):BitVec.toNat (BitVec.ofInt (IntKind.bits .u32) (a:Int)&&&BitVec.ofInt (IntKind.bits .u32) (b:Int))=a&&&b:=by show(BitVec.ofInt 32 (a:Int)&&&BitVec.ofInt 32 (b:Int)).toNat=_;rw[bW,bW,BitVec.toNat_and,ch,ch,cm (by omega),cm (by omega)]
theorem OL (a b:Nat)(ha:a<4294967296)(hb:b<4294967296):BitVec.toNat (BitVec.ofInt (IntKind.bits .u32) (a:Int)^^^BitVec.ofInt (IntKind.bits .u32) (b:Int))=a^^^b:=by show(BitVec.ofInt 32 (a:Int)^^^BitVec.ofInt 32 (b:Int)).toNat=_;rw[bW,bW,BitVec.toNat_xor,ch,ch,cm (by omega),cm (by omega)]
theorem tY (x k y:Nat)(hy:y<2^k)(h:2^k*x+y<9223372036854775808):ar (BitVec.toNat (BitVec.ofInt (IntKind.bits .i64) ((2^k*x:Nat):Int)|||BitVec.ofInt (IntKind.bits .i64) (y:Int)):Int)=((2^k*x+y:Nat):Int):=by rw[Yr _ _ (by omega) (by omega),←Nat.two_pow_add_eq_or_of_lt hy];exact ev h
theorem wW (s:Bytes)(a n:Int):(cond (decide (a<0)) (some true) (some (decide (a>(s.length:Int)-n))))=some (!c8 s a n):=by cases hw:c8 s a n with|true=>simp only[c8,aF]at hw;rw[af (show¬a<0 by omega),af (show¬a>(s.length:Int)-n by omega)];rfl|false=>simp only[c8,cp]at hw;by_cases h0:a<0;rw[ak h0];rfl;rw[af h0,ak (show a>(s.length:Int)-n by omega)];rfl
theorem vD (s:Bytes)(a:Int)(h:s.length≤1000000000):ez s a=some (cf s a):=by unfold ez cf;rw[wrap64 (n:=(s.length:Int)-2) (by omega) (by omega)];rw[wW,ae];cases hw:c8 s a 2 with|false=>rfl|true=>simp only[c8,aF]at hw;obtain⟨n,rfl⟩:=bg hw.1;obtain⟨x,hx,ex⟩:=ik (s:=s) (i:=n) (by omega);obtain⟨y,hy,ey⟩:=ik (s:=s) (i:=n+1) (by omega);have hxl:=cV s n;have hyl:=cV s (n+1);rw[wrap64 (n:=(n:Int)+1) (by omega) (by omega),hx,show(n:Int)+1=((n+1:Nat):Int) by omega,hy];simp only[aw,ai,ah,ae,aI];rw[aq (by omega),ex,ey,ev (n:=bJ s n) (by omega),ev (n:=bJ s (n+1)) (by omega)];have e8:min (Int.toNat 8) (IntKind.bits .i64)=8:=rfl;rw[e8,show((bJ s n:Nat):Int)*2^8=((2^8*bJ s n:Nat):Int) by omega,ev (n:=2^8*bJ s n) (by omega),tY (bJ s n) 8 (bJ s (n+1)) (by omega) (by omega)];congr 1;all_goals omega
theorem vE (s:Bytes)(a:Int)(h:s.length≤1000000000):hG s a=some (fF s a):=by
 unfold hG fF;rw[wrap64 (n:=(s.length:Int)-4) (by omega) (by omega)];rw[wW,ae];cases hw:c8 s a 4 with
 |false=>rfl
 |true=>
  simp only[c8,aF]at hw;obtain⟨n,rfl⟩:=bg hw.1;obtain⟨x0,h0,e0⟩:=ik (s:=s) (i:=n) (by omega);obtain⟨x1,h1,e1⟩:=ik (s:=s) (i:=n+1) (by omega);obtain⟨x2,h2,e2⟩:=ik (s:=s) (i:=n+2) (by omega);obtain⟨x3,h3,e3⟩:=ik (s:=s) (i:=n+3) (by omega);have b0:=cV s n;have b1:=cV s (n+1);have b2:=cV s (n+2);have b3:=cV s (n+3)
  rw[wrap64 (n:=(n:Int)+1) (by omega) (by omega),wrap64 (n:=(n:Int)+2) (by omega) (by omega),wrap64 (n:=(n:Int)+3) (by omega) (by omega),h0,show(n:Int)+1=((n+1:Nat):Int) by omega,h1,
   show(n:Int)+2=((n+2:Nat):Int) by omega,h2,show(n:Int)+3=((n+3:Nat):Int) by omega,h3]
  simp only[aw,ai,ah,ae,aI];rw[aq (by omega),aq (by omega),aq (by omega),e0,e1,e2,e3];generalize bJ s n=p0 at*;generalize bJ s (n+1)=p1 at*;generalize bJ s (n+2)=p2 at*;generalize bJ s (n+3)=p3 at*;have f24:min (Int.toNat 24) (IntKind.bits .i64)=24:=rfl;have f16:min (Int.toNat 16) (IntKind.bits .i64)=16:=rfl;have f8:min (Int.toNat 8) (IntKind.bits .i64)=8:=rfl
  rw[ev (n:=p0) (by omega),ev (n:=p1) (by omega),ev (n:=p2) (by omega),ev (n:=p3) (by omega),f24,f16,f8,
   show((p0:Nat):Int)*2^24=((2^24*p0:Nat):Int) by omega,show((p1:Nat):Int)*2^16=((2^16*p1:Nat):Int) by omega,show((p2:Nat):Int)*2^8=((2^8*p2:Nat):Int) by omega,
   ev (n:=2^24*p0) (by omega),ev (n:=2^16*p1) (by omega),ev (n:=2^8*p2) (by omega),tY p0 24 (2^16*p1) (by omega) (by omega),
   show 2^24*p0+2^16*p1=2^16*(2^8*p0+p1) by omega,tY _ 16 (2^8*p2) (by omega) (by omega),
   show 2^16*(2^8*p0+p1)+2^8*p2=2^8*(2^8*(2^8*p0+p1)+p2) by omega,tY _ 8 p3 (by omega) (by omega)]
  congr 1;all_goals omega
def tN (c:Nat):Nat:=if c%2=1 then(c/2)^^^3988292384 else c/2
def lE:Nat→Nat→Nat
 |0,c=>c
 |n+1,c=>tN (lE n c)
def Vh (c:Nat)(s:Bytes):Nat:=s.foldl (λc b=>lE 8 (c^^^b.toNat)) c
def Kn (s:Bytes):Int:=4294967295-(Vh 4294967295 s:Int)
theorem qy {a b:Nat}(ha:a<4294967296)(hb:b<4294967296):a^^^b<4294967296:=Nat.xor_lt_two_pow (n:=32) ha hb
theorem Iu {c:Nat}(h:c<4294967296):tN c<4294967296:=by unfold tN;split;exact qy (by omega) (by omega);omega
theorem ur {c:Nat}(h:c<4294967296):∀n,lE n c<4294967296
 |0=>h
 |n+1=>Iu (ur h n)
theorem Ly {R:Type}(k0:Int→Int→Option R)(k:Int→Option R)(hk:∀x y,k0 x y=k x)(v0:Bytes)(v4:Int)(c:Nat)(h:c<4294967296):aZ (iQ k0 v0 v4) fuel ((c:Int),0)=k (lE 8 c:Int):=by
 have hfu:=dY
 have key:=uJ (T:=iQ k0 v0 v4) 8 (λ(_:Unit) i=>((lE i c:Int),(i:Int))) (λ_ s nx=>nx s) (λ_=>k (lE 8 c:Int))
  (λi s nx hi=>by
   have hc:=ur h i;simp only[iQ];have a1:=NY (lE i c) 1 (by omega) (by omega);have x1:=Ii (lE i c/2) 3988292384 (by omega) (by omega);simp only[Int.natCast_one]at a1
   rw[ak (by omega),ah,a1,Nat.and_one_is_mod,
    show min (Int.toNat 1) (IntKind.bits .i64)=1 from rfl,show Int.fdiv ((lE i c:Nat):Int) (2^1)=((lE i c/2:Nat):Int) from by rw[Int.fdiv_eq_ediv_of_nonneg _ (by omega)];rfl,
    show(3988292384:Int)=((3988292384:Nat):Int) from rfl,x1,
    ev (n:=lE i c%2) (by omega),ev (n:=(lE i c/2)^^^3988292384) (by have:=qy (a:=lE i c/2) (b:=3988292384) (by omega) (by omega);omega),aq (by omega),aq (by omega),wrap64 (n:=(i:Int)+1) (by omega) (by omega)]
   show _=nx ((tN (lE i c):Int),((i+1:Nat):Int));unfold tN;by_cases hp:lE i c%2=1;rw[hp,au rfl];rfl;have h0:lE i c%2=0:=by omega
   rw[h0,aq (by omega)];rfl)
  (λs nx=>by simp only[iQ];rw[af (by omega),ai,hk])
  fuel 0 () (by omega) (by omega)
 refine key.trans ?_;rfl
theorem KF {R:Type}(k0:Int→Int→Option R)(k:Int→Option R)(hk:∀x y,k0 x y=k x)(v0:Bytes)(v4:Int)(c:Nat)(h:c<4294967296):aZ (iI k0 v0 v4) fuel ((c:Int),0)=k (lE 8 c:Int):=by
 have hfu:=dY
 have key:=uJ (T:=iI k0 v0 v4) 8 (λ(_:Unit) i=>((lE i c:Int),(i:Int))) (λ_ s nx=>nx s) (λ_=>k (lE 8 c:Int))
  (λi s nx hi=>by
   have hc:=ur h i;simp only[iI];have a1:=RS (lE i c) 1 (by omega) (by omega);have x1:=OL (lE i c/2) 3988292384 (by omega) (by omega);simp only[Int.natCast_one]at a1
   rw[ak (by omega),ah,a1,Nat.and_one_is_mod,
    show min (Int.toNat 1) (IntKind.bits .u32)=1 from rfl,show Int.fdiv ((lE i c:Nat):Int) (2^1)=((lE i c/2:Nat):Int) from by rw[Int.fdiv_eq_ediv_of_nonneg _ (by omega)];rfl,
    show(3988292384:Int)=((3988292384:Nat):Int) from rfl,x1,
    vm (n:=lE i c%2) (by omega),vm (n:=(lE i c/2)^^^3988292384) (qy (by omega) (by omega)),aq (by omega),wrap64 (n:=(i:Int)+1) (by omega) (by omega)]
   show _=nx ((tN (lE i c):Int),((i+1:Nat):Int));unfold tN;by_cases hp:lE i c%2=1;rw[hp,au rfl];rfl;have h0:lE i c%2=0:=by omega
   rw[h0,aq (by omega)];rfl)
  (λs nx=>by simp only[iI];rw[af (by omega),ai,hk])
  fuel 0 () (by omega) (by omega)
 refine key.trans ?_;rfl
theorem NB (s:Bytes)(h:s.length≤1000000000):rq s=some (Kn s):=by
 unfold rq;have:=EP (T:=kJ (λ(y4:Int) (_:Int)=>some (ar (4294967295-y4))) s) s (λ(c:Nat) i=>((c:Int),(i:Int))) (λ_ c=>c<4294967296) (λb c=> .ok (lE 8 (c^^^b.toNat))) (λc=>some (4294967295-(c:Int))) (by omega) (λi hi c nx hI=>?hs) (λi hi c c' hI hg=>?hn) (λc nx hI=>?hf) 4294967295 (by omega)
 case hs=>
  have hb:=hC s[i]
  simp only[kJ]
  rw[ak (by omega),bD hi,ah,ae,ev (n:=s[i].toNat) (by omega),Ii c s[i].toNat (by omega) (by omega)]
  have hx:=qy hI (show s[i].toNat<4294967296 by omega)
  rw[ev (by omega),Ly _ (λy=>nx (y,(i:Int)+1)) (λx y=>by rw[wrap64 (by omega) (by omega)]) _ _ _ hx];rfl
 case hn=>
  cases hg
  exact ur (qy hI (by have:=hC s[i];omega)) 8
 case hf=>
  simp only[kJ]
  rw[af (by omega),ai,wrap64 (by omega) (by omega)]
 rw[Cq]at this;exact this
theorem not_xor (c:Nat)(h:c<4294967296):BitVec.toNat (BitVec.ofInt (IntKind.bits .u32) (IntKind.max .u32)^^^BitVec.ofInt (IntKind.bits .u32) (c:Int))=4294967295-c:=by show(BitVec.ofInt 32 4294967295^^^BitVec.ofInt 32 (c:Int)).toNat=_;rw[show BitVec.ofInt 32 4294967295=BitVec.allOnes 32 by decide,bW,BitVec.allOnes_xor,BitVec.toNat_not,ch,cm (show c<2^32 by omega)]
theorem MU (s:Bytes)(h:s.length≤1000000000):qZ s=some (Kn s):=by
 unfold qZ;have:=EP (T:=ky (λ(y4:Int) (_:Int)=>some (ar (IntKind.wrap .u32 (BitVec.toNat (BitVec.ofInt (IntKind.bits .u32) (IntKind.max .u32)^^^BitVec.ofInt (IntKind.bits .u32) y4))))) s) s (λ(c:Nat) i=>((c:Int),(i:Int))) (λ_ c=>c<4294967296) (λb c=> .ok (lE 8 (c^^^b.toNat))) (λc=>some (4294967295-(c:Int))) (by omega) (λi hi c nx hI=>?hs) (λi hi c c' hI hg=>?hn) (λc nx hI=>?hf) 4294967295 (by omega)
 case hs=>
  have hb:=hC s[i]
  simp only[ky]
  rw[ak (by omega),bD hi,ah,ae,vm (n:=s[i].toNat) (by omega),OL c s[i].toNat (by omega) (by omega)]
  have hx:=qy hI (show s[i].toNat<4294967296 by omega)
  rw[vm hx,KF _ (λy=>nx (y,(i:Int)+1)) (λx y=>by rw[wrap64 (by omega) (by omega)]) _ _ _ hx];rfl
 case hn=>
  cases hg
  exact ur (qy hI (by have:=hC s[i];omega)) 8
 case hf=>
  simp only[ky]
  rw[af (by omega),ai,not_xor c hI,vm (by omega),ev (by omega)]
  congr 1
  all_goals omega
 rw[Cq]at this;exact this
def xv (s:Bytes)(i:Nat):Nat:=bJ s (i/8)/2^(7-i%8)%2
theorem uk (s:Bytes)(i:Nat):xv s i<2:=Nat.mod_lt _ (by omega)
theorem CU (b k:Nat)(hb:b<256)(hk:k≤7):ar (BitVec.toNat (BitVec.ofInt (IntKind.bits .i64) (ar (Int.fdiv (b:Int) ((2^k:Nat):Int)))&&&BitVec.ofInt (IntKind.bits .i64) 1))=((b/2^k%2:Nat):Int):=by have e:Int.fdiv (b:Int) ((2^k:Nat):Int)=((b/2^k:Nat):Int):=(Int.ofNat_fdiv b (2^k)).symm;have h1:b/2^k≤b:=Nat.div_le_self _ _;rw[e,ev (n:=b/2^k) (by omega)];have:=NY (b/2^k) 1 (by omega) (by omega);rw[show((1:Nat):Int)=1 from rfl]at this;rw[this,Nat.and_one_is_mod];exact ev (by omega)
theorem HH (s:Bytes)(i:Nat)(hi:i/8<s.length)(h:s.length≤1000000000):nP s (i:Int)=some ((xv s i:Nat):Int):=by
 have e1:Int.tdiv (i:Int) 8=((i/8:Nat):Int):=(Int.ofNat_tdiv i 8).symm;have e2:Int.tmod (i:Int) 8=((i%8:Nat):Int):=(Int.ofNat_tmod i 8).symm;unfold nP;rw[aq (by omega),e1,wrap64 (n:=((i/8:Nat):Int)) (by omega) (by omega),bD hi,ae,aq (by omega),e2,wrap64 (n:=7-((i%8:Nat):Int)) (by omega) (by omega),aq (by omega)];have e3:(2:Int)^(min (Int.toNat (7-((i%8:Nat):Int))) (IntKind.bits .u8))=((2^(7-i%8):Nat):Int):=by rw[show min (Int.toNat (7-((i%8:Nat):Int))) (IntKind.bits .u8)=7-i%8 from by show min _ 8=_;omega];push_cast;rfl
 rw[e3,CU _ _ (hC _) (by omega),xv,bJ,cd hi]
theorem HZ (s:Bytes)(i:Nat)(hi:i/8<s.length)(h:s.length≤1000000000):nV s (i:Int)=some ((xv s i:Nat):Int):=by
 have e1:Int.tdiv (i:Int) 8=((i/8:Nat):Int):=(Int.ofNat_tdiv i 8).symm;have e2:Int.tmod (i:Int) 8=((i%8:Nat):Int):=(Int.ofNat_tmod i 8).symm;have hb:=hC s[i/8];unfold nV;rw[aq (by omega),e1,wrap64 (n:=((i/8:Nat):Int)) (by omega) (by omega),bD hi,ae,aq (by omega),e2,wrap64 (n:=7-((i%8:Nat):Int)) (by omega) (by omega),aq (by omega),ev (n:=s[i/8].toNat) (by omega)];have e3:(2:Int)^(min (Int.toNat (7-((i%8:Nat):Int))) (IntKind.bits .i64))=((2^(7-i%8):Nat):Int):=by rw[show min (Int.toNat (7-((i%8:Nat):Int))) (IntKind.bits .i64)=7-i%8 from by show min _ 64=_;omega];push_cast;rfl
 have e4:Int.fdiv ((s[i/8].toNat:Nat):Int) ((2^(7-i%8):Nat):Int)=((s[i/8].toNat/2^(7-i%8):Nat):Int):=(Int.ofNat_fdiv _ _).symm;have h1:s[i/8].toNat/2^(7-i%8)≤s[i/8].toNat:=Nat.div_le_self _ _;have key:=CU s[i/8].toNat (7-i%8) hb (by omega);rw[e4,ev (n:=s[i/8].toNat/2^(7-i%8)) (by omega)]at key;rw[e3,e4,key,xv,bJ,cd hi]
def Hd (s:Bytes)(a:Nat):Nat→Nat
 |0=>0
 |j+1=>2*Hd s a j+xv s (a+j)
theorem Mt (s:Bytes)(a:Nat):∀j,Hd s a j<2^j
 |0=>by simp[Hd]
 |j+1=>by have:=Mt s a j;have:=uk s (a+j);rw[Hd,Nat.pow_succ];omega
theorem zB (s:Bytes)(a j:Nat)(hj:j≤32):Hd s a j<4294967296:=dG (Mt s a j) (Nat.pow_le_pow_right (n:=2) (by omega) hj)
def Fh (s:Bytes)(a:Int):Int:=bif ((s.length:Int) !=16)|| !cQ a 0 96 then-1 else((Hd s a.toNat 32:Nat):Int)
theorem M0 (s:Bytes)(a:Int):lS s a=some (Fh s a):=by
 unfold lS Fh;rw[dq];cases hs:(s.length:Int) !=16 with|true=>rfl|false=>?_
 cases ha:cQ a 0 96 with|false=>rfl|true=>?_
 have h1:=br.1 ha;have h2:s.length=16:=by simp at hs;omega
 obtain⟨a,rfl⟩:=bg h1.1;simp only[ai,ae,aw,bX,aI];refine fR (λi=>(((Hd s a i:Nat):Int),((a+i:Nat):Int))) 32 (by omega) (λi nx hi=>?_) (λnx=>?_);have hw:=zB s a i (by omega);have hb:=uk s (a+i);simp only[iY];rw[wrap64 (n:=(a:Int)+32) (by omega) (by omega),ak (by omega),ah,aq (by omega),HH s (a+i) (by omega) (by omega),ae,wrap64 (n:=((a+i:Nat):Int)+1) (by omega) (by omega)];have e1:ar (((Hd s a i:Nat):Int)*2^(min (Int.toNat 1) (IntKind.bits .i64)))=((2^1*Hd s a i:Nat):Int):=by have:(2:Int)^(min (Int.toNat 1) (IntKind.bits .i64))=2:=rfl;rw[this,wrap64 (by omega) (by omega)];omega
 rw[e1,tY _ _ _ (by omega) (by omega)];rw[show(((a+i:Nat):Int)+1)=((a+(i+1):Nat):Int) by omega];rfl;simp only[iY];rw[wrap64 (n:=(a:Int)+32) (by omega) (by omega),af (by omega)];rfl
theorem NH (s:Bytes)(a:Int):mm s a=some (Fh s a):=by
 unfold mm Fh;rw[cu];cases hs:(s.length:Int) !=16 with|true=>rfl|false=>?_
 cases ha:cQ a 0 96 with|false=>rfl|true=>?_
 have h1:=br.1 ha;have h2:s.length=16:=by simp at hs;omega
 obtain⟨a,rfl⟩:=bg h1.1;simp only[ai,ae,aw,bX,aI];refine fR (λi=>(((Hd s a i:Nat):Int),(i:Int))) 32 (by omega) (λi nx hi=>?_) (λnx=>?_);have hw:=zB s a i (by omega);have hb:=uk s (a+i);simp only[je];rw[ak (by omega),ah,wrap64 (n:=(a:Int)+(i:Int)) (by omega) (by omega),show(a:Int)+(i:Int)=((a+i:Nat):Int) by omega,HZ s (a+i) (by omega) (by omega),ae,wrap64 (n:=(i:Int)+1) (by omega) (by omega)];rw[wrap64 (n:=2*((Hd s a i:Nat):Int)) (by omega) (by omega),wrap64 (by omega) (by omega),Hd];congr 1;simp only[je];rw[af (by omega)];rfl
def tA (s v:Bytes):Nat→Nat
 |0=>0
 |i+1=>if xv v i=1 then tA s v i^^^Hd s i 32 else tA s v i
theorem yd (s v:Bytes):∀i,tA s v i<4294967296
 |0=>by simp[tA]
 |i+1=>by have:=yd s v i;rw[tA];split;exact qy this (zB s i 32 (by omega));exact this
def pW (s v:Bytes):Int:=bif ((s.length:Int) !=16)||decide ((v.length:Int)>12) then-1 else((tA s v (8*v.length):Nat):Int)
theorem KH (s v:Bytes):lP s v=some (pW s v):=by
 unfold lP pW;cases hs:(s.length:Int) !=16 with|true=>rfl|false=>?_
 cases hv:decide ((v.length:Int)>12)with|true=>rfl|false=>?_
 have h2:s.length=16:=by simp at hs;omega
 have h3:v.length≤12:=by simp at hv;omega
 simp only[ai,ae,bX];refine fR (λi=>(((tA s v i:Nat):Int),(i:Int))) (8*v.length) (by omega) (λi nx hi=>?_) (λnx=>?_);have hw:=zB s i 32 (by omega);have hh:=yd s v i;have hb:=uk v i;have eW:Fh s (i:Int)=((Hd s i 32:Nat):Int):=by unfold Fh;rw[hs,br.2 (show(0:Int)≤(i:Int)∧(i:Int)≤96 by omega)];rfl
 simp only[iX];rw[wrap64 (n:=8*(v.length:Int)) (by omega) (by omega),ak (by omega),ah,HH v i (by omega) (by omega),ae,M0,ae,eW,Ii _ _ (by omega) (by omega),wrap64 (n:=(i:Int)+1) (by omega) (by omega),ev (Nat.lt_trans (qy hh hw) (by omega)),tA];by_cases h1:xv v i=1;rw[h1,au rfl];rfl;rw[aq h1,show(((xv v i:Nat):Int)==1)=false from by simp;omega];rfl;simp only[iX];rw[wrap64 (n:=8*(v.length:Int)) (by omega) (by omega),af (by omega)];rfl
theorem LC (s v:Bytes):mh s v=some (pW s v):=by
 unfold mh pW;cases hs:(s.length:Int) !=16 with|true=>rfl|false=>?_
 cases hv:decide ((v.length:Int)>12)with|true=>rfl|false=>?_
 have h2:s.length=16:=by simp at hs;omega
 have h3:v.length≤12:=by simp at hv;omega
 simp only[ai,ae,bX];refine fR (λi=>(((tA s v i:Nat):Int),(i:Int))) (8*v.length) (by omega) (λi nx hi=>?_) (λnx=>?_);have hw:=zB s i 32 (by omega);have hh:=yd s v i;have hb:=uk v i;have eW:Fh s (i:Int)=((Hd s i 32:Nat):Int):=by unfold Fh;rw[hs,br.2 (show(0:Int)≤(i:Int)∧(i:Int)≤96 by omega)];rfl
 simp only[jc];rw[wrap64 (n:=8*(v.length:Int)) (by omega) (by omega),ak (by omega),ah,HZ v i (by omega) (by omega),ae,NH,ae,eW,Ii _ _ (by omega) (by omega),wrap64 (n:=(i:Int)+1) (by omega) (by omega),ev (Nat.lt_trans (qy hh hw) (by omega)),tA];by_cases h1:xv v i=1;rw[h1,au rfl];rfl;rw[aq h1,show(((xv v i:Nat):Int)==1)=false from by simp;omega];rfl;simp only[jc];rw[wrap64 (n:=8*(v.length:Int)) (by omega) (by omega),af (by omega)];rfl
def n6 (f:Int×Int×Int×Int×Int):Bytes:=((fj f.2.1++fj f.2.2.1)++cI f.2.2.2.1)++cI f.2.2.2.2
theorem F6 (f:Int×Int×Int×Int×Int):lQ f=some (n6 f):=by have:=cR f.2.1;have:=cR f.2.2.1;have:=bn f.2.2.2.1;have:=bn f.2.2.2.2;simp only[lQ,tU,pt,ae];rw[aS (by omega),aS (by simp only[aj];omega),aS (by simp only[aj];omega)];rfl
theorem GY (f:Int×Int×Int×Int×Int):mi f=some (n6 f):=by have:=cR f.2.1;have:=cR f.2.2.1;have:=bn f.2.2.2.1;have:=bn f.2.2.2.2;simp only[mi,jw,gr,ae];rw[aS (by omega),aS (by simp only[aj];omega),aS (by simp only[aj];omega)];rfl
theorem B6 (s:Bytes)(f:Int×Int×Int×Int×Int):nd s f=some (pW s (n6 f)):=by simp only[nd,F6,KH,ae]
theorem Cx (s:Bytes)(f:Int×Int×Int×Int×Int):nv s f=some (pW s (n6 f)):=by simp only[nv,GY,LC,ae]
def n4 (s:eS)(f:Int×Int×Int×Int×Int):Int:=bif ((s.2.length:Int)==0)||decide (pW s.1 (n6 f)<0) then-1 else Int.tmod (pW s.1 (n6 f)) (s.2.length:Int)
theorem IH (s:eS)(f:Int×Int×Int×Int×Int):oz s f=some (n4 s f):=by
 unfold oz n4;rw[B6,ae];cases h0:(s.2.length:Int)==0 with|true=>rfl|false=>?_
 cases decide (pW s.1 (n6 f)<0)with|true=>rfl|false=>?_
 simp only[ai,ae,bX];rw[aq (by simpa using h0)]
theorem JI (s:eS)(f:Int×Int×Int×Int×Int):oH s f=some (n4 s f):=by
 unfold oH n4;rw[Cx,ae];cases h0:(s.2.length:Int)==0 with|true=>rfl|false=>?_
 cases decide (pW s.1 (n6 f)<0)with|true=>rfl|false=>?_
 simp only[ai,ae,bX];rw[aq (by simpa using h0)]
theorem vw (s:eS)(f:Int×Int×Int×Int×Int)(h:¬n4 s f<0):∃n:Nat,n4 s f=(n:Int)∧n<s.2.length:=by
 unfold n4 at h⊢;cases hc:((s.2.length:Int)==0)||decide (pW s.1 (n6 f)<0)with
 |true=>rw[hc]at h;simp at h
 |false=>
  rw[hc]at h;simp only[Bool.or_eq_false_iff,dj,cp]at hc;simp only[ai]at h⊢;have h1:0≤pW s.1 (n6 f):=by omega
  rw[cL h1]at h⊢;have:=dF (pW s.1 (n6 f)) (show(0:Int)<s.2.length by omega);obtain⟨n,hn⟩:=bg (show 0≤pW s.1 (n6 f)%(s.2.length:Int) by omega);exact⟨n,hn,by omega⟩
def ti (s:eS)(q:Int)(f:Int×Int×Int×Int×Int):Int:=bif !jh s q||decide (n4 s f<0) then-1 else s.2.getD (n4 s f).toNat 0
theorem DR (s:eS)(q:Int)(f:Int×Int×Int×Int×Int)(h:s.2.length≤1000000000):jK s q f=some (ti s q f):=by
 unfold jK ti;rw[IH,ae,yk s q h,ae];cases jh s q with|false=>rfl|true=>?_
 have hin:=vw s f;cases hd:decide (n4 s f<0)with|true=>rfl|false=>?_
 obtain⟨n,hn,hl⟩:=hin (of_decide_eq_false hd);simp only[aw,ai,ae,bX,hn,bD hl,aI,cd hl]
theorem E8 (s:eS)(q:Int)(f:Int×Int×Int×Int×Int)(h:s.2.length≤1000000000):jZ s q f=some (ti s q f):=by
 unfold jZ ti;rw[JI,ae,ud s q h,ae];cases jh s q with|false=>rfl|true=>?_
 have hin:=vw s f;cases hd:decide (n4 s f<0)with|true=>rfl|false=>?_
 obtain⟨n,hn,hl⟩:=hin (of_decide_eq_false hd);simp only[aw,ai,ae,bX,hn,bD hl,aI,cd hl]
theorem Bc (t:List Slot)(f:Int×Int×Int×Int×Int)(h:∀j,j<8→iE (dm t j) f=false):∀n k,walk t f n k= -1
 |0,_=>rfl
 |n+1,k=>by unfold walk;rw[h _ (tp f k),Bc t f h n (k+1)];split<;>rfl
theorem wo (f:Int×Int×Int×Int×Int):∀(t:List Slot)(m:Int),(∀s∈t,iE s f=false)→n5 f t m= -1
 |[],_,_=>rfl
 |s::r,m,h=>by unfold n5;rw[h s (by simp)];exact wo f r (m+1) (λx hx=>h x (by simp[hx]))
theorem FZ (t:List Slot)(f:Int×Int×Int×Int×Int)(h:gv t=true):n5 f t 0=walk t f 8 0:=by simp only[gv,ab,aQ,az,bI]at h;obtain⟨h8,hs⟩:=h;by_cases hex:∃j,j<t.length∧iE (dm t j) f=true;obtain⟨j,hj,hu,e⟩:=so f t 0 hex;have:=hs j (by omega);simp only[gR,ab,bH,aA,aQ]at this;simp only[iE,ab,aQ,aF]at hu;rcases this.2 with g|g;rw[hu.1]at g;simp at g;rw[hu.2]at g;rw[show((0:Int))=((0:Nat):Int) from rfl,e,g];omega;have hn:∀j,j<t.length→iE (dm t j) f=false:=λj hj=>Bool.eq_false_iff.2 λhu=>hex ⟨j,hj,hu⟩;rw[Bc t f (λj hj=>hn j (by omega)),wo];intro s hs';obtain⟨j,hj,rfl⟩:=List.getElem_of_mem hs';have:=hn j hj;rwa[mO hj]at this
def findF (t:List Slot)(f:Int×Int×Int×Int×Int):Int:=bif gv t then walk t f 8 0 else-1
theorem B5 (t:List Slot)(f:Int×Int×Int×Int×Int)(h:t.length≤1000000000):na t f=some (findF t f):=by
 unfold na findF;rw[Ay,ae];cases ht:gv t with|false=>rfl|true=>?_
 simp only[aw,ai,ah,DP t f h,ae,FZ t f ht]
theorem Cw (t:List Slot)(f:Int×Int×Int×Int×Int):nt t f=some (findF t f):=by
 unfold nt findF;rw[we,ae];cases ht:gv t with|false=>rfl|true=>?_
 have h8:t.length=8:=by simp only[gv,ab,aQ]at ht;exact ht.1
 simp only[aw,ai,ah,zd t f h8,ae]
theorem Ig (t:List Slot)(f:Int×Int×Int×Int×Int):∀n k,walk t f n k= -1∨∃m:Nat,walk t f n k=(m:Int)∧m<8
 |0,_=> .inl rfl
 |n+1,k=>by unfold walk;split;exact .inl rfl;split;exact .inr ⟨_,rfl,tp f k⟩;exact Ig t f n (k+1)
theorem xW (t:List Slot)(f:Int×Int×Int×Int×Int)(h:findF t f≥0):∃m:Nat,findF t f=(m:Int)∧m<t.length:=by
 unfold findF at h⊢;cases ht:gv t with
 |false=>rw[ht]at h;simp at h
 |true=>
  rw[ht]at h;simp only[ah]at h⊢;have h8:t.length=8:=by simp only[gv,ab,aQ]at ht;exact ht.1
  rcases Ig t f 8 0 with g|⟨m,g,hm⟩;omega;exact⟨m,g,by omega⟩
def df (m:List Bytes):Bool:=m.all (λx=>(x.length:Int)==128)&&decide ((m.length:Int)≤64)
theorem ub (m:List Bytes)(h:m.length≤1000000000):kN m=some (df m):=by
 unfold kN df;rw[lq (hit:=some false) (fin:=some (decide ((m.length:Int)≤64))) (λx:Bytes=>(x.length:Int)==128) m (by omega) (λi hi nx=>?hs) (λnx=>?hf)]
 case hs=>
  simp only[jV]
  rw[ak (by omega),bD hi,wrap64 (by omega) (by omega)];rfl
 case hf=>
  simp only[jV]
  rw[af (by omega)];rfl
 cases m.all (λx=>(x.length:Int)==128)<;>rfl
theorem F8 (m:List Bytes)(h:m.length≤1000000000):qn m=some (df m):=ub m h
def yy:aV:=(0,0,0,false)
def yx (m:aV):Bool:=cQ m.1 0 7&&(cQ m.2.1 0 1023&&cQ m.2.2.1 0 63)
def l7 (d p:Int)(m:aV):Bool:=(m.1==d)&&(m.2.1==p)
def yw (l:List aV)(i:Nat):Bool:=yx (l.getD i yy)&&(List.range i).all (λj=> !(l7 (l.getD i yy).1 (l.getD i yy).2.1 (l.getD j yy)))
def dH (l:List aV):Bool:=decide ((l.length:Int)≤96)&&(List.range l.length).all (yw l)
theorem Cy (l:List aV)(h:l.length≤1000000000):k6 l=some (dH l):=by
 unfold k6 dH;rw[lr (hit:=some false) (fin:=some true) (yw l) l.length (by omega) (λi nx hi=>?hs) (λnx=>?hf)]
 case hs=>
  simp only[ic]
  rw[ak (by omega),bD hi,wrap64 (by omega) (by omega)]
  simp only[ah,ae,cu,bm]
  rw[lr (hit:=some false) (fin:=nx ((i:Int)+1)) (λj=> !(l7 l[i].1 l[i].2.1 (l.getD j yy))) i (by omega) (λj nx hj=>?hs2) (λnx=>?hf2)]
  case hs2=>
   have hjl:j<l.length:=by omega
   simp only[gE]
   rw[ak (by omega),bD hjl,wrap64 (by omega) (by omega)]
   simp only[ah,ae,bm,cd hjl,l7,cF,dv];rfl
  case hf2=>
   simp only[gE]
   rw[af (by omega)];rfl
  simp only[yw,yx,cd hi,cT]
  cases cQ l[i].1 0 7<;>cases cQ l[i].2.1 0 1023<;>cases cQ l[i].2.2.1 0 63<;>cases (List.range i).all (λj=> !(l7 l[i].1 l[i].2.1 (l.getD j yy)))<;>rfl
 case hf=>
  simp only[ic]
  rw[af (by omega)];rfl
 have e:decide ((l.length:Int)>96)= !decide ((l.length:Int)≤96):=by rw[bT];simp
 rw[e];cases decide ((l.length:Int)≤96)<;>cases (List.range l.length).all (yw l)<;>rfl
def HR (l:List aV)(d p:Int):Int:=match l.findIdx? (l7 d p)with|some i=>(i:Int)|none=> -1
theorem KL (l:List aV)(d p:Int)(h:l.length≤1000000000):jQ l d p=some (HR l d p):=by
 unfold jQ HR;rw[sZ (hit:=λi=>some i) (fin:=some (-1)) (l7 d p) l (by omega) (λi hi nx=>?hs) (λnx=>?hf)]
 case hs=>
  simp only[gC]
  rw[ak (by omega),bD hi,wrap64 (by omega) (by omega)]
  simp only[ah,ae,bm,cF,l7];rfl
 case hf=>
  simp only[gC]
  rw[af (by omega)];rfl
 cases l.findIdx? (l7 d p)<;>rfl
theorem GN (l:List aV)(i:Nat)(hi:i<l.length):(HR l l[i].1 l[i].2.1==(i:Int))=(List.range i).all (λj=> !(l7 l[i].1 l[i].2.1 (l.getD j yy))):=by
 have hself:l7 l[i].1 l[i].2.1 l[i]=true:=by simp[l7]
 unfold HR;cases hq:l.findIdx? (l7 l[i].1 l[i].2.1)with
 |none=>rw[List.findIdx?_eq_none_iff]at hq;rw[hq l[i] (bP hi)]at hself;cases hself
 |some k=>
  rw[List.findIdx?_eq_some_iff_getElem]at hq;obtain⟨hk,hpk,hlt⟩:=hq;rw[bT,az];simp only[bI,aQ,aA];constructor;intro e j hj;have hjl:j<l.length:=by omega
  rw[cd hjl];have:=hlt j (by omega);simpa using this;intro hall;rcases Nat.lt_trichotomy k i with hki|hki|hki;have:=hall k hki;rw[cd hk,hpk]at this;cases this;omega;have:=hlt i hki;rw[hself]at this;simp at this
theorem B7 (l:List aV)(h:l.length≤1000000000):kU l=some (dH l):=by
 unfold kU dH;rw[lr (hit:=some false) (fin:=some (decide ((l.length:Int)≤96))) (yw l) l.length (by omega) (λi nx hi=>?hs) (λnx=>?hf)]
 case hs=>
  simp only[hH]
  rw[ak (by omega),bD hi,wrap64 (by omega) (by omega)]
  simp only[ah,ae,dq,bm,KL _ _ _ h,bne,GN l i hi,yw,yx,cd hi]
  cases cQ l[i].1 0 7<;>cases cQ l[i].2.1 0 1023<;>cases cQ l[i].2.2.1 0 63<;>cases (List.range i).all (λj=> !(l7 l[i].1 l[i].2.1 (l.getD j yy)))<;>rfl
 case hf=>
  simp only[hH]
  rw[af (by omega)];rfl
 cases decide ((l.length:Int)≤96)<;>cases (List.range l.length).all (yw l)<;>rfl
def tz (n:Int)(l:List Int)(i:Nat):Bool:=cQ (l.getD i 0) 0 (n-1)&& !((l.take i).contains (l.getD i 0))
def dn (p:dk):Bool:=cQ p.1 0 130944&&(cQ p.2.1 1 512&&(cQ p.2.2.1 0 16&&(List.range p.2.2.2.length).all (tz p.2.2.1 p.2.2.2)))
def rP (n:Int)(l:List Int):List Bool:=(List.range n.toNat).map λk:Nat=>l.contains (k:Int)
theorem AU (n:Int)(l:List Int):(rP n l).length=n.toNat:=by simp[rP]
theorem td (n:Int)(l:List Int)(k:Nat)(h:k<(rP n l).length):(rP n l)[k]=l.contains (k:Int):=by simp[rP]
theorem JE (n:Int)(l:List Int)(k:Nat)(h:k<n.toNat):(rP n l).set k true=rP n (l++[(k:Int)]):=by
 apply List.ext_getElem;simp[rP];intro j h1 h2;rw[List.getElem_set];split;rename_i e;subst e;rw[td];simp;rename_i e;rw[td,td];simp only[List.contains_append];have:([(k:Int)].contains (j:Int))=false:=by simp;omega
 rw[this];simp
theorem EF {T:(List Bool×Int→Option Bool)→List Bool×Int→Option Bool}(n:Int)(l:List Int)(hl:l.length≤1000000000)
 (hs:∀i (hi:i<l.length)(s:List Bool) nx,T nx (s,(i:Int))=aa (cond (!(cQ l[i] 0 (n-1))) (some true) (aa (idx s l[i]) λx=>some x)) λq=>
  cond q (some false) (aa (idx s l[i]) λ_=>aa (idx s l[i]) λ_=>nx (s.set l[i].toNat true,((i+1:Nat):Int)))) (hf:∀s nx,T nx (s,(l.length:Int))=some true):
 aZ T fuel (List.replicate n.toNat false,0)=some ((List.range l.length).all (tz n l)):=by
 have e0:(List.replicate n.toNat false,(0:Int))=(rP n (l.take 0),((0:Nat):Int)):=by congr 1;simp only[rP,List.take_zero,List.contains_nil,List.map_const',List.length_range]
 rw[e0,Ag (hit:=some false) (fin:=some true) (λi=>(rP n (l.take i),(i:Int))) (tz n l) l.length (by omega) (λi nx hi hp=>?hs) (λ_ nx=>hf _ nx)]
 case hs=>
  rw[hs i hi]
  unfold tz
  rw[cd hi]
  by_cases hin:cQ l[i] 0 (n-1)=true
  ·have hb:=hin
   rw[br]at hb
   obtain⟨k,hk⟩:∃k:Nat,l[i]=(k:Int):=⟨l[i].toNat,by omega⟩
   have hkn:k<(rP n (l.take i)).length:=by rw[AU];omega
   rw[hin,hk,bD hkn,td]
   simp only[aw,ai,ae,bR,dv,aI]
   rw[JE _ _ _ (by rw[AU]at hkn;exact hkn),←hk,←List.take_succ_eq_append_getElem hi]
  ·have hin':cQ l[i] 0 (n-1)=false:=by simpa using hin
   rw[hin'];rfl
 cases (List.range l.length).all (tz n l)<;>rfl
theorem u6 (p:dk)(h:p.2.2.2.length≤1000000000):lB p=some (dn p):=by
 unfold lB dn;simp only[cu,ae,bm];by_cases hn:cQ p.2.2.1 0 16=true
 ·have hb:=hn;rw[br]at hb;rw[au (by omega),aS (by omega),EF p.2.2.1 p.2.2.2 h (λi hi s nx=>?hs) (λs nx=>?hf)]
  case hs=>
   simp only[mu]
   rw[ak (by omega),bD hi,wrap64 (n:=(i:Int)+1) (by omega) (by omega),wrap64 (n:=p.2.2.1-1) (by omega) (by omega)]
   simp only[ah,ae,cu];rfl
  case hf=>
   simp only[mu]
   rw[af (by omega)];rfl
  rw[hn];cases cQ p.1 0 130944<;>cases cQ p.2.1 1 512<;>rfl
 have hn':cQ p.2.2.1 0 16=false:=by simpa using hn
 rw[hn'];cases cQ p.1 0 130944<;>cases cQ p.2.1 1 512<;>rfl
theorem uC (p:dk)(h:p.2.2.2.length≤1000000000):jq p=some (dn p):=by
 unfold jq dn;simp only[dq,ae,bm];by_cases hn:cQ p.2.2.1 0 16=true
 ·have hb:=hn;rw[br]at hb;rw[au (by omega),aS (by omega),EF p.2.2.1 p.2.2.2 h (λi hi s nx=>?hs) (λs nx=>?hf)]
  case hs=>
   simp only[lT]
   rw[ak (by omega),bD hi,wrap64 (n:=(i:Int)+1) (by omega) (by omega),wrap64 (n:=p.2.2.1-1) (by omega) (by omega)]
   simp only[ah,ae,dq];rfl
  case hf=>
   simp only[lT]
   rw[af (by omega)];rfl
  rw[hn];cases cQ p.1 0 130944<;>cases cQ p.2.1 1 512<;>rfl
 have hn':cQ p.2.2.1 0 16=false:=by simpa using hn
 rw[hn'];cases cQ p.1 0 130944<;>cases cQ p.2.1 1 512<;>rfl
def eA (n:Int):Bool:=(n==2)||((n==4)||((n==8)||(n==16)))
theorem tV (n:Int):mC n=some (eA n):=by simp only[mC,bm,ae,eA,cT]
theorem sH (n:Int):kC n=some (eA n):=tV n
theorem eG {n:Int}:eA n=true↔n=2∨n=4∨n=8∨n=16:=by simp[eA]
theorem qS (x:Int)(k:Nat)(hk:k≤64):ar x%(2^k:Int)=x%(2^k:Int):=by
 obtain⟨c,hc⟩:∃c:Int,(18446744073709551616:Int)=2^k*c:=⟨2^(64-k),by rw[←Int.pow_add,show k+(64-k)=64 by omega];rfl⟩
 have:ar x=x∨∃q:Int,ar x=x+18446744073709551616*q:=by
  right;simp only[ar,dK,IntKind.wrap,IntKind.bits,IntKind.signed];simp;have h1:x=x%18446744073709551616+18446744073709551616*(x/18446744073709551616):=by omega
  split;exact⟨-(x/18446744073709551616)-1,by omega⟩;exact⟨-(x/18446744073709551616),by omega⟩
 rcases this with h|⟨q,h⟩;rw[h];rw[h,hc,Int.mul_assoc,Int.add_mul_emod_self_left]
theorem rZ (x:Int)(k:Nat)(hk:k<63):((BitVec.ofInt (IntKind.bits .i64) x&&&BitVec.ofInt (IntKind.bits .i64) (2^k-1)).toNat:Int)=x%2^k:=by
 have h2:(2:Int)^k≤2^62:=by have:(2:Nat)^k≤2^62:=Nat.pow_le_pow_right (by omega) (by omega);exact_mod_cast this
 have h0:(1:Int)≤2^k:=by have:1≤(2:Nat)^k:=Nat.one_le_two_pow;exact_mod_cast this
 have hm:(BitVec.ofInt (IntKind.bits .i64) (2^k-1)).toNat=2^k-1:=by
  show(BitVec.ofInt 64 (2^k-1)).toNat=2^k-1;rw[BitVec.toNat_ofInt,Int.emod_eq_of_lt (by omega) (by omega)];have:((2:Int)^k-1)=((2^k-1:Nat):Int):=by have:1≤(2:Nat)^k:=Nat.one_le_two_pow;push_cast [this];rfl
  rw[this];rfl
 rw[BitVec.toNat_and,hm,Nat.and_two_pow_sub_one_eq_mod];show(((BitVec.ofInt 64 x).toNat%2^k:Nat):Int)=x%2^k;rw[BitVec.toNat_ofInt];have hx:0≤x%18446744073709551616:=by omega
 have e:(((x%18446744073709551616).toNat%2^k:Nat):Int)=(x%18446744073709551616)%2^k:=by push_cast;rw[Int.toNat_of_nonneg hx]
 refine e.trans ?_;exact Int.emod_emod_of_dvd x ⟨2^(64-k),by rw[←Int.pow_add,show k+(64-k)=64 by omega];rfl⟩
theorem AG (x n:Int)(h0:0<n)(h1:n≤4611686018427387904):eK x n=some (x%n):=by
 unfold eK;have:=dN x (show n≠0 by omega);have:=dF x h0;have hn:(n.natAbs:Int)=n:=by omega
 rw[aq (by omega),Int.tmod_eq_emod];split;rw[af (by omega)];simp;rw[ak (by omega),wrap64 (by omega) (by omega)];simp only[ah,hn];congr 1;omega
def dV (r:(Int×Int×Int×Int)):Int:=if eA r.2.1 then(r.2.2.2-r.2.2.1)%(2*r.2.1) else 0
theorem Fa (r:(Int×Int×Int×Int)):kQ r=some (dV r):=by
 unfold kQ dV;rw[tV,ae];cases hs:eA r.2.1 with
 |false=>rfl
 |true=>
  simp only[aw,ai,aY];congr 1;rcases eG.1 hs with h|h|h|h<;>rw[h];have e:ar (ar (2*2)-1)=2^2-1:=by decide
  rw[e,rZ _ 2 (by omega),qS _ 2 (by omega),wrap64 (by omega) (by omega)];rfl;have e:ar (ar (2*4)-1)=2^3-1:=by decide
  rw[e,rZ _ 3 (by omega),qS _ 3 (by omega),wrap64 (by omega) (by omega)];rfl;have e:ar (ar (2*8)-1)=2^4-1:=by decide
  rw[e,rZ _ 4 (by omega),qS _ 4 (by omega),wrap64 (by omega) (by omega)];rfl;have e:ar (ar (2*16)-1)=2^5-1:=by decide
  rw[e,rZ _ 5 (by omega),qS _ 5 (by omega),wrap64 (by omega) (by omega)];rfl
theorem KP (r:(Int×Int×Int×Int)):nj r=some (dV r):=by unfold nj dV;rw[sH,ae];cases hs:eA r.2.1 with|false=>rfl|true=>simp only[aw,ai,aY];have hb:=eG.1 hs;rw[wrap64 (n:=2*r.2.1) (by omega) (by omega)];have a1:=dN r.2.2.2 (show 2*r.2.1≠0 by omega);have a2:=dF r.2.2.2 (show 0<2*r.2.1 by omega);have a3:=dN r.2.2.1 (show 2*r.2.1≠0 by omega);have a4:=dF r.2.2.1 (show 0<2*r.2.1 by omega);simp only[AG _ (2*r.2.1) (show 0<2*r.2.1 by omega) (by omega),ae];rw[wrap64 (by omega) (by omega),←Int.sub_emod]
def dZ (r:(Int×Int×Int×Int)):Bool:=cQ r.1 0 130944&&(eA r.2.1&&(cQ r.2.2.1 0 (2*r.2.1-1)&&(cQ r.2.2.2 0 (2*r.2.1-1)&&decide (dV r≤r.2.1))))
theorem vY {n:Int}(h:eA n=true):ar (ar (2*n)-1)=2*n-1:=by have:=eG.1 h;rw[wrap64 (n:=2*n) (by omega) (by omega),wrap64 (by omega) (by omega)]
theorem zi (r:(Int×Int×Int×Int)):lC r=some (dZ r):=by unfold lC dZ;simp only[cu,tV,Fa,ae,bm,cF];cases hs:eA r.2.1 with|false=>rfl|true=>rw[vY hs]
theorem DN (r:(Int×Int×Int×Int)):nM r=some (dZ r):=by unfold nM dZ;simp only[dq,sH,KP,ae,bm,cF];cases hs:eA r.2.1 with|false=>rfl|true=>rw[vY hs]
theorem Gr (p:dk)(h:p.2.2.2.length≤1000000000):oT p=some p:=by unfold oT;rw[aS (by simp;omega)];rfl
theorem sc (l:List Int)(h:l.length≤1000000000):iL l=some l:=by unfold iL;rw[aS (by simp;omega)];rfl
theorem CY (p:dk)(h:p.2.2.2.length≤1000000000):kA p=some p:=by unfold kA;rw[sc _ h];rfl
def ri (p:dk)(l:List Int):dk:=(p.1,p.2.1,p.2.2.1,p.2.2.2++l)
def uA (p:dk)(l:List Int):Bool:=dn p&&dn (ri p l)
def IC (p:dk)(l:List Int):dk×Bool:=bif uA p l then(ri p l,true) else(p,false)
theorem KG (p:dk)(l:List Int)(h:p.2.2.2.length+l.length≤1000000000):fz p l=some (IC p l):=by unfold fz;rw[CY p (by omega),ae,aS (by omega),uC p (by omega)];rw[uC (p.1,p.2.1,p.2.2.1,p.2.2.2++l) (by simp;omega)];simp only[ae,bm,IC,uA];show _=some (bif dn p&&dn (p.1,p.2.1,p.2.2.1,p.2.2.2++l) then _ else _);cases dn p<;>cases dn (p.1,p.2.1,p.2.2.1,p.2.2.2++l)<;>rfl
theorem Pe (p:dk)(l:List Int):(IC p l).2=uA p l:=by unfold IC;cases uA p l<;>rfl
def md (n:Int)(s:rT):Bool:=cQ s.2.1 1 n&&cQ s.1 0 65535
def ew (l:List rT):List Int:=l.flatMap (·.2.2)
def jC (l:List rT):Int:=(l.map (·.2.1)).sum
def Q6 (t:lG):Bool:=dZ t.1&&(dn t.2.1&&(cQ t.2.2.2 0 65535&&(t.2.2.1.all (md t.1.2.1)&&(uA t.2.1 (ew t.2.2.1)&&decide (jC t.2.2.1≤t.1.2.1)))))
theorem uq (n:Int):∀l:List rT,l.all (md n)=true→0≤jC l
 |[],_=>by simp[jC]
 |x::l,h=>by simp only[ba,ab]at h;have:=uq n l h.2;have hx:=h.1;unfold md at hx;simp only[ab,br]at hx;simp only[jC,cl,List.sum_cons]at this⊢;omega
theorem Ax (p:dk)(n:Int)(hn:n≤16)(fin:Int×List Int→Option Bool)(hfin:∀s:Int×List Int,p.2.2.2.length+s.2.length≤1000000000→fin s=some (uA p s.2)):
 ∀(l:List rT)(left:Int)(acc:List Int),0≤left→left≤n→p.2.2.2.length+(acc.length+(ew l).length)≤1000000000→
 rK (λx (s:Int×List Int) k=>cond (decide (x.2.1<1)||(decide (x.2.1>s.1)|| !(cQ x.1 0 65535))) (some false) (room (s.2.length+x.2.2.length) (k (ar (s.1-x.2.1),s.2++x.2.2)))) fin l (left,acc)
  =some (l.all (md n)&&(uA p (acc++ew l)&&decide (jC l≤left)))
 |[],left,acc,h0,h1,h2=>by rw[rK,hfin _ (by simp[ew]at h2;exact h2)];simp[ew,jC,h0]
 |x::l,left,acc,h0,h1,h2=>by
  have hb:ew (x::l)=x.2.2++ew l:=by simp[ew]
  have hc:jC (x::l)=x.2.1+jC l:=by simp only[jC,cl,List.sum_cons]
  rw[hb,aj]at h2;rw[rK,ba,hb,hc];by_cases c1:x.2.1<1;have e:md n x=false:=by unfold md cQ;rw[af (show¬1≤x.2.1 by omega)];rfl
  rw[e,ak c1];rfl;rw[af c1];by_cases c2:x.2.1>left;rw[ak c2];simp only[Bool.or_true,cE,eT,ah];cases ha:l.all (md n)with|false=>simp|true=>have:=uq n l ha;rw[af (show¬x.2.1+jC l≤left by omega)];simp
  rw[af c2];have e:md n x=cQ x.1 0 65535:=by have:cQ x.2.1 1 n=true:=br.2 ⟨by omega,by omega⟩;unfold md;rw[this];rfl
  rw[e];cases cQ x.1 0 65535 with
  |false=>rfl
  |true=>
   simp only[cE,aw,ai,bR];rw[aS (by omega),wrap64 (by omega) (by omega),Ax p n hn fin hfin l _ _ (by omega) (by omega) (by rw[aj];omega),aB];have e:decide (jC l≤left-x.2.1)=decide (x.2.1+jC l≤left):=by rw[bT];simp;omega
   rw[e]
theorem Ph (t:lG)(h1:t.2.2.1.length≤1000000000)(h2:t.2.1.2.2.2.length+(ew t.2.2.1).length≤1000000000):s9 t=some (Q6 t):=by
 unfold s9 Q6;simp only[DN,uC _ (show t.2.1.2.2.2.length≤1000000000 by omega),dq,ae,bm];cases hr:dZ t.1 with
 |false=>rfl
 |true=>
  have hn:0≤t.1.2.1∧t.1.2.1≤16:=by unfold dZ at hr;simp only[ab]at hr;have:=eG.1 hr.2.1;omega
  have hfu:=dY;have key:=ta (R:=Bool) (T:=lY (λ(_:Int) (y9:List Int) (_:Int)=>aa (fz t.2.1 y9) λr11=>some r11.2) (λ(y12:Bool) (_:Int) (_:List Int) (_:Int)=>some y12) false t.2.2.1 ((List.length t.2.2.1:Int)) t) t.2.2.1 (λ(s:Int×List Int) i=>(s.1,s.2,(i:Int))) (λx (s:Int×List Int) k=>cond (decide (x.2.1<1)||(decide (x.2.1>s.1)|| !(cQ x.1 0 65535))) (some false) (room (s.2.length+x.2.2.length) (k (ar (s.1-x.2.1),s.2++x.2.2)))) (λs=>aa (fz t.2.1 s.2) λr12=>some r12.2) (λi hi s nx=>by simp only[lY];rw[ak (by omega),bD hi,wrap64 (n:=(i:Int)+1) (by omega) (by omega)];simp only[ah,ae,dq,bm,cT];rfl) (λs nx=>by simp only[lY];rw[af (by omega)];rfl) fuel 0 (t.1.2.1,([]:List Int)) (by omega) (by omega);rw[cS,Ax t.2.1 t.1.2.1 (by omega) _ (λs hs=>by rw[KG _ _ hs,ae,Pe]) _ _ _ (by omega) (by omega) (by simpa using h2)]at key;cases dn t.2.1 with|false=>rfl|true=>cases cQ t.2.2.2 0 65535 with|false=>rfl|true=>refine key.trans ?_;simp
def kI (s:cj):Bool:=cQ s.2.1 0 65535&&(cQ s.2.2.1 0 65535&&(!decide ((List.length s.2.2.2.2.2.2.2:Int)>320)&&
 (bif s.1==17 then(s.2.2.2.1==0)&&((s.2.2.2.2.1==0)&&((s.2.2.2.2.2.1==0)&&(s.2.2.2.2.2.2.1==0)))
  else(s.1==6)&&(cQ s.2.2.2.1 0 4294967295&&(cQ s.2.2.2.2.1 0 4294967295&&(cQ s.2.2.2.2.2.1 0 31&&cQ s.2.2.2.2.2.2.1 0 65535))))))
theorem H3 (s:cj):jz s=some (kI s):=by simp only[jz,cu,ae,bm,cF,cT,cN,Bool.not_or,dv,Bool.and_assoc,kI]
theorem HJ (s:cj):jr s=some (kI s):=by simp only[jr,dq,ae,bm,cF,cT,cN,Bool.not_or,dv,Bool.and_assoc,kI];by_cases h:s.1=17;rw[h];rfl;rw[show(s.1==17)=false from by simpa using h];cases s.1==6<;>rfl
def vA (f:Int):Bool:=(f==16)||(f==17)||(f==24)||(f==25)
theorem xZ (f:Int)(h:cQ f 0 31=true):(ar (BitVec.toNat (BitVec.ofInt (IntKind.bits .i64) f&&&~~~ BitVec.ofInt (IntKind.bits .i64) 9))==16)=vA f:=by
 have key:∀k:Fin 32,(ar (BitVec.toNat (BitVec.ofInt (IntKind.bits .i64) (k.val:Int)&&&~~~ BitVec.ofInt (IntKind.bits .i64) 9))==16)=vA (k.val:Int):=by decide
 rw[br]at h;have:=key ⟨f.toNat,by omega⟩;rwa[show((f.toNat:Nat):Int)=f by omega]at this
theorem F0 (f:Int)(h:cQ f 0 31=true):l5 f=some (vA f):=by
 have key:∀k:Fin 32,((ar (BitVec.toNat (BitVec.ofInt (IntKind.bits .i64) (k.val:Int)&&&BitVec.ofInt (IntKind.bits .i64) 16)) !=0)&&(ar (BitVec.toNat (BitVec.ofInt (IntKind.bits .i64) (k.val:Int)&&&~~~ BitVec.ofInt (IntKind.bits .i64) 25))==0))=vA (k.val:Int):=by decide
 rw[br]at h;have:=key ⟨f.toNat,by omega⟩;rw[show((f.toNat:Nat):Int)=f by omega]at this;simp only[l5,bm,ae,cF];rw[this]
theorem vX {s:cj}(h:kI s=true)(h6:(s.1==6)=true):cQ s.2.2.2.2.2.1 0 31=true:=by
 have:s.1=6:=by simpa using h6
 unfold kI at h;rw[this]at h;simp only[ab]at h;have h:=h.2.2.2;simp at h;exact h.2.2.1
def lN (p:aG):Bool:=cQ p.1 0 281474976710655&&(cQ p.2.1 0 281474976710655&&(cQ p.2.2.1 (-1) 4095&&(cQ p.2.2.2.1 0 255&&(cQ p.2.2.2.2.2.1 0 255&&(cQ p.2.2.2.2.1 0 65535&&(cQ p.2.2.2.2.2.2.1 0 4294967295&&(cQ p.2.2.2.2.2.2.2.1 0 4294967295&&kI p.2.2.2.2.2.2.2.2)))))))
def dD (p:aG):Bool:=lN p&&(decide ((List.length p.2.2.2.2.2.2.2.2.2.2.2.2.2.2.2:Int)≤128)||(p.2.2.2.2.2.2.2.2.1==6)&&vA p.2.2.2.2.2.2.2.2.2.2.2.2.2.1)
theorem su {p:aG}(h:lN p=true):kI p.2.2.2.2.2.2.2.2=true:=by unfold lN at h;simp only[ab]at h;exact h.2.2.2.2.2.2.2.2
theorem pb (p:aG):fg p=some (dD p):=by unfold fg dD;simp only[cu,H3,ae,bm,cF,cT,cN,Bool.not_or,dv];rw[show(cQ p.1 0 281474976710655&&(cQ p.2.1 0 281474976710655&&(cQ p.2.2.1 (-1) 4095&&(cQ p.2.2.2.1 0 255&&(cQ p.2.2.2.2.2.1 0 255&&(cQ p.2.2.2.2.1 0 65535&&(cQ p.2.2.2.2.2.2.1 0 4294967295&&(cQ p.2.2.2.2.2.2.2.1 0 4294967295&&kI p.2.2.2.2.2.2.2.2))))))))=lN p from rfl];cases hh:lN p with|false=>rfl|true=>cases h6:p.2.2.2.2.2.2.2.2.1==6 with|false=>simp|true=>rw[xZ _ (vX (su hh) h6)];simp[Bool.or_comm]
theorem o7 (p:aG):fe p=some (dD p):=by
 unfold fe dD;simp only[dq,HJ,ae];have e:∀X:Option Bool,(cond (cQ p.1 0 281474976710655) (cond (cQ p.2.1 0 281474976710655) (cond (cQ p.2.2.1 (-1) 4095) (cond (cQ p.2.2.2.1 0 255) (cond (cQ p.2.2.2.2.2.1 0 255) (cond (cQ p.2.2.2.2.1 0 65535) (cond (cQ p.2.2.2.2.2.2.1 0 4294967295) (cond (cQ p.2.2.2.2.2.2.2.1 0 4294967295) (cond (kI p.2.2.2.2.2.2.2.2) X (some false)) (some false)) (some false)) (some false)) (some false)) (some false)) (some false)) (some false)) (some false))=cond (lN p) X (some false):=by
  intro X;unfold lN;cases cQ p.1 0 281474976710655 with|false=>rfl|true=>?_
  cases cQ p.2.1 0 281474976710655 with|false=>rfl|true=>?_
  cases cQ p.2.2.1 (-1) 4095 with|false=>rfl|true=>?_
  cases cQ p.2.2.2.1 0 255 with|false=>rfl|true=>?_
  cases cQ p.2.2.2.2.2.1 0 255 with|false=>rfl|true=>?_
  cases cQ p.2.2.2.2.1 0 65535 with|false=>rfl|true=>?_
  cases cQ p.2.2.2.2.2.2.1 0 4294967295 with|false=>rfl|true=>?_
  cases cQ p.2.2.2.2.2.2.2.1 0 4294967295<;>rfl
 rw[e];cases hh:lN p with|false=>rfl|true=>cases h6:p.2.2.2.2.2.2.2.2.1==6 with|false=>simp[bm]|true=>rw[F0 _ (vX (su hh) h6)];simp only[ah,ae,bm,cT,bR]
def rl (q:(Int×Int×Int)):Bool:=cQ q.1 0 130944&&(eA q.2.1&&cQ q.2.2 0 (ar ((ar (2*q.2.1))-1)))
theorem IL (q:(Int×Int×Int)):lV q=some (rl q):=by simp only[lV,dq,sH,ae,bm,cF,rl]
def Q4:Hi:=((0,0,0,0,0,0,0,0,0,0,0,0,0,0,0,([]:Bytes)),0,0)
def H9 (p:Hi):Bool:=(p.1.1==0)&&((p.1.2.1==0)&&((p.1.2.2.1==0)&&((p.1.2.2.2.1==0)&&((p.1.2.2.2.2.1==0)&&((p.1.2.2.2.2.2.1==0)&&((p.1.2.2.2.2.2.2.1==0)&&((p.1.2.2.2.2.2.2.2.1==0)&&((p.1.2.2.2.2.2.2.2.2.1==0)&&((p.1.2.2.2.2.2.2.2.2.2.1==0)&&((p.1.2.2.2.2.2.2.2.2.2.2.1==0)&&((p.1.2.2.2.2.2.2.2.2.2.2.2.1==0)&&((p.1.2.2.2.2.2.2.2.2.2.2.2.2.1==0)&&((p.1.2.2.2.2.2.2.2.2.2.2.2.2.2.1==0)&&((p.1.2.2.2.2.2.2.2.2.2.2.2.2.2.2.1==0)&&((p.1.2.2.2.2.2.2.2.2.2.2.2.2.2.2.2==([]:Bytes))&&((p.2.1==0)&&((p.2.2==0)&&true)))))))))))))))))
def Mz (r:dX):Bool:=(dZ r.1&&(rl r.2.1&&(rl r.2.2.1&&((r.2.1.1==r.2.2.1.1)&&((r.2.1.2.1==r.2.2.1.2.1)&&cQ r.2.2.2.2.2 0 1000000000000)))))&&
 (bif r.2.2.2.2.1 then dD r.2.2.2.1.1&&(cQ r.2.2.2.1.2.1 0 320&&cQ r.2.2.2.1.2.2 1 320) else H9 r.2.2.2.1)
theorem LJ (p:Hi):H9 p=true↔p=Q4:=by obtain⟨⟨a,b,c,d,e,f,g,h,i,j,k,l,m,n,o,q⟩,r,s⟩:=p;simp only[H9,Q4,Bool.and_true,ab,aQ,Prod.mk.injEq,and_assoc]
theorem Pg (r:dX):s8 r=some (Mz r):=by unfold s8 Mz H9;simp only[DN,IL,dq,o7,ae,bm,cF,cT,cN,Bool.not_or,dv,bne];cases r.2.2.2.2.1<;>rfl
def ji (v:Vector):Bool:=(iR v).getD false
theorem zk (v:Vector):iR v=some (ji v):=by
 have:∃b,iR v=some b:=by simp only[iR,qi,cu,ae,bm];exact⟨_,rfl⟩
 obtain⟨b,hb⟩:=this;rw[ji,hb];rfl
theorem Gd (v:Vector):qo v=some (ji v):=zk v
theorem vS {α:Type}(l:List α)(p:α→Bool):(List.range l.length).all (λi=>l[i]?.all p)=l.all p:=by rw[bT,az,az];constructor;intro h x hx;obtain⟨i,hi,rfl⟩:=List.getElem_of_mem hx;have:=h i (bI.2 hi);rwa[List.getElem?_eq_getElem hi]at this;intro h i hi;rw[List.getElem?_eq_getElem (bI.1 hi)];exact h _ (bP _)
theorem Hk {α:Type}(l:List α)(p q:α→Bool):l.all (λx=>p x&&q x)=(l.all p&&l.all q):=by induction l with|nil=>rfl|cons x l ih=>simp only[ba,ih];cases p x<;>cases q x<;>cases l.all p<;>rfl
def fW (h:Host):List Int:=[h.2.2.2.2.2.2.2.2.2.2.2.2.2.2.1,h.2.2.2.2.2.2.2.2.2.2.2.2.2.2.2.1,h.2.2.2.2.2.2.2.2.2.2.2.2.2.2.2.2.1,h.2.2.2.2.2.2.2.2.2.2.2.2.2.2.2.2.2.1,h.2.2.2.2.2.2.2.2.2.2.2.2.2.2.2.2.2.2]
def uL (h:Host):Bool:=cQ (h.2.2.2.1.length:Int) 1 2&&(((h.2.2.2.2.1.length:Int)==(h.2.2.2.1.length:Int))&&(((h.2.2.2.2.2.1.length:Int)==(h.2.2.2.1.length:Int))&&((h.2.2.2.2.2.2.1.length:Int)==(h.2.2.2.1.length:Int))))
def HV (h:Host):Bool:=h.2.2.2.1.all Mz&&(h.2.2.2.2.1.all dn&&h.2.2.2.2.2.1.all ji)
def wv (h:Host):Bool:=df h.1&&(dH h.2.1&&(Q6 h.2.2.1&&(gA h.2.2.2.2.2.2.2.1&&(uL h&&(dh h.2.2.2.2.2.2.2.2.1 (h.2.2.2.1.length:Int)&&(HV h&&(fW h).all (λx=>cQ x 0 1000000000000)))))))
structure Fo (h:Host):Prop where
 a1:h.1.length≤1000000000
 a2:h.2.1.length≤1000000000
 t1:h.2.2.1.2.2.1.length≤1000000000
 t2:h.2.2.1.2.1.2.2.2.length+(ew h.2.2.1.2.2.1).length≤1000000000
 f1:h.2.2.2.2.2.2.2.1.2.2.length≤1000000000
 s1:h.2.2.2.2.2.2.2.2.1.1.length≤1000000000
 s2:h.2.2.2.2.2.2.2.2.1.2.1.length≤1000000000
 s3:h.2.2.2.2.2.2.2.2.1.2.2.2.length≤1000000000
 p1:∀p∈h.2.2.2.2.1,p.2.2.2.length≤1000000000
theorem xf {h:Host}(l:uL h=true):h.2.2.2.1.length≤2∧h.2.2.2.2.1.length=h.2.2.2.1.length∧h.2.2.2.2.2.1.length=h.2.2.2.1.length∧h.2.2.2.2.2.2.1.length=h.2.2.2.1.length:=by unfold uL at l;simp only[ab,br,aQ]at l;omega
theorem JB {R:Type}{T:(Int→Option R)→Int→Option R}{fin hit:Option R}{h:Host}(l:uL h=true)(hs:∀i (hi:i<h.2.2.2.1.length) nx,T nx (i:Int)=cond (!(Mz h.2.2.2.1[i]&&(dn (h.2.2.2.2.1[i]'((xf l).2.1▸hi))&&ji (h.2.2.2.2.2.1[i]'((xf l).2.2.1▸hi))))) hit (nx ((i+1:Nat):Int)))(hf:∀nx,T nx (h.2.2.2.1.length:Int)=fin):aZ T fuel 0=cond (HV h) fin hit:=by
 have hl:=xf l;rw[lr (fin:=fin) (hit:=hit) (λi=>h.2.2.2.1[i]?.all Mz&&(h.2.2.2.2.1[i]?.all dn&&h.2.2.2.2.2.1[i]?.all ji)) h.2.2.2.1.length (by omega) ?hs hf]
 case hs=>
  intro i nx hi
  rw[hs i hi,List.getElem?_eq_getElem hi,List.getElem?_eq_getElem (hl.2.1▸hi),List.getElem?_eq_getElem (hl.2.2.1▸hi)]
  rfl
 rw[Hk,Hk,vS];have e1:=vS h.2.2.2.2.1 dn;have e2:=vS h.2.2.2.2.2.1 ji;rw[hl.2.1]at e1;rw[hl.2.2.1]at e2;rw[e1,e2];rfl
theorem CZ {R:Type}{T:(Int→Option R)→Int→Option R}{fin hit:Option R}(h:Host)(hs:∀i (hi:i<(fW h).length) nx,T nx (i:Int)=cond (!(cQ (fW h)[i] 0 1000000000000)) hit (nx ((i+1:Nat):Int)))(hf:∀nx,T nx ((fW h).length:Int)=fin):aZ T fuel 0=cond ((fW h).all (λx=>cQ x 0 1000000000000)) fin hit:=lq (λx=>cQ x 0 1000000000000) (fW h) (by simp[fW]) hs hf
theorem KJ (h:Host)(z:Fo h):pX h=some (wv h):=by
 unfold pX wv;simp only[F8 _ z.a1,B7 _ z.a2,Ph _ z.t1 z.t2,tT _ z.f1,qY _ _ z.s1 z.s2 z.s3,dq,ae,bm];cases df h.1 with|false=>rfl|true=>?_
 cases dH h.2.1 with|false=>rfl|true=>?_
 cases Q6 h.2.2.1 with|false=>rfl|true=>?_
 cases gA h.2.2.2.2.2.2.2.1 with|false=>rfl|true=>?_
 simp only[aw,ai,cT,bne];rw[show(!cQ (h.2.2.2.1.length:Int) 1 2||(!((h.2.2.2.2.1.length:Int)==(h.2.2.2.1.length:Int))||(!((h.2.2.2.2.2.1.length:Int)==(h.2.2.2.1.length:Int))|| !((h.2.2.2.2.2.2.1.length:Int)==(h.2.2.2.1.length:Int)))))= !(uL h) by unfold uL;simp only[Bool.not_and]];cases hl:uL h with|false=>rfl|true=>?_
 have hL:=xf hl;simp only[aw,ai,bR];rw[JB (h:=h) (hit:=some false) (fin:=some ((fW h).all (λx=>cQ x 0 1000000000000)&&dh h.2.2.2.2.2.2.2.2.1 (h.2.2.2.1.length:Int))) hl ?hs ?hf]
 case hs=>
  intro i hi nx
  simp only[lR]
  rw[ak (by omega),bD hi,bD (hL.2.1▸hi),bD (hL.2.2.1▸hi),wrap64 (n:=(i:Int)+1) (by omega) (by omega)]
  simp only[ah,ae,Pg,Gd,uC _ (z.p1 _ (bP _)),bm,cT,Bool.not_and]
  rfl
 case hf=>
  intro nx
  simp only[lR]
  rw[af (by omega)]
  simp only[ai]
  refine(CZ (fin:=some (dh h.2.2.2.2.2.2.2.2.1 (h.2.2.2.1.length:Int))) (hit:=some false) h ?_ ?_).trans ?_
  ·intro i hi nx
   simp only[kT]
   have hi':i<5:=hi
   change (bif decide ((i:Int)<5) then aa (idx (fW h) (i:Int)) _ else _)=_
   rw[ak (by omega),bD hi,wrap64 (n:=(i:Int)+1) (by omega) (by omega),ae,dq]
   rfl
  ·intro nx
   simp only[kT]
   rw[af (by simp[fW])];rfl
  ·cases (fW h).all (λx=>cQ x 0 1000000000000)<;>rfl
 cases HV h<;>cases dh h.2.2.2.2.2.2.2.2.1 (h.2.2.2.1.length:Int)<;>cases (fW h).all (λx=>cQ x 0 1000000000000)<;>rfl
def hasB (l:List Int)(v:Int):Bool:=l.any (·==v)
theorem H2 (l:List Int)(v:Int)(h:l.length≤1000000000):lD l v=some (hasB l v):=by
 unfold lD hasB;rw[CO (hit:=some true) (fin:=some false) (λx:Int=>x==v) l (by omega) (λi hi nx=>?hs) (λnx=>?hf)]
 case hs=>
  simp only[mE]
  rw[ak (by omega),bD hi,wrap64 (by omega) (by omega)];rfl
 case hf=>
  simp only[mE]
  rw[af (by omega)];rfl
 cases l.any (λx=>x==v)<;>rfl
theorem MW (l:List Int)(v:Int)(h:l.length≤1000000000):nO l v=some (hasB l v):=H2 l v h
def nJ (f:Filter)(p:aG):Bool:=gA f&&(((p.1==f.1)||((p.1==281474976710655)||f.2.1))&&((p.2.2.1== -1)||hasB f.2.2 p.2.2.1))
theorem DG (f:Filter)(p:aG)(h:f.2.2.length≤1000000000):ow f p=some (nJ f p):=by simp only[ow,tT f h,MW f.2.2 _ h,ae,nJ];cases gA f<;>cases p.1==f.1<;>cases p.1==281474976710655<;>cases f.2.1<;>cases p.2.2.1== -1<;>rfl
theorem E2 (f:Filter)(p:aG)(h:f.2.2.length≤1000000000):oG f p=some (nJ f p):=by simp only[oG,zc f h,H2 f.2.2 _ h,ae,nJ];cases gA f<;>cases p.1==f.1<;>cases p.1==281474976710655<;>cases f.2.1<;>cases p.2.2.1== -1<;>rfl
def preB (a b n:Int):Bool:=Int.fdiv a (2^(min (Int.toNat (ar (32-n))) (IntKind.bits .i64)))==Int.fdiv b (2^(min (Int.toNat (ar (32-n))) (IntKind.bits .i64)))
theorem AR {r:dw}(h:pD r=true):0≤r.2.2.2.1∧r.2.2.2.1≤32:=by rw[←br];unfold pD at h;simp only[fw,cu,ae,bm]at h;cases hp:cQ r.2.2.2.1 0 32 with|true=>rfl|false=>rw[hp]at h;revert h;cases cQ r.1 0 1000<;>cases r.2.1 !=0<;>cases r.2.1 !=6<;>cases r.2.1 !=17<;>cases cQ r.2.2.1 0 4294967295<;>simp
def Km (r:dw)(p:aG):Bool:=preB r.2.2.1 p.2.2.2.2.2.2.1 r.2.2.2.1&&(cQ p.2.2.2.2.2.2.2.2.2.2.1 r.2.2.2.2.1 r.2.2.2.2.2.1&&((r.2.2.2.2.2.2.1== -2)||(r.2.2.2.2.2.2.1==p.2.2.1)))
def sC (r:dw)(p:aG):Bool:=pD r&&(dD p&&(((r.2.1==0)||(r.2.1==p.2.2.2.2.2.2.2.2.1))&&Km r p))
theorem MX (a b n:Int)(h0:0≤n)(h1:n≤32):il a b n=some (preB a b n):=by unfold il preB;rw[aq (by rw[wrap64 (n:=32-n) (by omega) (by omega)];omega),aq (by rw[wrap64 (n:=32-n) (by omega) (by omega)];omega)]
theorem IK (r:dw)(p:aG):jG r p=some (sC r p):=by
 unfold jG sC;rw[KM,ae];cases hr:pD r with|false=>rfl|true=>?_
 have hp:=AR hr;simp only[o7,MX _ _ _ hp.1 hp.2,dq,ae,Km];cases dD p<;>cases r.2.1==0<;>cases r.2.1==p.2.2.2.2.2.2.2.2.1<;>cases preB r.2.2.1 p.2.2.2.2.2.2.1 r.2.2.2.1<;>cases cQ p.2.2.2.2.2.2.2.2.2.2.1 r.2.2.2.2.1 r.2.2.2.2.2.1<;>cases r.2.2.2.2.2.2.1== -2<;>rfl
theorem JM (r:dw)(p:aG):jW r p=some (sC r p):=by
 unfold jW sC;rw[zj,ae];cases hr:pD r with|false=>rfl|true=>?_
 have hp:=AR hr;have hw:¬ar (32-r.2.2.2.1)<0:=by rw[wrap64 (n:=32-r.2.2.2.1) (by omega) (by omega)];omega
 simp only[pb,oc,aq hw,cu,ae,Km];rw[show(Int.fdiv r.2.2.1 (2^(min (Int.toNat (ar (32-r.2.2.2.1))) (IntKind.bits .i64)))==Int.fdiv p.2.2.2.2.2.2.1 (2^(min (Int.toNat (ar (32-r.2.2.2.1))) (IntKind.bits .i64))))=preB r.2.2.1 p.2.2.2.2.2.2.1 r.2.2.2.1 from rfl];cases dD p<;>cases r.2.1==0<;>cases r.2.1==p.2.2.2.2.2.2.2.2.1<;>cases preB r.2.2.1 p.2.2.2.2.2.2.1 r.2.2.2.1<;>cases cQ p.2.2.2.2.2.2.2.2.2.2.1 r.2.2.2.2.1 r.2.2.2.2.2.1<;>cases r.2.2.2.2.2.2.1== -2<;>rfl
def wE:dw:=(0,0,0,0,0,0,0,0,0)
def oh (l:List dw)(p:aG):Nat→Int
 |0=> -1
 |i+1=>bif sC (l.getD i wE) p&&(decide (oh l p i<0)||decide ((l.getD i wE).1<(l.getD (oh l p i).toNat wE).1)) then(i:Int) else oh l p i
theorem xr (l:List dw)(p:aG):∀i,oh l p i= -1∨∃n:Nat,oh l p i=(n:Int)∧n<i
 |0=> .inl rfl
 |i+1=>by rw[oh];cases sC (l.getD i wE) p&&(decide (oh l p i<0)||decide ((l.getD i wE).1<(l.getD (oh l p i).toNat wE).1))with|true=>exact .inr ⟨i,rfl,by omega⟩|false=>rcases xr l p i with h|⟨n,h,hn⟩;exact .inl h;exact .inr ⟨n,h,by omega⟩
theorem Ai {R:Type}(l:List dw)(p:aG)(i:Nat)(hi:i<l.length)(nx:Int×Int→Option R): (aa (cond (sC l[i] p) (cond (decide (oh l p i<0)) (some true) (aa (idx l (oh l p i)) λx4=>some (decide (l[i].1<x4.1)))) (some false)) λq5=>cond q5 (nx ((i:Int),((i+1:Nat):Int))) (nx (oh l p i,((i+1:Nat):Int))))=nx (oh l p (i+1),((i+1:Nat):Int)):=by
 rw[oh,cd hi];cases sC l[i] p with|false=>rfl|true=>?_
 rcases xr l p i with h|⟨n,h,hn⟩;rw[h];rfl;have hl:n<l.length:=by omega
 rw[h,af (show¬(n:Int)<0 by omega),bD hl];simp only[ah,ai,ae,aI,cd hl,bR,cE];cases decide (l[i].1<l[n].1)<;>rfl
def qD (l:List dw)(p:aG):Int:=bif mM l then oh l p l.length else-1
theorem xX (l:List dw)(p:aG)(h:qD l p≥0):∃n:Nat,qD l p=(n:Int)∧n<l.length:=by unfold qD at h⊢;cases hr:mM l with|false=>rw[hr]at h;simp at h|true=>rw[hr]at h;simp only[ah]at h⊢;rcases xr l p l.length with g|g;omega;exact g
theorem IJ (l:List dw)(p:aG)(h:l.length≤1000000000):nb l p=some (qD l p):=by
 unfold nb qD;rw[Aw l h,ae];cases mM l with|false=>rfl|true=>?_
 simp only[aw,ai,ah];refine fR (λi=>(oh l p i,(i:Int))) l.length (by omega) (λi nx hi=>?_) (λnx=>?_);simp only[jF];rw[ak (by omega),bD hi,wrap64 (n:=(i:Int)+1) (by omega) (by omega)];simp only[ah,ae,IK];exact Ai l p i hi nx;simp only[jF];rw[af (by omega)];rfl
theorem JJ (l:List dw)(p:aG)(h:l.length≤1000000000):nu l p=some (qD l p):=by
 have hfu:=dY;unfold nu qD;cases hr:mM l with
 |false=>
  obtain⟨f,hf⟩:∃f,fuel=f+1:=⟨fuel-1,by omega⟩
  rw[hf,aZ];simp only[gU,tf l h,hr,ae];cases decide ((0:Int)<(l.length:Int))<;>rfl
 |true=>simp only[ah];refine fR (λi=>(oh l p i,(i:Int))) l.length (by omega) (λi nx hi=>?_) (λnx=>?_);simp only[gU,tf l h,hr];rw[ak (by omega),bD hi,wrap64 (n:=(i:Int)+1) (by omega) (by omega)];simp only[ah,ae,JM];exact Ai l p i hi nx;simp only[gU];rw[af (by omega)];rfl
def fL (p:aG):Int×Int×Int×Int×Int:=(p.2.2.2.2.2.2.2.2.1,p.2.2.2.2.2.2.1,p.2.2.2.2.2.2.2.1,p.2.2.2.2.2.2.2.2.2.1,p.2.2.2.2.2.2.2.2.2.2.1)
theorem DK (p:aG):nL p=some (fL p):=rfl
theorem ze (p:aG):lA p=some (fL p):=rfl
def UZ:Slot:=(0,(0,0,0,0,0),0)
def qu (s:bL)(q:Int)(p:aG):Int:=
 bif !dh s q|| !dD p then-1 else
 bif decide (qD s.1 p≥0) then(bif (s.1.getD (qD s.1 p).toNat wE).2.2.2.2.2.2.2.1==1 then-1 else(s.1.getD (qD s.1 p).toNat wE).2.2.2.2.2.2.2.2) else
 bif decide (findF s.2.1 (fL p)≥0) then(s.2.1.getD (findF s.2.1 (fL p)).toNat UZ).2.2 else ti s.2.2 q (fL p)
theorem IQ (s:bL)(q:Int)(p:aG)(h1:s.1.length≤1000000000)(h2:s.2.1.length≤1000000000)(h3:s.2.2.2.length≤1000000000):jL s q p=some (qu s q p):=by
 unfold jL qu;rw[qY s q h1 h2 h3,ae,o7,ae];cases dh s q with|false=>rfl|true=>?_
 cases dD p with|false=>rfl|true=>?_
 simp only[aw,ai,ae,bX,IJ s.1 p h1,DK,B5 s.2.1 _ h2,DR s.2.2 q _ h3];cases hd:decide (qD s.1 p≥0)with
 |true=>obtain⟨n,hn,hl⟩:=xX s.1 p (aL hd);simp only[ah,hn,bD hl,ae,aI,cd hl];cases s.1[n].2.2.2.2.2.2.2.1==1<;>rfl
 |false=>
  simp only[ai];cases hd2:decide (findF s.2.1 (fL p)≥0)with
  |true=>obtain⟨n,hn,hl⟩:=xW s.2.1 (fL p) (aL hd2);simp only[ah,hn,bD hl,ae,aI,cd hl]
  |false=>rfl
theorem JQ (s:bL)(q:Int)(p:aG)(h1:s.1.length≤1000000000)(h2:s.2.1.length≤1000000000)(h3:s.2.2.2.length≤1000000000):ka s q p=some (qu s q p):=by
 unfold ka qu;rw[vc s q h1 h2 h3,ae,pb,ae];cases dh s q with|false=>rfl|true=>?_
 cases dD p with|false=>rfl|true=>?_
 simp only[aw,ai,ae,bX,JJ s.1 p h1,ze,Cw s.2.1 _,E8 s.2.2 q _ h3];cases hd:decide (qD s.1 p≥0)with
 |true=>obtain⟨n,hn,hl⟩:=xX s.1 p (aL hd);simp only[ah,hn,bD hl,ae,aI,cd hl];cases s.1[n].2.2.2.2.2.2.2.1==1<;>rfl
 |false=>
  simp only[ai];cases hd2:decide (findF s.2.1 (fL p)≥0)with
  |true=>obtain⟨n,hn,hl⟩:=xW s.2.1 (fL p) (aL hd2);simp only[ah,hn,bD hl,ae,aI,cd hl]
  |false=>rfl
def Ik (a b:Int):Int:=(gh a b).getD 0
theorem xj (a b:Int):gh a b=some (Ik a b):=by
 unfold Ik;have:∃x,gh a b=some x:=by simp only[gh,cu,ae];cases cQ a 0 65535<;>cases cQ b 0 65535<;>cases decide (ar (a+b)>65535)<;>exact⟨_,rfl⟩
 obtain⟨x,hx⟩:=this;rw[hx];rfl
theorem DH (a b:Int):ox a b=some (Ik a b):=xj a b
theorem MC {a b:Int}(h:0≤a∧a≤65535)(k:0≤b∧b≤65535):0≤Ik a b∧Ik a b≤65535:=by have e:=xj a b;simp only[gh,cu,ae,br.2 h,br.2 k,aw,ai]at e;rw[wrap64 (n:=a+b) (by omega) (by omega)]at e;by_cases hc:a+b>65535;rw[ak hc,ah,wrap64 (by omega) (by omega)]at e;rw[←cc e];omega;rw[af hc,ai]at e;rw[←cc e];omega
def sw (s:Bytes):Nat→Int
 |0=>0
 |j+1=>Ik (sw s j) ((bJ s (2*j)*256+bJ s (2*j+1):Nat):Int)
theorem LL (s:Bytes):∀j,0≤sw s j∧sw s j≤65535
 |0=>by simp[sw]
 |j+1=>by have b0:=cV s (2*j);have b1:=cV s (2*j+1);exact MC (LL s j) (by omega)
theorem xA {s:Bytes}{i:Nat}(h:s.length≤i):bJ s i=0:=by unfold bJ;rw[List.getD_eq_getElem?_getD,List.getElem?_eq_none h];rfl
theorem NG (s:Bytes)(h:s.length≤1000000000):nA s=some (sw s ((s.length+1)/2)):=by
 unfold nA;refine fR (λj=>(sw s j,((2*j:Nat):Int))) ((s.length+1)/2) (by omega) (λj nx hj=>?_) (λnx=>?_);have b0:=cV s (2*j);have b1:=cV s (2*j+1);obtain⟨x,hx,ex⟩:=ik (s:=s) (i:=2*j) (by omega);simp only[kb];rw[ak (by omega),ah,hx,ae,aq (by omega),wrap64 (n:=((2*j:Nat):Int)+1) (by omega) (by omega),wrap64 (n:=((2*j:Nat):Int)+2) (by omega) (by omega),ex,ev (by omega)];have e8:min (Int.toNat 8) (IntKind.bits .i64)=8:=rfl;have en:((2*j:Nat):Int)+2=((2*(j+1):Nat):Int):=by omega
 rw[e8,wrap64 (n:=((bJ s (2*j):Nat):Int)*2^8) (by omega) (by omega)];by_cases hc:2*j+1<s.length;obtain⟨y,hy,ey⟩:=ik (s:=s) (i:=2*j+1) hc;rw[ak (by omega),ah,show((2*j:Nat):Int)+1=((2*j+1:Nat):Int) by omega,hy,ae,ey,ev (n:=bJ s (2*j+1)) (by omega),wrap64 (by omega) (by omega),xj,ae,en,show((bJ s (2*j):Nat):Int)*2^8+((bJ s (2*j+1):Nat):Int)=((bJ s (2*j)*256+bJ s (2*j+1):Nat):Int) by omega];rfl;have hz:=xA (s:=s) (i:=2*j+1) (by omega);rw[af (by omega),ai,xj,ae,en,show((bJ s (2*j):Nat):Int)*2^8=((bJ s (2*j)*256+bJ s (2*j+1):Nat):Int) by rw[hz];omega];rfl;simp only[kb];rw[af (by omega)];rfl
theorem MY (s:Bytes)(h:s.length≤1000000000):nm s=some (sw s ((s.length+1)/2)):=by
 unfold nm;refine fR (λj=>(sw s j,((2*j:Nat):Int))) ((s.length+1)/2) (by omega) (λj nx hj=>?_) (λnx=>?_);have b0:=cV s (2*j);have b1:=cV s (2*j+1);obtain⟨x,hx,ex⟩:=ik (s:=s) (i:=2*j) (by omega);simp only[jM];rw[ak (by omega),ah,hx,ae,aq (by omega),wrap64 (n:=((2*j:Nat):Int)+1) (by omega) (by omega),wrap64 (n:=((2*j:Nat):Int)+2) (by omega) (by omega),ex,ev (by omega)];have e8:min (Int.toNat 8) (IntKind.bits .i64)=8:=rfl;have en:((2*j:Nat):Int)+2=((2*(j+1):Nat):Int):=by omega
 rw[e8,show((bJ s (2*j):Nat):Int)*2^8=((2^8*bJ s (2*j):Nat):Int) by omega,ev (n:=2^8*bJ s (2*j)) (by omega)];by_cases hc:2*j+1<s.length;obtain⟨y,hy,ey⟩:=ik (s:=s) (i:=2*j+1) hc;rw[ak (by omega),ah,show((2*j:Nat):Int)+1=((2*j+1:Nat):Int) by omega,hy,ae,ey,ev (n:=bJ s (2*j+1)) (by omega),tY (bJ s (2*j)) 8 (bJ s (2*j+1)) (by omega) (by omega),DH,ae,en,show 2^8*bJ s (2*j)+bJ s (2*j+1)=bJ s (2*j)*256+bJ s (2*j+1) by omega];rfl;have hz:=xA (s:=s) (i:=2*j+1) (by omega);rw[af (by omega),ai,DH,ae,en,show((2^8*bJ s (2*j):Nat):Int)=((bJ s (2*j)*256+bJ s (2*j+1):Nat):Int) by rw[hz];omega];rfl;simp only[jM];rw[af (by omega)];rfl
def FN (s:Bytes):Int:=65535-sw s ((s.length+1)/2)
theorem Ct (s:Bytes)(h:s.length≤1000000000):iP s=some (FN s):=by have:=LL s ((s.length+1)/2);simp only[iP,NG s h,ae];rw[wrap64 (by omega) (by omega)];rfl
theorem HI (s:Bytes)(h:s.length≤1000000000):kx s=some (FN s):=by have:=LL s ((s.length+1)/2);simp only[kx,MY s h,ae];rw[wrap64 (by omega) (by omega)];rfl
def uU (s:Bytes)(a:Int)(p:Bytes):Bytes:=bif c8 s a (p.length:Int) then(s.take a.toNat++p)++s.drop (a.toNat+p.length) else s
theorem yO (s:Bytes)(a:Int)(p:Bytes):(uU s a p).length=s.length:=by unfold uU;cases hw:c8 s a (p.length:Int)with|false=>rfl|true=>simp only[c8,aF]at hw;simp only[ah,aj,bp,bc];omega
theorem EM (s:Bytes)(a:Int)(p:Bytes)(h:s.length≤1000000000)(hw:c8 s a (p.length:Int)=true): (aa (sub s 0 a) λx2=>room (List.length x2+List.length p) (aa (sub s (ar (a+((List.length p:Int)))) ((List.length s:Int))) λx3=>room (List.length (x2++p)+List.length x3) (some ((x2++p)++x3))))=some (uU s a p):=by
 have hw':=hw;simp only[c8,aF]at hw';obtain⟨n,rfl⟩:=bg hw'.1;have e1:sub s 0 (n:Int)=some (s.take n):=by unfold sub;rw[au (by omega)];rfl
 have e2:sub s (((n+p.length:Nat):Int)) (s.length:Int)=some (s.drop (n+p.length)):=by unfold sub;rw[au (by omega),aI,aI,List.take_length]
 rw[e1,wrap64 (by omega) (by omega),show(n:Int)+(p.length:Int)=((n+p.length:Nat):Int) by omega,e2,ae,aS (by simp only[bp];omega),ae,aS (by simp only[aj,bp,bc];omega)];unfold uU;rw[hw];rfl
theorem u7 (s:Bytes)(a:Int)(p:Bytes)(h:s.length≤1000000000):ec s a p=some (uU s a p):=by unfold ec;rw[sL s a _ h (by omega),ae];cases hw:c8 s a (p.length:Int)with|false=>simp only[de,ah,uU,hw,ai]|true=>exact EM s a p h hw
theorem Ca (s:Bytes)(a:Int)(p:Bytes)(h:s.length≤1000000000)(hp:p.length≤1000000000):iK s a p=some (uU s a p):=by
 unfold iK;rw[wrap64 (n:=(s.length:Int)-(p.length:Int)) (by omega) (by omega)];cases hw:c8 s a (p.length:Int)with
 |true=>have hw':=hw;simp only[c8,aF]at hw';rw[af (show¬a<0 by omega),af (show¬a>(s.length:Int)-(p.length:Int) by omega)];exact EM s a p h hw
 |false=>
  have hp:uU s a p=s:=by unfold uU;rw[hw];rfl
  rw[hp];simp only[c8,cp]at hw;by_cases h0:a<0;rw[ak h0];rfl;rw[af h0,ak (show a>(s.length:Int)-(p.length:Int) by omega)];rfl
def Rb (x y:Int):Bytes:=bytesOf [x,y]
theorem Bn (x y:Int):(Rb x y).length=2:=rfl
def rj (a b k n:Int):Bool:=cQ a 0 4294967295&&(cQ b 0 4294967295&&(cQ k 0 255&&cQ n 0 65535))
def pB (a b k n:Int):Bytes:=((fj a++fj b)++Rb 0 (dK k))++cI n
theorem AP (a b k n:Int):(pB a b k n).length≤12:=by have:=cR a;have:=cR b;have:=bn n;simp only[pB,aj,Bn];omega
theorem uc (a b k n:Int):gi a b k n=some (bif rj a b k n then(pB a b k n,true) else([],false)):=by
 have:=cR a;have:=cR b;have:=bn n;unfold gi rj;simp only[cu,ae,jw,gr];cases cQ a 0 4294967295 with|false=>rfl|true=>?_
 cases cQ b 0 4294967295 with|false=>rfl|true=>?_
 cases cQ k 0 255 with|false=>rfl|true=>?_
 cases cQ n 0 65535 with|false=>rfl|true=>?_
 simp only[aw,ai,fy,ah,ae];have e:(bytesOf [0,dK k]).length=2:=rfl;rw[aS (by omega),aS (by simp only[aj,e];omega),aS (by simp only[aj,e];omega)];rfl
theorem Ga (a b k n:Int):lU a b k n=some (bif rj a b k n then(pB a b k n,true) else([],false)):=uc a b k n
def bare (g:cj):Bytes:=bif g.1==6 then
    (((((cI g.2.1++cI g.2.2.1)++fj g.2.2.2.1)++fj g.2.2.2.2.1)++Rb 80 (dK g.2.2.2.2.2.1))++cI g.2.2.2.2.2.2.1)++fj 0++g.2.2.2.2.2.2.2
 else(((cI g.2.1++cI g.2.2.1)++cI (8+(g.2.2.2.2.2.2.2.length:Int)))++cI 0)++g.2.2.2.2.2.2.2
theorem Bl (g:cj):(bare g).length≤20+g.2.2.2.2.2.2.2.length:=by have:=bn g.2.1;have:=bn g.2.2.1;have:=cR g.2.2.2.1;have:=cR g.2.2.2.2.1;have:=bn g.2.2.2.2.2.2.1;have:=cR 0;have:=bn 0;have:=bn (8+(g.2.2.2.2.2.2.2.length:Int));unfold bare;cases g.1==6<;>simp only[ah,ai,aj,Bn]<;>omega
theorem J1:cI 0++cI 0=fj 0:=by rfl
theorem KE (g:cj)(h:g.2.2.2.2.2.2.2.length≤1000000):jO g=some (bare g):=by have:=bn g.2.1;have:=bn g.2.2.1;have:=cR g.2.2.2.1;have:=cR g.2.2.2.2.1;have:=bn g.2.2.2.2.2.2.1;have:=bn 0;have:=bn (8+(g.2.2.2.2.2.2.2.length:Int));have e:∀x,(bytesOf [80,dK x]).length=2:=λ_=>rfl;unfold jO bare;rw[wrap64 (n:=8+(g.2.2.2.2.2.2.2.length:Int)) (by omega) (by omega)];simp only[pt,tU,ae];rw[aS (by omega)];cases g.1==6 with|true=>simp only[ah];rw[aS (by simp only[aj,e];omega),aS (by simp only[aj,e];omega),aS (by simp only[aj,e];omega),aS (by simp only[aj,e];omega),aS (by simp only[aj,e];omega),aS (by simp only[aj,e];omega),aS (by simp only[aj,e];omega)];rw[←J1];simp only[Rb,aB]|false=>simp only[ai];rw[aS (by simp only[aj];omega),aS (by simp only[aj];omega),aS (by simp only[aj];omega)]
def H7 (a b:Int)(g:cj):Int:=bif (FN (pB a b g.1 ((bare g).length:Int)++bare g)==0)&&(g.1==17) then 65535 else FN (pB a b g.1 ((bare g).length:Int)++bare g)
def HW (a b:Int)(g:cj):Bytes:=uU (bare g) (bif g.1==6 then 16 else 6) (cI (H7 a b g))
def yV (a b:Int)(g:cj):Bool:=kI g&&rj a b g.1 ((bare g).length:Int)
def qP (a b:Int)(g:cj):Bytes×Bool:=bif yV a b g then(HW a b g,true) else([],false)
theorem sI {g:cj}(h:kI g=true):g.2.2.2.2.2.2.2.length≤320:=by simp only[kI,ab,aA,cp]at h;omega
theorem sK (a b:Int)(g:cj):eQ a b g=some (qP a b g):=by
 unfold eQ qP yV;rw[H3,ae];cases hg:kI g with|false=>rfl|true=>?_
 have hb:=sI hg;have hl:=Bl g;have hp:=AP a b g.1 ((bare g).length:Int);have:=bn g.2.1;have:=bn g.2.2.1;have:=cR g.2.2.2.1;have:=cR g.2.2.2.2.1;have:=bn g.2.2.2.2.2.2.1;have:=cR 0;have:=bn 0;have:=bn (8+(g.2.2.2.2.2.2.2.length:Int));have e:∀x,(bytesOf [80,dK x]).length=2:=λ_=>rfl;rw[wrap64 (n:=8+(g.2.2.2.2.2.2.2.length:Int)) (by omega) (by omega)];simp only[gr,jw,ae,aw,ai,bR];rw[aS (by omega)];cases h6:g.1==6 with
 |true=>
  have hbare:bare g=(((((cI g.2.1++cI g.2.2.1)++fj g.2.2.2.1)++fj g.2.2.2.2.1)++bytesOf [80,dK g.2.2.2.2.2.1])++cI g.2.2.2.2.2.2.1)++fj 0++g.2.2.2.2.2.2.2:=by unfold bare;rw[h6];rfl
  simp only[ah];rw[aS (by simp only[aj,e];omega),aS (by simp only[aj,e];omega),aS (by simp only[aj,e];omega),aS (by simp only[aj,e];omega),aS (by simp only[aj,e];omega),aS (by simp only[aj,e];omega),←hbare,uc,ae];cases rj a b g.1 ((bare g).length:Int)with|false=>rfl|true=>?_
  simp only[ah,aw,ai];rw[aS (by omega),Ct _ (by simp only[aj];omega)];simp only[ae,bm,u7 _ _ _ (show(bare g).length≤1000000000 by omega),HW,H7,h6,ah,cF];cases (FN (pB a b g.1 ((bare g).length:Int)++bare g)==0)&&(g.1==17)<;>rfl
 |false=>
  have hbare:bare g=(((cI g.2.1++cI g.2.2.1)++cI (8+(g.2.2.2.2.2.2.2.length:Int)))++cI 0)++g.2.2.2.2.2.2.2:=by unfold bare;rw[h6];rfl
  simp only[ai];rw[aS (by simp only[aj];omega),aS (by simp only[aj];omega),aS (by simp only[aj];omega),←hbare,uc,ae];cases rj a b g.1 ((bare g).length:Int)with|false=>rfl|true=>?_
  simp only[ah,aw,ai];rw[aS (by omega),Ct _ (by simp only[aj];omega)];simp only[ae,bm,u7 _ _ _ (show(bare g).length≤1000000000 by omega),HW,H7,h6,ai,cF];cases (FN (pB a b g.1 ((bare g).length:Int)++bare g)==0)&&(g.1==17)<;>rfl
theorem wx (a b:Int)(g:cj):fZ a b g=some (qP a b g):=by
 unfold fZ qP yV;rw[HJ,ae];cases hg:kI g with|false=>rfl|true=>?_
 have hb:=sI hg;have hl:=Bl g;have hp:=AP a b g.1 ((bare g).length:Int);have hsp:kD g.1=some (bif g.1==6 then 16 else 6):=by unfold kD;rw[bm]
 have w1:=bn 65535;have w2:=bn (FN (pB a b g.1 ((bare g).length:Int)++bare g));simp only[KE g (by omega),Ga,ae,aw,ai,bR];cases rj a b g.1 ((bare g).length:Int)with|false=>rfl|true=>?_
 simp only[ah,aw,ai];rw[aS (by omega),HI _ (by simp only[aj];omega)];simp only[ae,bm,hsp,pt,Ca _ _ _ (show(bare g).length≤1000000000 by omega) (show(cI 65535).length≤1000000000 by omega),Ca _ _ _ (show(bare g).length≤1000000000 by omega) (show(cI (FN (pB a b g.1 ((bare g).length:Int)++bare g))).length≤1000000000 by omega),HW,H7,cF];rw[Bool.and_comm];cases (FN (pB a b g.1 ((bare g).length:Int)++bare g)==0)&&(g.1==17)<;>rfl
theorem Nz (a b:Int)(g:cj):(qP a b g).1.length≤340:=by unfold qP;cases h:yV a b g with|false=>exact bw _|true=>simp only[yV,ab]at h;have:=sI h.1;have:=Bl g;show(uU _ _ _).length≤340;rw[yO];omega
def Gk (d:Ip):Bool:=cQ d.1 0 255&&(cQ d.2.2.1 0 255&&(cQ d.2.2.2.1 0 255&&(cQ d.2.1 0 65535&&(cQ d.2.2.2.2.1 0 4294967295&&(cQ d.2.2.2.2.2.1 0 4294967295&&decide ((d.2.2.2.2.2.2.length:Int)≤380))))))
theorem E5 (d:Ip):th d=some (Gk d):=by simp only[th,cu,ae,bm,cF,Gk]
theorem KK (d:Ip):vF d=some (Gk d):=E5 d
def yo (d:Ip):Bytes:=((((((Rb 69 (dK d.1)++cI (20+(d.2.2.2.2.2.2.length:Int)))++cI d.2.1)++cI 16384)++Rb (dK d.2.2.1) (dK d.2.2.2.1))++cI 0)++fj d.2.2.2.2.1)++fj d.2.2.2.2.2.1
theorem yp (d:Ip):(yo d).length≤20:=by have:=bn (20+(d.2.2.2.2.2.2.length:Int));have:=bn d.2.1;have:=bn 16384;have:=bn 0;have:=cR d.2.2.2.2.1;have:=cR d.2.2.2.2.2.1;simp only[yo,aj,Bn];omega
def yn (d:Ip):Bytes:=uU (yo d) 10 (cI (FN (yo d)))
theorem GZ (d:Ip):nw d=some (bif Gk d then(yn d,true) else([],false)):=by
 unfold nw;rw[E5,ae];cases hd:Gk d with|false=>rfl|true=>?_
 have hn:(d.2.2.2.2.2.2.length:Int)≤380:=by simp only[Gk,ab,aF]at hd;omega
 have:=bn (20+(d.2.2.2.2.2.2.length:Int));have:=bn d.2.1;have:=bn 16384;have:=bn 0;have:=cR d.2.2.2.2.1;have:=cR d.2.2.2.2.2.1;have hl:=yp d;have e:∀x y,(bytesOf [x,y]).length=2:=λ_ _=>rfl;rw[wrap64 (n:=20+(d.2.2.2.2.2.2.length:Int)) (by omega) (by omega)];simp only[gr,jw,ae,aw,ai,ah];rw[aS (by simp only[aj,e];omega),aS (by simp only[aj,e];omega),aS (by simp only[aj,e];omega),aS (by simp only[aj,e];omega),aS (by simp only[aj,e];omega),aS (by simp only[aj,e];omega),aS (by simp only[aj,e];omega)];have hp:((((((bytesOf [69,dK d.1]++cI (20+(d.2.2.2.2.2.2.length:Int)))++cI d.2.1)++cI 16384)++bytesOf [dK d.2.2.1,dK d.2.2.2.1])++cI 0)++fj d.2.2.2.2.1)++fj d.2.2.2.2.2.1=yo d:=rfl;rw[hp,Ct _ (by omega),ae,u7 _ _ _ (by omega)];rfl
theorem F7 (d:Ip):ng d=some (bif Gk d then(yn d,true) else([],false)):=by
 unfold ng;rw[KK,ae];cases hd:Gk d with|false=>rfl|true=>?_
 have hn:(d.2.2.2.2.2.2.length:Int)≤380:=by simp only[Gk,ab,aF]at hd;omega
 have:=bn (20+(d.2.2.2.2.2.2.length:Int));have:=bn d.2.1;have:=bn 16384;have:=bn 0;have:=cR d.2.2.2.2.1;have:=cR d.2.2.2.2.2.1;have hl:=yp d;have hw:=bn (FN (yo d));have e:∀x y,(bytesOf [x,y]).length=2:=λ_ _=>rfl;rw[wrap64 (n:=20+(d.2.2.2.2.2.2.length:Int)) (by omega) (by omega)];simp only[pt,tU,ae,aw,ai,ah];rw[aS (by simp only[aj,e];omega),aS (by simp only[aj,e];omega),aS (by simp only[aj,e];omega),aS (by simp only[aj,e];omega),aS (by simp only[aj,e];omega),aS (by simp only[aj,e];omega),aS (by simp only[aj,e];omega)];have hp:((((((bytesOf [69,dK d.1]++cI (20+(d.2.2.2.2.2.2.length:Int)))++cI d.2.1)++cI 16384)++bytesOf [dK d.2.2.1,dK d.2.2.2.1])++cI 0)++fj d.2.2.2.2.1)++fj d.2.2.2.2.2.1=yo d:=rfl;rw[hp,HI _ (by omega),ae,Ca _ _ _ (by omega) (by omega)];rfl
def Gl (d:Ip):Bytes×Bool:=bif Gk d then(yn d++d.2.2.2.2.2.2,true) else([],false)
theorem vH (d:Ip):(yn d).length≤20:=by unfold yn;rw[yO];exact yp d
theorem LD (d:Ip):me d=some (Gl d):=by
 unfold me Gl;rw[GZ,ae];cases hd:Gk d with|false=>rfl|true=>?_
 have hn:(d.2.2.2.2.2.2.length:Int)≤380:=by simp only[Gk,ab,aF]at hd;omega
 have:=vH d;simp only[ah,aw,ai];rw[aS (by omega)]
theorem Pf (d:Ip):oy d=some (Gl d):=by
 unfold oy Gl;rw[F7,ae];cases hd:Gk d with|false=>rfl|true=>?_
 have hn:(d.2.2.2.2.2.2.length:Int)≤380:=by simp only[Gk,ab,aF]at hd;omega
 have:=vH d;simp only[ah,aw,ai];rw[aS (by omega)]
def sT (n:Nat):Bytes:=bytesOf (List.replicate n (0:Int))
theorem wj (n:Nat):(sT n).length=n:=by simp[sT,bytesOf]
theorem zg (n:Nat)(h:n≤1000000000):eh (n:Int) 0=some (sT n):=by unfold eh;rw[au (by omega),aS (by rw[aI];omega),aI];refine fR (λi=>(List.replicate n (0:Int),(i:Int))) n (by omega) (λi nx hi=>?_) (λnx=>?_);simp only[iw];rw[ak (by omega),bD (by simpa using hi),wrap64 (by omega) (by omega)];simp only[ah,ae,aI,List.set_replicate_self];rfl;simp only[iw];rw[af (by omega)];rfl
def pad (s:Bytes):Bytes:=if s.length<46 then s++sT (46-s.length) else s
theorem Nr (s:Bytes):(pad s).length=max 46 s.length:=by unfold pad;split;simp only[aj,wj];omega;omega
theorem NF (s:Bytes)(h:s.length≤1000000000):oI s=some (pad s):=by unfold oI pad;by_cases hc:s.length<46;rw[ak (by omega),au hc,wrap64 (by omega) (by omega),show(46:Int)-(s.length:Int)=((46-s.length:Nat):Int) by omega,zg _ (by omega)];simp only[ah,ae];rw[aS (by rw[wj];omega)];rw[af (by omega),aq hc];rfl
def sm (e:Af):Bool:=cQ e.1 0 281474976710655&&(cQ e.2.1 0 281474976710655&&(cQ e.2.2.1 (-1) 4095&&(cQ e.2.2.2.1 1536 65535&&((e.2.2.2.1 !=33024)&&cQ (e.2.2.2.2.length:Int) 46 400))))
theorem wa (e:Af):mP e=some (sm e):=by simp only[mP,cu,ae,bm,cF,sm]
theorem II (e:Af):ra e=some (sm e):=wa e
def QA (a:Int):Bytes:=(eX a).getD []
theorem u5 (a:Int):eX a=some (QA a)∧(QA a).length≤6:=by
 have h:∃x,eX a=some x∧x.length≤6:=by unfold eX;rw[aq (by omega)];simp only[gr,jw,ae];have h1:=bn (Int.fdiv a (2^(min (Int.toNat 32) (IntKind.bits .i64))));have h2:=cR (ar (BitVec.toNat (BitVec.ofInt (IntKind.bits .i64) a&&&BitVec.ofInt (IntKind.bits .i64) 4294967295)));rw[aS (by omega)];exact⟨_,rfl,by simp only[aj];omega⟩
 obtain⟨x,hx,hl⟩:=h;unfold QA;rw[hx];exact⟨rfl,hl⟩
def HC (e:Af):Bytes:=(bif decide (e.2.2.1≥0) then(((QA e.1++QA e.2.1)++cI 33024)++cI e.2.2.1) else QA e.1++QA e.2.1)++cI e.2.2.2.1++e.2.2.2.2
theorem Kv (e:Af):(HC e).length≤18+e.2.2.2.2.length:=by have:=(u5 e.1).2;have:=(u5 e.2.1).2;have:=bn 33024;have:=bn e.2.2.1;have:=bn e.2.2.2.1;unfold HC;cases decide (e.2.2.1≥0)<;>simp only[ah,ai,aj]<;>omega
def MR (e:Af):Bytes×Bool:=bif sm e then(HC e,true) else([],false)
theorem ND (e:Af):nq e=some (MR e):=by
 unfold nq MR;rw[wa,ae];cases he:sm e with|false=>rfl|true=>?_
 have hn:(e.2.2.2.2.length:Int)≤400:=by simp only[sm,ab,br]at he;omega
 have:=(u5 e.1).2;have:=(u5 e.2.1).2;have:=bn 33024;have:=bn e.2.2.1;have:=bn e.2.2.2.1;simp only[(u5 _).1,gr,ae,aw,ai,ah,HC];rw[aS (by omega)];cases decide (e.2.2.1≥0)with|true=>simp only[ah];rw[aS (by simp only[aj];omega),aS (by simp only[aj];omega),aS (by simp only[aj];omega),aS (by simp only[aj];omega)]|false=>simp only[ai];rw[aS (by simp only[aj];omega),aS (by simp only[aj];omega)]
def Ny (p:aG):Bytes×Bool:=qP p.2.2.2.2.2.2.1 p.2.2.2.2.2.2.2.1 p.2.2.2.2.2.2.2.2
def Pj (p:aG):Bytes×Bool:=Gl (p.2.2.2.1,p.2.2.2.2.1,p.2.2.2.2.2.1,p.2.2.2.2.2.2.2.2.1,p.2.2.2.2.2.2.1,p.2.2.2.2.2.2.2.1,(Ny p).1)
def SH (p:aG):Bytes×Bool:=MR (p.1,p.2.1,p.2.2.1,2048,pad (Pj p).1)
def vC (p:aG):Bytes×Bool:=bif dD p then SH p else([],false)
theorem KU (p:aG):(Pj p).1.length≤360:=by have h1:=Nz p.2.2.2.2.2.2.1 p.2.2.2.2.2.2.2.1 p.2.2.2.2.2.2.2.2;unfold Pj Gl;cases Gk (p.2.2.2.1,p.2.2.2.2.1,p.2.2.2.2.2.1,p.2.2.2.2.2.2.2.2.1,p.2.2.2.2.2.2.1,p.2.2.2.2.2.2.2.1,(Ny p).1)with|false=>exact bw _|true=>have h2:=vH (p.2.2.2.1,p.2.2.2.2.1,p.2.2.2.2.2.1,p.2.2.2.2.2.2.2.2.1,p.2.2.2.2.2.2.1,p.2.2.2.2.2.2.2.1,(Ny p).1);have h3:(Ny p).1.length≤340:=h1;simp only[ah,aj];omega
theorem JL (p:aG):kZ p=some (vC p):=by have hl:=KU p;unfold kZ vC;simp only[pb,sK,LD,ae];rw[show(Gl (p.2.2.2.1,p.2.2.2.2.1,p.2.2.2.2.2.1,p.2.2.2.2.2.2.2.2.1,p.2.2.2.2.2.2.1,p.2.2.2.2.2.2.2.1,(qP p.2.2.2.2.2.2.1 p.2.2.2.2.2.2.2.1 p.2.2.2.2.2.2.2.2).1))=Pj p from rfl,NF _ (by omega),ae,ND];cases dD p<;>rfl
theorem Au (p:aG):(vC p).1.length≤378:=by have hl:=KU p;have hp:=Nr (Pj p).1;unfold vC SH MR;cases dD p with|false=>exact bw _|true=>cases sm (p.1,p.2.1,p.2.2.1,2048,pad (Pj p).1)with|false=>exact bw _|true=>have:=Kv (p.1,p.2.1,p.2.2.1,2048,pad (Pj p).1);simp only[ah]at this⊢;omega
def Zw (c:Int):Bytes:=bytesOf [dK c,dK (Int.fdiv c (2^(min (Int.toNat 8) (IntKind.bits .i64)))),dK (Int.fdiv c (2^(min (Int.toNat 16) (IntKind.bits .i64)))),dK (Int.fdiv c (2^(min (Int.toNat 24) (IntKind.bits .i64))))]
def qj (s:Bytes):Bytes:=s++Zw (Kn s)
theorem MS (c:Int):(Zw c).length=4:=rfl
theorem H0 (s:Bytes)(h:s.length≤1000000000):my s=some (qj s):=by unfold my;rw[NB s h,ae,aq (by omega),aq (by omega),aq (by omega)];exact aS (by show s.length+4≤_;omega)
theorem MV (s:Bytes)(h:s.length≤1000000000):oC s=some (qj s):=by unfold oC;rw[MU s h,ae,aq (by omega),aq (by omega),aq (by omega)];exact aS (by show s.length+4≤_;omega)
def jT (p:aG):Bool:=dD p&&decide ((p.2.2.2.2.2.2.2.2.2.2.2.2.2.2.2.length:Int)≤128)
theorem zh (p:aG):kO p=some (jT p):=by simp only[kO,pb,ae,bm,cF,jT]
theorem F9 (p:aG):nh p=some (jT p):=by simp only[nh,o7,ae,bm,cF,jT]
def B2 (p:aG):Bytes×Bool:=bif jT p then(qj (vC p).1,true) else([],false)
theorem JK (p:aG):kY p=some (B2 p):=by have hl:=Au p;simp only[kY,zh,JL,H0 _ (show(vC p).1.length≤1000000000 by omega),ae,B2];cases jT p<;>rfl
theorem IA (p:aG):(B2 p).1.length≤382:=by have hl:=Au p;unfold B2;cases jT p with|false=>exact bw _|true=>simp only[ah,qj,aj,MS];omega
theorem Hb {p:aG}(h:dD p=true):p.2.2.2.2.2.2.2.2.2.2.2.2.2.2.2.length≤320:=by
 have hh:lN p=true:=by simp only[dD,ab]at h;exact h.1
 exact sI (su hh)
theorem ux {s:Bytes}{a:Int}(h0:0≤a)(h:a+2≤(s.length:Int)):0≤cf s a∧cf s a≤65535:=by have h1:=cV s a.toNat;have h2:=cV s (a.toNat+1);unfold cf c8;rw[ak ⟨h0,h⟩];simp only[ah];omega
theorem uy {s:Bytes}{a:Int}(h0:0≤a)(h:a+4≤(s.length:Int)):0≤fF s a∧fF s a≤4294967295:=by have h1:=cV s a.toNat;have h2:=cV s (a.toNat+1);have h3:=cV s (a.toNat+2);have h4:=cV s (a.toNat+3);unfold fF c8;rw[ak ⟨h0,h⟩];simp only[ah];omega
theorem KZ {x y:Int}(hx:0≤x∧x≤65535)(hy:0≤y∧y≤4294967295):ar (BitVec.toNat (BitVec.ofInt (IntKind.bits .i64) (ar (x*2^(min (Int.toNat 32) (IntKind.bits .i64))))|||BitVec.ofInt (IntKind.bits .i64) y))=x*4294967296+y:=by have e:(2:Int)^(min (Int.toNat 32) (IntKind.bits .i64))=4294967296:=rfl;obtain⟨x,rfl⟩:=bg hx.1;obtain⟨y,rfl⟩:=bg hy.1;rw[e,wrap64 (n:=(x:Int)*4294967296) (by omega) (by omega),show(x:Int)*4294967296=((2^32*x:Nat):Int) by omega,tY x 32 y (by omega) (by omega)];omega
theorem HO {x y:Int}(hx:0≤x∧x≤65535)(hy:0≤y∧y≤4294967295):ar (ar (x*2^(min (Int.toNat 32) (IntKind.bits .i64)))+y)=x*4294967296+y:=by have e:(2:Int)^(min (Int.toNat 32) (IntKind.bits .i64))=4294967296:=rfl;rw[e,wrap64 (n:=x*4294967296) (by omega) (by omega),wrap64 (by omega) (by omega)]
theorem xk {α:Type}{l:List α}{n:Int}(h0:0≤n)(h1:n≤(l.length:Int)):sub l 0 n=some (l.take n.toNat):=by unfold sub;rw[au (by omega)];simp
theorem nH {α:Type}{l:List α}(k:Nat)(h:k≤l.length){a:Int}(ha:a=(k:Int)):sub l a (l.length:Int)=some (l.drop k):=by unfold sub;rw[au (by omega)];subst ha;simp
theorem H6 {α:Type}{l:List α}(k:Nat){a n:Int}(ha:a=(k:Int))(h0:a≤n)(h1:n≤(l.length:Int)):sub l a n=some ((l.take n.toNat).drop k):=by unfold sub;rw[au (by omega)];subst ha;simp
def qW (s:Bytes):Bytes×Bool:=bif decide ((s.length:Int)<4) then([],false) else bif qj (s.take ((s.length:Int)-4).toNat)==s then(s.take ((s.length:Int)-4).toNat,true) else([],false)
theorem GX (s:Bytes)(h:s.length≤1000000000):nr s=some (qW s):=by unfold nr qW;rw[wrap64 (n:=(s.length:Int)-4) (by omega) (by omega)];by_cases h4:(s.length:Int)<4;rw[ak h4];rfl;rw[af h4,xk (by omega) (by omega)];simp only[ai,ae,H0 _ (show(s.take ((s.length:Int)-4).toNat).length≤1000000000 by rw[bp];omega)];cases qj (s.take ((s.length:Int)-4).toNat)==s<;>rfl
theorem F5 (s:Bytes)(h:s.length≤1000000000):mZ s=some (qW s):=by unfold mZ qW;rw[wrap64 (n:=(s.length:Int)-4) (by omega) (by omega)];by_cases h4:(s.length:Int)<4;rw[ak (show(s.length:Int)-4<0 by omega),ak h4];rfl;rw[af (show¬(s.length:Int)-4<0 by omega),af h4,xk (by omega) (by omega)];simp only[ai,ae,MV _ (show(s.take ((s.length:Int)-4).toNat).length≤1000000000 by rw[bp];omega)];cases qj (s.take ((s.length:Int)-4).toNat)==s<;>rfl
def Ku:Af:=(0,0,0,0,([]:Bytes))
def HN (s:Bytes)(a:Int):Int:=cf s a*4294967296+fF s (a+2)
def Ds (s:Bytes):Af:=(HN s 0,HN s 6,cf s 14,cf s 16,s.drop 18)
def tu (s:Bytes):Af:=(HN s 0,HN s 6, -1,cf s 12,s.drop 14)
def ma (s:Bytes):Af×Bool:=bif decide ((s.length:Int)<18) then(Ku,false) else
 bif cf s 12==33024 then(bif sm (Ds s) then(Ds s,true) else(Ku,false)) else bif sm (tu s) then(tu s,true) else(Ku,false)
theorem Cz (s:Bytes)(h:s.length≤1000000000):nz s=some (ma s):=by unfold nz ma;by_cases h8:(s.length:Int)<18;rw[ak h8];rfl;rw[af h8];simp only[ai,qQ s _ h,wc s _ h,ae];rw[aq (by omega),aq (by omega),nH (l:=s) 14 (by omega) (show(14:Int)=((14:Nat):Int) from rfl),ae,nH (l:=s) 18 (by omega) (show(18:Int)=((18:Nat):Int) from rfl)];rw[HO (ux (s:=s) (a:=0) (by omega) (by omega)) (uy (s:=s) (a:=2) (by omega) (by omega)),HO (ux (s:=s) (a:=6) (by omega) (by omega)) (uy (s:=s) (a:=8) (by omega) (by omega))];simp only[ae,wa];rw[show((cf s 0*4294967296+fF s 2,cf s 6*4294967296+fF s 8,cf s 14,cf s 16,s.drop 18):Af)=Ds s from rfl,show((cf s 0*4294967296+fF s 2,cf s 6*4294967296+fF s 8, -1,cf s 12,s.drop 14):Af)=tu s from rfl];cases cf s 12==33024<;>cases sm (Ds s)<;>cases sm (tu s)<;>rfl
theorem B8 (s:Bytes)(h:s.length≤1000000000):ni s=some (ma s):=by
 unfold ni ma;by_cases h4:(s.length:Int)<14;rw[ak h4,ak (show(s.length:Int)<18 by omega)];rfl;rw[af h4];simp only[ai,vD s _ h,vE s _ h,ae];rw[aq (by omega),aq (by omega),nH (l:=s) 14 (by omega) (show(14:Int)=((14:Nat):Int) from rfl),ae];rw[KZ (ux (s:=s) (a:=0) (by omega) (by omega)) (uy (s:=s) (a:=2) (by omega) (by omega)),KZ (ux (s:=s) (a:=6) (by omega) (by omega)) (uy (s:=s) (a:=8) (by omega) (by omega))];simp only[ae,II];rw[show((cf s 0*4294967296+fF s 2,cf s 6*4294967296+fF s 8, -1,cf s 12,s.drop 14):Af)=tu s from rfl];by_cases h8:(s.length:Int)<18;have hB:sm (tu s)=false:=by
  unfold sm tu;have:cQ ((s.drop 14).length:Int) 46 400=false:=by rw[Bool.eq_false_iff,ne_eq,br,bc];omega
  simp only[this,eO]
 rw[ak h8,af (show¬(s.length:Int)≥18 by omega),hB];cases cf s 12==33024<;>rfl;rw[af h8,ak (show(s.length:Int)≥18 by omega),nH (l:=s) 18 (by omega) (show(18:Int)=((18:Nat):Int) from rfl)];simp only[ae];rw[show((cf s 0*4294967296+fF s 2,cf s 6*4294967296+fF s 8,cf s 14,cf s 16,s.drop 18):Af)=Ds s from rfl];cases cf s 12==33024<;>cases sm (Ds s)<;>cases sm (tu s)<;>rfl
def U4:Ip:=(0,0,0,0,0,0,([]:Bytes))
def uH (s:Bytes):Ip:=((bJ s 1:Int),cf s 4,(bJ s 8:Int),(bJ s 9:Int),fF s 12,fF s 16,(s.take (cf s 2).toNat).drop 20)
def oF (s:Bytes):Ip×Bool:=bif decide ((s.length:Int)<20)||(decide (cf s 2<20)||decide (cf s 2>(s.length:Int))) then(U4,false) else
 bif (Gl (uH s)).2&&((Gl (uH s)).1==s.take (cf s 2).toNat) then(uH s,true) else(U4,false)
theorem E6 (s:Bytes)(h:s.length≤1000000000):oJ s=some (oF s):=by
 unfold oJ oF;simp only[qQ s _ h,wc s _ h,ae];by_cases h1:(s.length:Int)<20;rw[ak h1];rfl;by_cases h2:cf s 2<20;rw[af h1,ak h2];rfl;by_cases h3:cf s 2>(s.length:Int);rw[af h1,af h2,ak h3];rfl;rw[af h1,af h2,af h3];have b1:=hC (s[1]'(by omega));have b8:=hC (s[8]'(by omega));have b9:=hC (s[9]'(by omega));have i1:idx s 1=some (s[1]'(by omega)):=bD (i:=1) (by omega);have i8:idx s 8=some (s[8]'(by omega)):=bD (i:=8) (by omega);have i9:idx s 9=some (s[9]'(by omega)):=bD (i:=9) (by omega);simp only[ai,ae,bX,i1,i8,i9];rw[H6 (l:=s) 20 (show(20:Int)=((20:Nat):Int) from rfl) (by omega) (by omega),xk (by omega) (by omega),ev (n:=(s[1]'(by omega)).toNat) (by omega),ev (n:=(s[8]'(by omega)).toNat) (by omega),ev (n:=(s[9]'(by omega)).toNat) (by omega)];have e:(((s[1]'(by omega)).toNat:Int),cf s 4,((s[8]'(by omega)).toNat:Int),((s[9]'(by omega)).toNat:Int),fF s 12,fF s 16,(s.take (cf s 2).toNat).drop 20)=uH s:=by simp only[uH,bJ,cd (show 1<s.length by omega),cd (show 8<s.length by omega),cd (show 9<s.length by omega)]
 simp only[ae,e,LD];cases (Gl (uH s)).2<;>cases (Gl (uH s)).1==s.take (cf s 2).toNat<;>rfl
theorem DL (s:Bytes)(h:s.length≤1000000000):oA s=some (oF s):=by
 unfold oA oF;simp only[vD s _ h,vE s _ h,ae];by_cases h1:(s.length:Int)<20;rw[ak h1];rfl;by_cases h2:cf s 2<20;rw[af h1,ak h2];rfl;by_cases h3:cf s 2>(s.length:Int);rw[af h1,af h2,ak h3];rfl;rw[af h1,af h2,af h3];have b1:=hC (s[1]'(by omega));have b8:=hC (s[8]'(by omega));have b9:=hC (s[9]'(by omega));have i1:idx s 1=some (s[1]'(by omega)):=bD (i:=1) (by omega);have i8:idx s 8=some (s[8]'(by omega)):=bD (i:=8) (by omega);have i9:idx s 9=some (s[9]'(by omega)):=bD (i:=9) (by omega);simp only[ai,ae,bX,i1,i8,i9];rw[H6 (l:=s) 20 (show(20:Int)=((20:Nat):Int) from rfl) (by omega) (by omega),xk (by omega) (by omega),ev (n:=(s[1]'(by omega)).toNat) (by omega),ev (n:=(s[8]'(by omega)).toNat) (by omega),ev (n:=(s[9]'(by omega)).toNat) (by omega)];have e:(((s[1]'(by omega)).toNat:Int),cf s 4,((s[8]'(by omega)).toNat:Int),((s[9]'(by omega)).toNat:Int),fF s 12,fF s 16,(s.take (cf s 2).toNat).drop 20)=uH s:=by simp only[uH,bJ,cd (show 1<s.length by omega),cd (show 8<s.length by omega),cd (show 9<s.length by omega)]
 simp only[ae,e,Pf];cases (Gl (uH s)).2<;>cases (Gl (uH s)).1==s.take (cf s 2).toNat<;>rfl
def Q2:cj:=(0,0,0,0,0,0,0,([]:Bytes))
def yW (k:Int)(s:Bytes):cj:=(k,cf s 0,cf s 2,fF s 4,fF s 8,(bJ s 13:Int),cf s 14,s.drop 20)
def Cr (k:Int)(s:Bytes):cj:=(k,cf s 0,cf s 2,0,0,0,0,s.drop 8)
def pA (a b k:Int)(s:Bytes):cj×Bool:=
 bif (k==6)&&decide ((s.length:Int)≥20) then(bif (qP a b (yW k s)).2&&((qP a b (yW k s)).1==s) then(yW k s,true) else(Q2,false)) else
 bif (k==17)&&decide ((s.length:Int)≥8) then(bif (qP a b (Cr k s)).2&&((qP a b (Cr k s)).1==s) then(Cr k s,true) else(Q2,false)) else(Q2,false)
theorem CA (a b k:Int)(s:Bytes)(h:s.length≤1000000000):jg a b k s=some (pA a b k s):=by
 unfold jg pA;simp only[qQ s _ h,wc s _ h,ae];rw[show(aa (cond (k==6) (some (decide ((s.length:Int)≥20))) (some false)):(Bool→Option (cj×Bool))→Option (cj×Bool))=λK=>K ((k==6)&&decide ((s.length:Int)≥20)) from by funext K;cases k==6<;>rfl];rw[show(aa (cond (k==17) (some (decide ((s.length:Int)≥8))) (some false)):(Bool→Option (cj×Bool))→Option (cj×Bool))=λK=>K ((k==17)&&decide ((s.length:Int)≥8)) from by funext K;cases k==17<;>rfl];simp only;cases h1:(k==6)&&decide ((s.length:Int)≥20)with
 |true=>
  simp only[ab,aF]at h1;have bb:=hC (s[13]'(by omega));have i:idx s 13=some (s[13]'(by omega)):=bD (i:=13) (by omega);have e:(k,cf s 0,cf s 2,fF s 4,fF s 8,((s[13]'(by omega)).toNat:Int),cf s 14,s.drop 20)=yW k s:=by simp only[yW,bJ,cd (show 13<s.length by omega)]
  simp only[ah,i,ae];rw[nH (l:=s) 20 (by omega) (show(20:Int)=((20:Nat):Int) from rfl),ev (n:=(s[13]'(by omega)).toNat) (by omega)];simp only[ae,e,sK];cases (qP a b (yW k s)).2<;>cases (qP a b (yW k s)).1==s<;>rfl
 |false=>simp only[ai];cases h2:(k==17)&&decide ((s.length:Int)≥8)with|false=>rfl|true=>simp only[ab,aF]at h2;rw[nH (l:=s) 8 (by omega) (show(8:Int)=((8:Nat):Int) from rfl)];simp only[ah,ae,show((k,cf s 0,cf s 2,0,0,0,0,s.drop 8):cj)=Cr k s from rfl,sK];cases (qP a b (Cr k s)).2<;>cases (qP a b (Cr k s)).1==s<;>rfl
theorem B9 (a b k:Int)(s:Bytes)(h:s.length≤1000000000):iZ a b k s=some (pA a b k s):=by
 unfold iZ pA;simp only[vD s _ h,vE s _ h,ae];rw[show(aa (cond (k==6) (some (decide ((s.length:Int)≥20))) (some false)):(Bool→Option (cj×Bool))→Option (cj×Bool))=λK=>K ((k==6)&&decide ((s.length:Int)≥20)) from by funext K;cases k==6<;>rfl];rw[show(aa (cond (k==17) (some (decide ((s.length:Int)≥8))) (some false)):(Bool→Option (cj×Bool))→Option (cj×Bool))=λK=>K ((k==17)&&decide ((s.length:Int)≥8)) from by funext K;cases k==17<;>rfl];simp only;cases h1:(k==6)&&decide ((s.length:Int)≥20)with
 |true=>
  simp only[ab,aF]at h1;have bb:=hC (s[13]'(by omega));have i:idx s 13=some (s[13]'(by omega)):=bD (i:=13) (by omega);have e:(k,cf s 0,cf s 2,fF s 4,fF s 8,((s[13]'(by omega)).toNat:Int),cf s 14,s.drop 20)=yW k s:=by simp only[yW,bJ,cd (show 13<s.length by omega)]
  simp only[ah,i,ae];rw[nH (l:=s) 20 (by omega) (show(20:Int)=((20:Nat):Int) from rfl),ev (n:=(s[13]'(by omega)).toNat) (by omega)];simp only[ae,e,wx];cases (qP a b (yW k s)).2<;>cases (qP a b (yW k s)).1==s<;>rfl
 |false=>simp only[ai];cases h2:(k==17)&&decide ((s.length:Int)≥8)with|false=>rfl|true=>simp only[ab,aF]at h2;rw[nH (l:=s) 8 (by omega) (show(8:Int)=((8:Nat):Int) from rfl)];simp only[ah,ae,show((k,cf s 0,cf s 2,0,0,0,0,s.drop 8):cj)=Cr k s from rfl,wx];cases (qP a b (Cr k s)).2<;>cases (qP a b (Cr k s)).1==s<;>rfl
def QW:aG:=(0,0,0,0,0,0,0,0,0,0,0,0,0,0,0,([]:Bytes))
def uW (s:Bytes):aG×Int:=
 let e:=ma s
 bif !e.2||(e.1.2.2.2.1 !=2048) then(QW,2) else
 let i:=oF e.1.2.2.2.2
 bif !i.2 then(QW,3) else
 let g:=pA i.1.2.2.2.2.1 i.1.2.2.2.2.2.1 i.1.2.2.2.1 i.1.2.2.2.2.2.2
 bif !g.2 then(QW,4) else
 bif !dD (e.1.1,e.1.2.1,e.1.2.2.1,i.1.1,i.1.2.1,i.1.2.2.1,i.1.2.2.2.2.1,i.1.2.2.2.2.2.1,g.1) then(QW,5) else
 ((e.1.1,e.1.2.1,e.1.2.2.1,i.1.1,i.1.2.1,i.1.2.2.1,i.1.2.2.2.2.1,i.1.2.2.2.2.2.1,g.1),0)
theorem uR (s:Bytes):(ma s).1.2.2.2.2.length≤s.length:=by
 unfold ma;cases decide ((s.length:Int)<18)with|true=>simp[Ku]|false=>?_
 cases cf s 12==33024<;>cases sm (Ds s)<;>cases sm (tu s)<;>simp[Ku,Ds,tu]
theorem wC (s:Bytes):(oF s).1.2.2.2.2.2.2.length≤s.length:=by
 unfold oF;cases decide ((s.length:Int)<20)||(decide (cf s 2<20)||decide (cf s 2>(s.length:Int)))with|true=>simp[U4]|false=>?_
 cases (Gl (uH s)).2&&((Gl (uH s)).1==s.take (cf s 2).toNat)with|false=>simp[U4]|true=>simp[uH];omega
theorem JO (s:Bytes)(h:s.length≤1000000000):mw s=some (uW s):=by
 have h1:=uR s;unfold mw uW;rw[Cz s h,ae];generalize ma s=e at h1⊢;have h2:=wC e.1.2.2.2.2;simp only;cases e.2 with|false=>rfl|true=>?_
 cases e.1.2.2.2.1 !=2048 with|true=>rfl|false=>?_
 simp only[aw,ai,ae,bX,E6 _ (show e.1.2.2.2.2.length≤1000000000 by omega)];generalize oF e.1.2.2.2.2=i at h2⊢;cases i.2 with|false=>rfl|true=>?_
 simp only[aw,ai,ae,CA _ _ _ _ (show i.1.2.2.2.2.2.2.length≤1000000000 by omega)];generalize pA i.1.2.2.2.2.1 i.1.2.2.2.2.2.1 i.1.2.2.2.1 i.1.2.2.2.2.2.2=g;cases g.2 with|false=>rfl|true=>?_
 simp only[aw,ai,ae,pb];cases dD (e.1.1,e.1.2.1,e.1.2.2.1,i.1.1,i.1.2.1,i.1.2.2.1,i.1.2.2.2.2.1,i.1.2.2.2.2.2.1,g.1)<;>rfl
theorem IP (s:Bytes)(h:s.length≤1000000000):lX s=some (uW s):=by
 have h1:=uR s;unfold lX uW;rw[B8 s h,ae];generalize ma s=e at h1⊢;have h2:=wC e.1.2.2.2.2;simp only;cases e.2 with|false=>rfl|true=>?_
 cases e.1.2.2.2.1 !=2048 with|true=>rfl|false=>?_
 simp only[aw,ai,ae,bX,DL _ (show e.1.2.2.2.2.length≤1000000000 by omega)];generalize oF e.1.2.2.2.2=i at h2⊢;cases i.2 with|false=>rfl|true=>?_
 simp only[aw,ai,ae,B9 _ _ _ _ (show i.1.2.2.2.2.2.2.length≤1000000000 by omega)];generalize pA i.1.2.2.2.2.1 i.1.2.2.2.2.2.1 i.1.2.2.2.1 i.1.2.2.2.2.2.2=g;cases g.2 with|false=>rfl|true=>?_
 simp only[aw,ai,ae,o7];cases dD (e.1.1,e.1.2.1,e.1.2.2.1,i.1.1,i.1.2.1,i.1.2.2.1,i.1.2.2.2.2.1,i.1.2.2.2.2.2.1,g.1)<;>rfl
def nU (s:Bytes):aG×Int:=
 let c:=qW s
 bif !c.2 then(QW,1) else
 let r:=uW c.1
 bif r.2 !=0 then(QW,r.2) else
 bif !jT r.1 then(QW,5) else(r.1,0)
theorem xB (s:Bytes):(qW s).1.length≤s.length:=by
 unfold qW;cases decide ((s.length:Int)<4)with|true=>simp|false=>?_
 cases qj (s.take ((s.length:Int)-4).toNat)==s with|false=>simp|true=>simp;omega
theorem AY (s:Bytes)(h:s.length≤1000000000):jy s=some (nU s):=by
 have h1:=xB s;unfold jy nU;rw[GX s h,ae];generalize qW s=c at h1⊢;simp only;cases c.2 with|false=>rfl|true=>?_
 simp only[aw,ai,ae,JO _ (show c.1.length≤1000000000 by omega)];generalize uW c.1=r;cases r.2 !=0 with|true=>rfl|false=>?_
 simp only[ai,ae,zh];cases jT r.1<;>rfl
theorem IM (s:Bytes)(h:s.length≤1000000000):lW s=some (nU s):=by
 have h1:=xB s;unfold lW nU;rw[F5 s h,ae];generalize qW s=c at h1⊢;simp only;cases c.2 with|false=>rfl|true=>?_
 simp only[aw,ai,ae,IP _ (show c.1.length≤1000000000 by omega)];generalize uW c.1=r;cases r.2 !=0 with|true=>rfl|false=>?_
 simp only[ai,ae,F9];cases jT r.1<;>rfl
theorem rf (a:List Bytes)(h:a.length≤1073741824):gk a=some a:=by simp only[gk];rw[aS (by simpa using h)];rfl
theorem w3 (l:List Bytes)(h:l.length≤1000000000):jP l=some l:=by simp only[jP,kH h,bz]
theorem yi (f:Filter)(h:f.2.2.length≤1000000000):kW f=some f:=by simp only[kW,sc _ h,ae]
theorem zb (f:Filter)(h:f.2.2.length≤1000000000):oU f=some f:=by simp only[oU,kH h,bz]
theorem rL (l:List Stream)(h:l.length≤1000000000):gN l=some l:=by simp only[gN,kH h,bz]
theorem zM (t:List Slot)(h:t.length≤1000000000):lZ t=some t:=by simp only[lZ,kH h,bz]
theorem yj (s:eS)(h:s.2.length≤1000000000):kX s=some s:=by simp only[kX,sc _ h,ae]
theorem zL (s:bL)(h1:s.1.length≤1000000000)(h2:s.2.1.length≤1000000000)(h3:s.2.2.2.length≤1000000000):ja s=some s:=by simp only[ja,kH h1,zM _ h2,yj _ h3,ae,bz]
theorem tE (t:List Slot)(h:t.length≤1000000000):mB t=some t:=by simp only[mB,kH h,bz]
theorem zX (s:bL)(h1:s.1.length≤1000000000)(h2:s.2.1.length≤1000000000)(h3:s.2.2.2.length≤1000000000):oR s=some s:=by simp only[oR,kH h1,tE _ h2,kH h3,ae,bz]
structure Vd (t:lG):Prop where
 p:t.2.1.2.2.2.length≤1000000000
 w:t.2.2.1.length≤1000000000
 x:∀x∈t.2.2.1,x.2.2.length≤1000000000
theorem Hp:∀l:List rT,(ew l).length≤Fm (.sl mH) l
 |[]=>by simp[ew]
 |x::l=>by have:=Hp l;simp only[ew,Fm,List.flatMap_cons,aj,cl,List.sum_cons,cM]at this⊢;omega
theorem uB (s:rU)(z:jA 1000000000 tr s):kB s=some s:=by simp only[kB,yi _ z.1.2.2.1,zL _ z.2.1.1.1 z.2.1.2.1.1 z.2.1.2.2.2.1,rL _ z.2.2.2.1.1,w3 _ z.2.2.2.2.1,ae]
def U0:rU:=((0,false,([]:List Int)),(([]:List dw),([]:List Slot),([]:Bytes),([]:List Int)),0,([]:List Stream),([]:List Bytes))
def wF (h:Host):rU:=bif wv h then(h.2.2.2.2.2.2.2.1,h.2.2.2.2.2.2.2.2.1,(h.2.2.2.1.length:Int),h.2.2.2.2.2.2.2.2.2.1,([]:List Bytes)) else U0
theorem AX (h:Host){n:Nat}(z:jA n rY h):jA n tr (wF h):=by unfold wF;cases wv h with|false=>exact⟨⟨trivial,trivial,bw _,λ_ h=>nomatch h⟩,⟨⟨bw _,λ_ h=>nomatch h⟩,⟨bw _,λ_ h=>nomatch h⟩,bw _,bw _,λ_ h=>nomatch h⟩,trivial,⟨bw _,λ_ h=>nomatch h⟩,bw _,λ_ h=>nomatch h⟩|true=>exact⟨z.2.2.2.2.2.2.2.1,z.2.2.2.2.2.2.2.2.1,trivial,z.2.2.2.2.2.2.2.2.2.1,bw _,λ_ h=>nomatch h⟩
theorem Gb (h:Host)(z:jA 1000000000 rY h)(k:Fo h):pZ h=some (wF h):=by have hl:=AX h z;simp only[pZ,KJ h k,ae,wF]at hl⊢;cases hb:wv h with|false=>rfl|true=>rw[hb]at hl;simp only[aw,ai,ah]at hl⊢;simp only[uB _ hl,ae]
noncomputable def za (s:rU):Bool:=gA s.1&&dh s.2.1 s.2.2.1
theorem DQ (s:rU)(h0:s.1.2.2.length≤1000000000)(h1:s.2.1.1.length≤1000000000)(h2:s.2.1.2.1.length≤1000000000)(h3:s.2.1.2.2.2.length≤1000000000):nN s=some (za s):=by unfold nN za;simp only[tT _ h0,qY _ _ h1 h2 h3,ae,bm];cases gA s.1<;>rfl
def Mx (f:Int×Int×Int×Int×Int)(s:Stream):Bool:=decide (s.1=f)
def xc (l:List Stream)(f:Int×Int×Int×Int×Int):Int:=match l.findIdx? (Mx f)with|some i=>(i:Int)|none=> -1
theorem E9 (l:List Stream)(f:Int×Int×Int×Int×Int)(h:l.length≤1000000000):gW l f=some (xc l f):=by
 unfold gW xc;rw[sZ (p:=Mx f) (hit:=λi=>some i) (fin:=some (-1)) l (by omega) (λi hi nx=>?hs) (λnx=>?hf)]
 case hs=>
  simp only[gF]
  rw[ak (by omega),bD hi,wrap64 (by omega) (by omega)]
  simp only[ah,ae,s6,Mx];rfl
 case hf=>
  simp only[gF]
  rw[af (by omega)];rfl
 cases l.findIdx? (Mx f)<;>rfl
theorem KO (l:List Stream)(f:Int×Int×Int×Int×Int)(h:l.length≤1000000000):dT l f=some (xc l f):=by
 unfold dT xc;rw[sZ (p:=Mx f) (hit:=λi=>some i) (fin:=some (-1)) l (by omega) (λi hi nx=>?hs) (λnx=>?hf)]
 case hs=>
  simp only[ei]
  rw[ak (by omega),bD hi,wrap64 (by omega) (by omega)]
  simp only[ah,ae,s6,Mx];rfl
 case hf=>
  simp only[ei]
  rw[af (by omega)];rfl
 cases l.findIdx? (Mx f)<;>rfl
def G8:Stream:=((0,0,0,0,0),0,([]:Bytes),false)
def body (p:aG):Bytes:=p.2.2.2.2.2.2.2.2.2.2.2.2.2.2.2
def U1 (p:aG):Bytes:=cI ((body p).length:Int)++body p
def n0 (p:aG)(b:Int):Bool:=ar (BitVec.toNat (BitVec.ofInt (IntKind.bits .i64) p.2.2.2.2.2.2.2.2.2.2.2.2.2.1&&&BitVec.ofInt (IntKind.bits .i64) b)) !=0
def jl (s:Stream)(p:aG):Int:=(s.2.1-p.2.2.2.2.2.2.2.2.2.2.2.1)%4294967296
def NP (s:Stream)(p:aG):Stream:=(s.1,(s.2.1+((body p).length:Int)-jl s p)%4294967296,s.2.2.1++(body p).drop (jl s p).toNat,n0 p 1)
def ef (l:List Stream)(p:aG):List Stream:=
 bif !dD p then l else
 match l.findIdx? (Mx (fL p))with
 |none=>
  bif p.2.2.2.2.2.2.2.2.1==17 then l++[(fL p,0,U1 p,false)] else
  bif n0 p 2 then l++[(fL p,Int.tmod (ar (p.2.2.2.2.2.2.2.2.2.2.2.1+1)) 4294967296,([]:Bytes),false)] else l
 |some i=>
  bif p.2.2.2.2.2.2.2.2.1==17 then l.set i ((l.getD i G8).1,(l.getD i G8).2.1,(l.getD i G8).2.2.1++U1 p,(l.getD i G8).2.2.2) else
  bif n0 p 2 then l else
  bif (l.getD i G8).2.2.2||n0 p 4 then l else
  bif decide (jl (l.getD i G8) p≤((body p).length:Int)) then l.set i (NP (l.getD i G8) p) else l
theorem CK (s:Stream)(p:aG):0≤jl s p∧jl s p<4294967296:=by unfold jl;omega
theorem QC (x:Int):ar (BitVec.toNat (BitVec.ofInt (IntKind.bits .i64) x&&&BitVec.ofInt (IntKind.bits .i64) 4294967295))=x%4294967296:=by have:=rZ x 32 (by omega);rw[show((2:Int)^32-1)=4294967295 from rfl,show((2:Int)^32)=4294967296 from rfl]at this;rw[this,wrap64 (by omega) (by omega)]
theorem Mv (x:Int):ar x%4294967296=x%4294967296:=by have:=qS x 32 (by omega);rwa[show((2:Int)^32)=4294967296 from rfl]at this
theorem u0 {α:Type}(l:List α)(x y:α):(l++[x]).set l.length y=l++[y]:=by rw[List.set_append_right _ _ (aK _),fN,List.set_cons_zero]
theorem HG {α:Type}{l:List α}{i:Nat}(h:i<l.length)(x:α):idx (l.set i x) (i:Int)=some x:=by rw[B3,List.getElem?_set_self h]
theorem ov {α:Type}(l:List α)(x:α):idx (l++[x]) (l.length:Int)=some x:=by rw[B3,List.getElem?_append_right (aK _),fN];rfl
theorem xw {p:aG}(h:dD p=true):(body p).length≤320:=Hb h
theorem B4 (l:List Stream)(p:aG)(h:jA 900000000 (.sl bF) l):lO l p=some (ef l p):=by
 have hl:l.length≤900000000:=h.1;unfold lO ef;simp only[rL l (by omega),o7,ae,DK,KO l _ (show l.length≤1000000000 by omega),pt];cases hs:dD p with|false=>rfl|true=>?_
 have hb:=xw hs;have hw:=bn ((body p).length:Int);simp only[aw,ai];rw[show p.2.2.2.2.2.2.2.2.2.2.2.2.2.2.2=body p from rfl];cases hf:l.findIdx? (Mx (fL p))with
 |none=>
  have e1:xc l (fL p)= -1:=by rw[xc,hf]
  simp only[e1,show decide ((-1:Int)<0)=true from rfl,ah];cases p.2.2.2.2.2.2.2.2.1==17 with|true=>simp only[ah];rw[aS (by simp;omega),ov,ae];simp only;rw[aS (by omega),aS (by simp only[aj,List.length_nil];omega),ae,aI];simp only[ae,ov,u0,bz];rfl|false=>simp only[ai];rw[show(ar (BitVec.toNat (BitVec.ofInt (IntKind.bits .i64) p.2.2.2.2.2.2.2.2.2.2.2.2.2.1&&&BitVec.ofInt (IntKind.bits .i64) 2)) !=0)=n0 p 2 from rfl];cases n0 p 2 with|true=>simp only[ah];rw[aq (by omega),aS (by simp;omega)]|false=>rfl
 |some i=>
  obtain⟨hi,_⟩:=List.findIdx?_eq_some_iff_getElem.1 hf;have hd:(l[i].2.2.1).length≤900000000:=(h.2 _ (bP hi)).2.2.1;have e1:xc l (fL p)=(i:Int):=by rw[xc,hf]
  simp only[e1,af (show¬(i:Int)<0 by omega),ai,bD hi,ae,cd hi,aI];cases p.2.2.2.2.2.2.2.2.1==17 with
  |true=>simp only[ah];rw[aS (by omega),aS (by simp only[aj];omega)];rfl
  |false=>
   simp only[ai];rw[show(ar (BitVec.toNat (BitVec.ofInt (IntKind.bits .i64) p.2.2.2.2.2.2.2.2.2.2.2.2.2.1&&&BitVec.ofInt (IntKind.bits .i64) 2)) !=0)=n0 p 2 from rfl,show(ar (BitVec.toNat (BitVec.ofInt (IntKind.bits .i64) p.2.2.2.2.2.2.2.2.2.2.2.2.2.1&&&BitVec.ofInt (IntKind.bits .i64) 4)) !=0)=n0 p 4 from rfl,show(ar (BitVec.toNat (BitVec.ofInt (IntKind.bits .i64) p.2.2.2.2.2.2.2.2.2.2.2.2.2.1&&&BitVec.ofInt (IntKind.bits .i64) 1)) !=0)=n0 p 1 from rfl];cases n0 p 2 with|true=>rfl|false=>?_
   simp only[ai];rw[show(aa (cond l[i].2.2.2 (some true) (some (n0 p 4))):(Bool→Option (List Stream))→Option (List Stream))=λK=>K (l[i].2.2.2||n0 p 4) from by funext K;cases l[i].2.2.2<;>rfl];simp only;cases l[i].2.2.2||n0 p 4 with|true=>rfl|false=>?_
   simp only[ai,AG _ 4294967296 (by omega) (by omega),ae,Mv];rw[show(l[i].2.1-p.2.2.2.2.2.2.2.2.2.2.2.1)%4294967296=jl l[i] p from rfl];have ha:=CK l[i] p;by_cases hq:jl l[i] p≤((body p).length:Int);rw[ak hq,nH (l:=body p) (jl l[i] p).toNat (by omega) (by omega)];simp only[ah,ae];rw[aS (by rw[bc];omega)];simp only[HG hi,ae,List.set_set];refine congrArg some (congrArg (l.set i) ?_);simp only[NP];rw[show(ar (l[i].2.1+((body p).length:Int))-jl l[i] p)%4294967296=(l[i].2.1+((body p).length:Int)-jl l[i] p)%4294967296 from by rw[Int.sub_emod,Mv,←Int.sub_emod]];rw[af hq];rfl
theorem Cv (l:List Stream)(p:aG)(h:jA 900000000 (.sl bF) l):mf l p=some (ef l p):=by
 have hl:l.length≤900000000:=h.1;unfold mf ef;rw[kH (by omega)];simp only[bz,pb,ae,ze,E9 l _ (show l.length≤1000000000 by omega),gr];cases hs:dD p with|false=>rfl|true=>?_
 have hb:=xw hs;have hw:=bn ((body p).length:Int);simp only[aw,ai];rw[show p.2.2.2.2.2.2.2.2.2.2.2.2.2.2.2=body p from rfl];cases hf:l.findIdx? (Mx (fL p))with
 |none=>
  have e1:xc l (fL p)= -1:=by rw[xc,hf]
  simp only[e1,show decide ((-1:Int)<0)=true from rfl,ah];cases p.2.2.2.2.2.2.2.2.1==17 with|true=>simp only[ah];rw[aS (by simp;omega),ov,ae];simp only;rw[aS (by simp only[List.length_nil];omega),aS (by simp only[aj,List.length_nil];omega),ae,aI];simp only[ae,ov,u0,bz];rfl|false=>simp only[ai];rw[show(ar (BitVec.toNat (BitVec.ofInt (IntKind.bits .i64) p.2.2.2.2.2.2.2.2.2.2.2.2.2.1&&&BitVec.ofInt (IntKind.bits .i64) 2)) !=0)=n0 p 2 from rfl];cases n0 p 2 with|true=>simp only[ah];rw[aq (by omega),aS (by simp;omega)]|false=>rfl
 |some i=>
  obtain⟨hi,_⟩:=List.findIdx?_eq_some_iff_getElem.1 hf;have hd:(l[i].2.2.1).length≤900000000:=(h.2 _ (bP hi)).2.2.1;have e1:xc l (fL p)=(i:Int):=by rw[xc,hf]
  simp only[e1,af (show¬(i:Int)<0 by omega),ai,bD hi,ae,cd hi,aI];cases p.2.2.2.2.2.2.2.2.1==17 with
  |true=>simp only[ah];rw[aS (by omega),aS (by simp only[aj];omega),aB];rfl
  |false=>
   simp only[ai];rw[show(ar (BitVec.toNat (BitVec.ofInt (IntKind.bits .i64) p.2.2.2.2.2.2.2.2.2.2.2.2.2.1&&&BitVec.ofInt (IntKind.bits .i64) 2)) !=0)=n0 p 2 from rfl,show(ar (BitVec.toNat (BitVec.ofInt (IntKind.bits .i64) p.2.2.2.2.2.2.2.2.2.2.2.2.2.1&&&BitVec.ofInt (IntKind.bits .i64) 4)) !=0)=n0 p 4 from rfl,show(ar (BitVec.toNat (BitVec.ofInt (IntKind.bits .i64) p.2.2.2.2.2.2.2.2.2.2.2.2.2.1&&&BitVec.ofInt (IntKind.bits .i64) 1)) !=0)=n0 p 1 from rfl];cases n0 p 2 with|true=>rfl|false=>?_
   simp only[ai];rw[show(aa (cond l[i].2.2.2 (some true) (some (n0 p 4))):(Bool→Option (List Stream))→Option (List Stream))=λK=>K (l[i].2.2.2||n0 p 4) from by funext K;cases l[i].2.2.2<;>rfl];simp only;cases l[i].2.2.2||n0 p 4 with|true=>rfl|false=>?_
   simp only[ai,QC,ae,Mv];rw[show(l[i].2.1-p.2.2.2.2.2.2.2.2.2.2.2.1)%4294967296=jl l[i] p from rfl];have ha:=CK l[i] p;by_cases hq:jl l[i] p≤((body p).length:Int);rw[ak hq,nH (l:=body p) (jl l[i] p).toNat (by omega) (by omega)];simp only[ah,ae];rw[aS (by rw[bc];omega)];simp only[HG hi,ae,List.set_set,aq (show¬(4294967296:Nat)=0 by omega)];refine congrArg some (congrArg (l.set i) ?_);simp only[NP];have e:Int.tmod (ar (ar (l[i].2.1%4294967296+((body p).length:Int))-jl l[i] p)) 4294967296=(l[i].2.1+((body p).length:Int)-jl l[i] p)%4294967296:=by rw[wrap64 (n:=l[i].2.1%4294967296+((body p).length:Int)) (by omega) (by omega),wrap64 (by omega) (by omega),cL (by omega)];omega
   rw[e];rw[af hq];rfl
theorem DJ (l:List Stream)(p:aG)(h:jA 100000000 (.sl bF) l):lO l p=some (ef l p):=B4 l p (h.mono (by omega))
theorem E3 (l:List Stream)(p:aG)(h:jA 100000000 (.sl bF) l):mf l p=some (ef l p):=Cv l p (h.mono (by omega))
theorem BW {l:List Stream}{p:aG}{n:Nat}(h:jA n (.sl bF) l):jA (n+322) (.sl bF) (ef l p):=by
 have h':jA (n+322) (.sl bF) l:=h.mono (by omega);unfold ef;cases hs:dD p with|false=>exact h'|true=>?_
 have hb:=xw hs;have hw:=bn ((body p).length:Int);have hu:(U1 p).length≤322:=by simp only[U1,aj];omega
 simp only[aw,ai];have app:∀x:Stream,x.2.2.1.length≤n+322→jA (n+322) (.sl bF) (l++[x]):=by intro x hx;refine⟨?_,λy hy=>?_⟩;have:l.length≤n:=h.1;simp only[aj,List.length_singleton];omega;rcases al.1 hy with g|g;exact h'.2 y g;rw[bS.1 g];exact⟨⟨trivial,trivial,trivial,trivial,trivial⟩,trivial,hx,trivial⟩
 have put:∀(i:Nat)(x:Stream),x.2.2.1.length≤n+322→jA (n+322) (.sl bF) (l.set i x):=by intro i x hx;refine⟨?_,λy hy=>?_⟩;show(l.set i x).length≤_;rw[aO];exact h'.1;rcases List.mem_or_eq_of_mem_set hy with g|rfl;exact h'.2 y g;exact⟨⟨trivial,trivial,trivial,trivial,trivial⟩,trivial,hx,trivial⟩
 split;cases p.2.2.2.2.2.2.2.2.1==17 with|true=>exact app _ (show(U1 p).length≤_ by omega)|false=>cases n0 p 2 with|true=>exact app _ (bw _)|false=>exact h'
 rename_i i hf;obtain⟨hi,_⟩:=List.findIdx?_eq_some_iff_getElem.1 hf;have hd:(l[i].2.2.1).length≤n:=(h.2 _ (bP hi)).2.2.1;simp only[cd hi];cases p.2.2.2.2.2.2.2.2.1==17 with
 |true=>exact put _ _ (by simp only[aj];omega)
 |false=>
  cases n0 p 2 with|true=>exact h'|false=>?_
  cases l[i].2.2.2||n0 p 4 with|true=>exact h'|false=>?_
  cases decide (jl l[i] p≤((body p).length:Int))with|false=>exact h'|true=>exact put _ _ (by simp only[NP,aj,bc];omega)
def wi (s:rU)(x:Bytes):Bool:=za s&&(((nU x).2==0)&&(nJ s.1 (nU x).1&&(qu s.2.1 s.2.2.1 (nU x).1 != -1)))
def sG (s:rU)(x:Bytes):rU:=bif wi s x then(s.1,s.2.1,s.2.2.1,ef s.2.2.2.1 (nU x).1,s.2.2.2.2) else s
theorem DM (s:rU)(x:Bytes)(z:jA 100000000 tr s)(h:x.length≤1000000000):jJ s x=some (sG s x):=by have z9:jA 1000000000 tr s:=z.mono (by omega);unfold jJ sG wi;simp only[uB s z9,IM x h,DQ s z9.1.2.2.1 z9.2.1.1.1 z9.2.1.2.1.1 z9.2.1.2.2.2.1,DG s.1 _ z9.1.2.2.1,IQ s.2.1 _ _ z9.2.1.1.1 z9.2.1.2.1.1 z9.2.1.2.2.2.1,DJ s.2.2.2.1 _ z.2.2.2.1,ae];cases za s<;>cases (nU x).2==0<;>cases nJ s.1 (nU x).1<;>cases qu s.2.1 s.2.2.1 (nU x).1 != -1<;>rfl
theorem As {s:Bytes}{a:Nat}:cf s (a:Int)=bif decide (a+2≤s.length) then((bJ s a*256+bJ s (a+1):Nat):Int) else-1:=by unfold cf c8;rw[aI,show decide ((0:Int)≤a∧(a:Int)+2≤(s.length:Int))=decide (a+2≤s.length) from decide_eq_decide.2 (by omega)]
theorem DD {s t:Bytes}{a:Nat}(hl:s.length=t.length)(h0:bJ s a=bJ t a)(h1:bJ s (a+1)=bJ t (a+1)):cf s (a:Int)=cf t (a:Int):=by rw[As,As,hl,h0,h1]
def om (s:Bytes):Nat:=bif cf s 12==33024 then 18 else 14
def yq (s:Bytes):Nat:=bJ s (om s+9)
def NI (k:Nat):Nat:=bif (k:Int)==6 then 16 else 6
def Ha (s:Bytes):Nat:=om s+10
def Aa (s:Bytes):Nat:=om s+20+NI (yq s)
theorem NJ (k:Nat):NI k=16∧k=6∨NI k=6∧k≠6:=by unfold NI;by_cases h:k=6;subst h;exact .inl ⟨rfl,rfl⟩;exact .inr ⟨by rw[show((k:Int)==6)=false from by rw[dj];omega];rfl,h⟩
theorem Ki (s:Bytes):om s=18∧(cf s 12==33024)=true∨om s=14∧(cf s 12==33024)=false:=by unfold om;cases cf s 12==33024 with|true=>exact .inl ⟨rfl,rfl⟩|false=>exact .inr ⟨rfl,rfl⟩
def Ae (s t:Bytes):Prop:=s.length=t.length∧∀i,i<Ha t∨(Ha t+2≤i∧i<Aa t)∨Aa t+2≤i→bJ s i=bJ t i
theorem ED (t:Bytes):(om t=14∨om t=18)∧Ha t=om t+10∧om t+26≤Aa t∧Aa t≤om t+36∧(Aa t=om t+36∧yq t=6∨Aa t=om t+26∧yq t≠6):=by have h1:=Ki t;have h2:=NJ (yq t);unfold Ha Aa;omega
theorem Ae.body {s t:Bytes}(h:Ae s t):om s=om t:=by have:=ED t;unfold om;have e:cf s ((12:Nat):Int)=cf t ((12:Nat):Int):=DD h.1 (h.2 _ (by omega)) (h.2 _ (by omega));rw[show(12:Int)=((12:Nat):Int) from rfl,e]
theorem Ae.kind {s t:Bytes}(h:Ae s t):yq s=yq t:=by have:=ED t;unfold yq;rw[h.body,h.2 _ (by omega)]
theorem Ae.Ys {s t:Bytes}(h:Ae s t):Ha s=Ha t∧Aa s=Aa t:=by unfold Ha Aa;rw[h.body,h.kind];exact⟨rfl,rfl⟩
theorem OI (a k:Nat):Int.tdiv (a:Int) (k:Int)=((a/k:Nat):Int):=(Int.ofNat_tdiv a k).symm
theorem OJ (a k:Nat):Int.tmod (a:Int) (k:Int)=((a%k:Nat):Int):=(Int.ofNat_tmod a k).symm
theorem mem_iff {m:List Bytes}:df m=true↔(∀x∈m,x.length=128)∧m.length≤64:=by simp only[df,ab,az,aQ,aF];constructor;rintro⟨h1,h2⟩;exact⟨λx hx=>by have:=h1 x hx;omega,by omega⟩;rintro⟨h1,h2⟩;exact⟨λx hx=>by have:=h1 x hx;omega,by omega⟩
def UU (m:List Bytes)(a n:Nat):Bytes:=(m.flatten.drop a).take n
def lf (m:List Bytes)(a n:Int):Bool:=df m&&decide (0≤n∧0≤a∧a+n≤128*(m.length:Int))
theorem wI (m:List Bytes)(a n:Int)(h:m.length≤1000000000):g5 m a n=some (lf m a n):=by unfold g5 lf;rw[ub m h,ae,wrap64 (n:=128*(m.length:Int)) (by omega) (by omega)];cases hm:df m with|false=>rfl|true=>simp only[ah,bR];by_cases h1:n≥0;by_cases h3:a≥0;by_cases h2:a≤128*(m.length:Int);rw[wrap64 (n:=128*(m.length:Int)-a) (by omega) (by omega)];simp only[ak h1,ak h2,ak h3,ah,ae];exact congrArg some (decide_eq_decide.2 (by omega));simp only[ak h1,af h2,ak h3,ah,ai,ae];exact congrArg some (af (by omega)).symm;simp only[ak h1,af h3,ah,ai,ae];exact congrArg some (af (by omega)).symm;simp only[af h1,ai,ae];exact congrArg some (af (by omega)).symm
def zO (d p:Int)(w:Bool)(x:aV):Bool:=l7 d p x&&(x.2.2.2|| !w)
def rO (l:List aV)(d p:Int)(w:Bool):Int:=match l.findIdx? (zO d p w)with|some i=>(l.getD i yy).2.2.1|none=> -1
theorem LG (l:List aV)(d p:Int)(w:Bool)(h:l.length≤1000000000):oS l d p w=some (rO l d p w):=by unfold oS rO;refine Eq.trans (sZ (p:=zO d p w) (hit:=λi=>aa (idx l i) λx=>some x.2.2.1) (fin:=some (-1)) l (by omega) (λi hi nx=>?_) (λnx=>?_)) ?_;simp only[lb];rw[ak (by omega),bD hi,wrap64 (by omega) (by omega)];simp only[ah,ae,zO,l7];cases l[i].1==d<;>cases l[i].2.1==p<;>cases l[i].2.2.2<;>cases w<;>rfl;simp only[lb];rw[af (by omega)];rfl;cases hf:l.findIdx? (zO d p w)with|none=>rfl|some i=>obtain⟨hi,_⟩:=List.findIdx?_eq_some_iff_getElem.1 hf;simp only[bD hi,ae,cd hi]
theorem K1 {l:List aV}(h:dH l=true){i:Nat}(hi:i<l.length):yx l[i]=true∧∀j (hj:j<i),l7 l[i].1 l[i].2.1 (l[j]'(by omega))=false:=by simp only[dH,ab,az,bI]at h;have:=h.2 i hi;simp only[yw,ab,az,bI,cd hi,aA]at this;exact⟨this.1,λj hj=>by have:=this.2 j hj;rwa[cd (by omega)]at this⟩
theorem I0 {d p:Int}{m:aV}:l7 d p m=true↔m.1=d∧m.2.1=p:=by simp[l7]
theorem Lg {l:List aV}(h:dH l=true)(d p:Int)(w:Bool)(h1:0≤rO l d p w):rO l d p w≤63∧0≤p∧p≤1023:=by unfold rO at h1⊢;cases hf:l.findIdx? (zO d p w)with|none=>rw[hf]at h1;simp at h1|some i=>obtain⟨hi,h2,_⟩:=List.findIdx?_eq_some_iff_getElem.1 hf;have h3:=(K1 h hi).1;simp only[zO,ab,I0]at h2;simp only[yx,ab,br]at h3;simp only[cd hi];omega
def mc (l:List aV)(m:List Bytes)(d:Int)(w:Bool):Nat→Nat→Nat→Option (List (Int×Int))
 |0,_,_=>some []
 |n+1,a,r=>if r=0 then some [] else
  if 0≤rO l d ((a/128:Nat):Int) w∧rO l d ((a/128:Nat):Int) w<(m.length:Int) then
   (mc l m d w n (a+min (128-a%128) r) (r-min (128-a%128) r)).map (λq=>(rO l d ((a/128:Nat):Int) w*128+((a%128:Nat):Int),((min (128-a%128) r:Nat):Int))::q)
  else none
theorem Fj {m:List Bytes}(hm:df m=true){f:Int}(h0:0≤f):lf m (f*128) 128=decide (f<(m.length:Int)):=by rw[lf,hm,bR];exact decide_eq_decide.2 (by omega)
theorem u9 {l:List aV}{m:List Bytes}(hl:dH l=true)(hL:l.length≤1000000000)(hm:df m=true)(d:Int)(w:Bool):∀(n a r f:Nat)(acc:List (Int×Int)),r≤n→n<f→acc.length+n≤1000000→a≤9223372036854775807→
 aZ (fB (λ(y10:Int) (y11:Int) (y12:List Int) (y13:List Int)=>some (y12,y13,true)) (λ(y14:Int) (y15:Int) (y16:List Int) (y17:List Int) (y18:Bool) (y19:List Int) (y20:List Int)=>some (y16,y17,y18)) l d w ([]:List Int) ([]:List Int) false m) f ((a:Int),(r:Int),acc.map (·.1),acc.map (·.2))
  =match mc l m d w n a r with|some q=>some ((acc++q).map (·.1),(acc++q).map (·.2),true)|none=>some ([],[],false)
 |n,a,r,0,acc,_,hf,_,_=>by omega
 |0,a,r,f+1,acc,hr,hf,hA,ha=>by rw[aZ];simp only[fB];rw[af (by omega)];simp[mc]
 |n+1,a,r,f+1,acc,hr,hf,hA,ha=>by
  have h64:=(mem_iff.1 hm).2;rw[aZ];simp only[fB,mc];by_cases h0:r=0;rw[af (by omega),au h0];simp;have e1:Int.tdiv (a:Int) 128=((a/128:Nat):Int):=OI a 128;have e2:Int.tmod (a:Int) 128=((a%128:Nat):Int):=OJ a 128;have hin:=Lg hl d ((a/128:Nat):Int) w;rw[ak (show(r:Int)>0 by omega),ak (show(a:Int)≥0 by omega),aq h0];simp only[ah];rw[aq (by omega),e1,e2,wrap64 (n:=((a/128:Nat):Int)) (by omega) (by omega),LG l _ _ w hL,ae,aq (by omega),wrap64 (n:=128-((a%128:Nat):Int)) (by omega) (by omega)];obtain⟨c,hc⟩:∃c,min (128-a%128) r=c:=⟨_,rfl⟩
  rw[hc,show(if 128-((a%128:Nat):Int)<(r:Int) then 128-((a%128:Nat):Int) else(r:Int))=(c:Int) by split<;>omega];generalize hP:rO l d ((a/128:Nat):Int) w=P at hin⊢;by_cases hP0:0≤P;have hin:=hin hP0;rw[af (show¬P<0 by omega),wrap64 (n:=P*128) (by omega) (by omega),wI m _ _ (by omega),Fj hm hP0];simp only[ai,ae];by_cases hP1:P<(m.length:Int);rw[ak hP1,au ⟨hP0,hP1⟩];simp only[aw,ai];rw[aS (by simp;omega),aS (by simp;omega),wrap64 (n:=P*128+((a%128:Nat):Int)) (by omega) (by omega),wrap64 (n:=(a:Int)+(c:Int)) (by omega) (by omega),wrap64 (n:=(r:Int)-(c:Int)) (by omega) (by omega)];have key:=u9 hl hL hm d w n (a+c) (r-c) f (acc++[(P*128+((a%128:Nat):Int),(c:Int))]) (by omega) (by omega) (by simp;omega) (by omega);rw[show((a+c:Nat):Int)=(a:Int)+(c:Int) by omega,show((r-c:Nat):Int)=(r:Int)-(c:Int) by omega,List.map_append,List.map_append]at key;refine Eq.trans key ?_;cases mc l m d w n (a+c) (r-c)with|none=>rfl|some q=>simp
  rw[af hP1,aq (by omega)];rfl;rw[aq (by omega),ak (by omega)];rfl
def ly (l:List aV)(m:List Bytes)(d a n:Int)(w:Bool):List (Int×Int)×Bool:=
 bif dH l&&(df m&&cQ n 0 4096) then
  (bif n==0 then([],true) else bif decide (a<0) then([],false) else match mc l m d w n.toNat a.toNat n.toNat with|some q=>(q,true)|none=>([],false))
 else([],false)
theorem JN (l:List aV)(m:List Bytes)(d a n:Int)(w:Bool)(hl:l.length≤1000000000)(hm:m.length≤1000000000)(ha:a≤9223372036854775807):nD l m d a n w=some ((ly l m d a n w).1.map (·.1),(ly l m d a n w).1.map (·.2),(ly l m d a n w).2):=by
 have hfu:=dY;unfold nD ly;simp only[Cy l hl,ub m hm,cu,ae];cases hB:dH l with|false=>rfl|true=>?_
 cases hM:df m with|false=>rfl|true=>?_
 cases hN:cQ n 0 4096 with|false=>rfl|true=>?_
 have hn:=br.1 hN;simp only[aw,ai,ae,fy,ah];obtain⟨n,rfl⟩:=bg hn.1;cases h0:((n:Int)==0)with
 |true=>
  have:n=0:=by simpa using h0
  subst this;obtain⟨f,hf⟩:∃f,fuel=f+1:=⟨fuel-1,by omega⟩
  rw[hf,aZ];rfl
 |false=>
  have hn0:n≠0:=by simpa using h0
  by_cases hA:a<0;obtain⟨f,hf⟩:∃f,fuel=f+1:=⟨fuel-1,by omega⟩
  rw[ak hA,hf,aZ];simp only[fB];rw[ak (by omega),af (by omega)];rfl;rw[af hA];simp only[ai];obtain⟨a,rfl⟩:=bg (show 0≤a by omega);refine Eq.trans (u9 hB hl hM d w n a n fuel [] (by omega) (by omega) (by simp;omega) (by omega)) ?_;simp only[aI];cases mc l m d w n a n<;>rfl
def yI (x:Bytes)(o:Nat)(t:Bytes):Bytes:=x.take o++(t++x.drop (o+t.length))
theorem Jp {x:Bytes}{o:Nat}{t:Bytes}(h:o+t.length≤x.length):(yI x o t).length=x.length:=by simp only[yI,aj,bp,bc];omega
theorem Lk {x:Bytes}{o:Nat}{t:Bytes}(h:o+t.length≤x.length):uU x (o:Int) t=yI x o t:=by unfold uU c8;rw[ak ⟨by omega,by omega⟩];simp only[ah,aI,yI,aB]
def sR:Nat→List Bytes→Nat→Bytes→List Bytes
 |0,m,_,_=>m
 |n+1,m,a,s=>if s.length=0 then m else
  sR n (m.set (a/128) (yI (m.getD (a/128) []) (a%128) (s.take (128-a%128)))) (a+min (128-a%128) s.length) (s.drop (128-a%128))
def tZ (m:List Bytes):Prop:=(∀x∈m,x.length=128)∧m.length≤64
theorem pa {m:List Bytes}:df m=true↔tZ m:=mem_iff
theorem AM {m:List Bytes}{p:Nat}{x:Bytes}(h:tZ m)(hx:x.length=128):tZ (m.set p x):=by refine⟨λy hy=>?_,by rw[aO];exact h.2⟩;rcases List.mem_or_eq_of_mem_set hy with g|g;exact h.1 y g;rw[g];exact hx
theorem zC {m:List Bytes}(h:tZ m){a:Nat}{s:Bytes}(hs:s.length≠0)(ha:a+s.length≤128*m.length): ∃(hp:a/128<m.length),(m[a/128]'hp).length=128∧(yI (m[a/128]'hp) (a%128) (s.take (128-a%128))).length=128:=by
 have hp:a/128<m.length:=by omega
 have hl:=h.1 _ (bP hp);refine⟨hp,hl,?_⟩;rw[Jp (by rw[bp,hl];omega),hl]
theorem rC:∀(n:Nat){m:List Bytes}{a:Nat}{s:Bytes},tZ m→a+s.length≤128*m.length→tZ (sR n m a s)∧(sR n m a s).length=m.length
 |0,m,a,s,h,_=>⟨h,rfl⟩
 |n+1,m,a,s,h,ha=>by rw[sR];split;exact⟨h,rfl⟩;rename_i hs;obtain⟨hp,hl,ho⟩:=zC h hs ha;rw[cd hp];have:=rC n (m:=m.set (a/128) (yI m[a/128] (a%128) (s.take (128-a%128)))) (a:=a+min (128-a%128) s.length) (s:=s.drop (128-a%128)) (AM h ho) (by rw[aO,bc];omega);rw[aO]at this;exact this
theorem tF {R:Type}(K:Int→Bytes→List Bytes→Option R)(K':List Bytes→Option R)(hK:∀a m,K a [] m=K' m):∀(n:Nat)(m:List Bytes)(a:Nat)(s:Bytes)(f:Nat),s.length≤n→n<f→tZ m→a+s.length≤128*m.length→
 aZ (gG K ([]:List Bytes)) f ((a:Int),s,m)=K' (sR n m a s)
 |n,m,a,s,0,_,hf,_,_=>by omega
 |n,m,a,s,f+1,hs,hf,hm,ha=>by
  rw[aZ];simp only[gG];by_cases h0:s.length=0;have:s=[]:=bk h0;subst this;rw[af (by simp),ai,hK];cases n<;>simp[sR];cases n with
  |zero=>omega
  |succ n=>
   obtain⟨hp,hl,ho⟩:=zC hm h0 ha;have h64:=hm.2;have e1:Int.tdiv (a:Int) 128=((a/128:Nat):Int):=OI a 128;have e2:Int.tmod (a:Int) 128=((a%128:Nat):Int):=OJ a 128;rw[ak (by omega),ah,aq (by omega),aq (by omega),aq (by omega),e1,e2,wrap64 (n:=((a/128:Nat):Int)) (by omega) (by omega),wrap64 (n:=128-((a%128:Nat):Int)) (by omega) (by omega),bD hp,ae];obtain⟨c,hc⟩:∃c,min (128-a%128) s.length=c:=⟨_,rfl⟩
   rw[show(if 128-((a%128:Nat):Int)<(s.length:Int) then 128-((a%128:Nat):Int) else(s.length:Int))=(c:Int) by split<;>omega];have ht:s.take c=s.take (128-a%128):=by by_cases h3:128-a%128≤s.length;rw[←hc,Nat.min_eq_left h3];rw[←hc,Nat.min_eq_right (by omega),bh (aK _),bh (by omega)]
   have hdr:s.drop c=s.drop (128-a%128):=by by_cases h3:128-a%128≤s.length;rw[←hc,Nat.min_eq_left h3];rw[←hc,Nat.min_eq_right (by omega),bV (aK _),bV (by omega)]
   have hs1:sub s 0 (c:Int)=some (s.take (128-a%128)):=by rw[←ht];unfold sub;rw[au (by omega)];simp
   have hs2:sub s (c:Int) (s.length:Int)=some (s.drop (128-a%128)):=by rw[←hdr];unfold sub;rw[au (by omega)];simp
   rw[hs1,ae,u7 _ _ _ (by omega),ae,ae,ae,hs2,ae,Lk (by rw[bp,hl];omega),wrap64 (n:=(a:Int)+(c:Int)) (by omega) (by omega),aI];rw[sR,aq h0,cd hp,hc,show(a:Int)+(c:Int)=((a+c:Nat):Int) by omega];exact tF K K' hK n _ _ _ f (by rw[bc];omega) (by omega) (AM hm ho) (by rw[aO,bc];omega)
def qk (m:List Bytes)(a:Int)(s:Bytes):List Bytes×Bool:=bif lf m a (s.length:Int) then(sR s.length m a.toNat s,true) else(m,false)
theorem G2 (m:List Bytes)(a:Int)(s:Bytes)(h:m.length≤1000000000)(hs:s.length≤1000000000):kf m a s=some (qk m a s):=by
 have hfu:=dY;unfold kf qk;rw[rf m (by omega),ae,wI m _ _ h,ae];cases hw:lf m a (s.length:Int)with|false=>rfl|true=>?_
 simp only[lf,ab,aF]at hw;obtain⟨a,rfl⟩:=bg hw.2.2.1;simp only[aw,ai,ah,aI];exact tF _ (λm=>some (m,true)) (λ_ _=>rfl) s.length m a s fuel (aK _) (by omega) (pa.1 hw.1) (by omega)
theorem wY (m:List Bytes)(a:Int)(s:Bytes):(qk m a s).1.length=m.length:=by
 unfold qk;cases hw:lf m a (s.length:Int)with|false=>rfl|true=>?_
 simp only[lf,ab,aF]at hw;exact(rC s.length (pa.1 hw.1) (by omega)).2
def EJ:List (Int×Int)→List Bytes→Bytes→List Bytes
 |[],m,_=>m
 |p::q,m,s=>EJ q (qk m p.1 (s.take p.2.toNat)).1 (s.drop p.2.toNat)
theorem EK:∀(q:List (Int×Int))(m:List Bytes)(s:Bytes),(EJ q m s).length=m.length
 |[],m,s=>rfl
 |p::q,m,s=>by rw[EJ,EK q,wY]
def zq (q:List (Int×Int)):Int:=(q.map (·.2)).sum
theorem H8:∀(q:List (Int×Int)),(∀p∈q,0≤p.2)→0≤zq q
 |[],_=>ed _
 |p::q,h=>by have:=H8 q (λx hx=>h x (by simp[hx]));have:=h p (by simp);simp only[zq,cl,List.sum_cons]at*;omega
theorem Ll {p:Int×Int}{q:List (Int×Int)}(hc:∀x∈p::q,0≤x.2){s:Bytes}(hs:(s.length:Int)=zq (p::q)):0≤p.2∧p.2≤(s.length:Int)∧((s.drop p.2.toNat).length:Int)=zq q:=by
 have h1:=hc p (by simp);have h2:=H8 q (λx hx=>hc x (by simp[hx]));have h3:zq (p::q)=p.2+zq q:=by simp[zq]
 rw[h3]at hs;refine⟨h1,by omega,?_⟩;rw[bc];omega
theorem JX {s:Bytes}{c:Int}(h0:0≤c)(h1:c≤(s.length:Int)):sub s 0 c=some (s.take c.toNat):=by unfold sub;rw[au (by omega)];simp
theorem LI {s:Bytes}{c:Int}(h0:0≤c)(h1:c≤(s.length:Int)):sub s c (s.length:Int)=some (s.drop c.toNat):=by unfold sub;rw[au (by omega)];simp
theorem wH (K:Bytes→Int→List Bytes→Option (List Bytes×Bool))(hK:∀s i m,K s i m=some (m,true)):∀(rest pre:List (Int×Int))(m:List Bytes)(s:Bytes)(f:Nat),rest.length<f→pre.length+rest.length≤1000000→(∀x∈rest,0≤x.2)→(s.length:Int)=zq rest→m.length≤1000000000→s.length≤1000000→
 aZ (gS K ((pre++rest).map (·.1)) ((pre++rest).map (·.2)) ([]:List Bytes)) f (s,(pre.length:Int),m)=some (EJ rest m s,true)
 |rest,pre,m,s,0,hf,_,_,_,_,_=>by omega
 |[],pre,m,s,f+1,_,_,_,_,_,_=>by rw[aZ];simp only[gS];rw[af (by simp),ai,hK];rfl
 |p::q,pre,m,s,f+1,hf,hn,hc,hs,hm,hl=>by
  obtain⟨h1,h2,h3⟩:=Ll hc hs;simp only[cM]at hf hn;have hi:pre.length<(pre++p::q).length:=by simp
  have hp:(pre++p::q)[pre.length]=p:=by simp
  have i1:idx ((pre++p::q).map (·.1)) (pre.length:Int)=some p.1:=by rw[bD (by simp),List.getElem_map,hp]
  have i2:idx ((pre++p::q).map (·.2)) (pre.length:Int)=some p.2:=by rw[bD (by simp),List.getElem_map,hp]
  rw[aZ];simp only[gS];rw[ak (by simp;omega),i1,i2,wrap64 (by omega) (by omega)];simp only[ah,ae,JX h1 h2,LI h1 h2,G2 m _ _ hm (show(s.take p.2.toNat).length≤1000000000 by rw[bp];omega)];have key:=wH K hK q (pre++[p]) (qk m p.1 (s.take p.2.toNat)).1 (s.drop p.2.toNat) f (by omega) (by simp;omega) (λx hx=>hc x (by simp[hx])) h3 (by rw[wY];exact hm) (by rw[bc];omega);have el:((pre++[p]).length:Int)=(pre.length:Int)+1:=by simp
  rw[aB,List.singleton_append,el]at key;rw[EJ];exact key
theorem yL (l:List aV)(m:List Bytes)(d:Int)(w:Bool):∀(n a r:Nat)(q:List (Int×Int)),r≤n→mc l m d w n a r=some q→zq q=(r:Int)∧(∀p∈q,0≤p.2)∧q.length≤n
 |0,a,r,q,hr,h=>by simp only[mc,aJ]at h;subst h;exact⟨by show(0:Int)=_;omega,by simp,by simp⟩
 |n+1,a,r,q,hr,h=>by simp only[mc]at h;split at h;simp only[aJ]at h;subst h;exact⟨by show(0:Int)=_;omega,by simp,by simp⟩;split at h;simp only[Option.map_eq_some_iff]at h;obtain⟨q',h1,rfl⟩:=h;obtain⟨i1,i2,i3⟩:=yL l m d w n _ _ q' (by omega) h1;refine⟨?_,?_,by simp only[cM];omega⟩;simp only[zq,cl,List.sum_cons]at i1⊢;rw[i1];omega;intro p hp;rcases bl.1 hp with rfl|hp;show(0:Int)≤((min (128-a%128) r:Nat):Int);omega;exact i2 p hp;cases h
theorem JC (l:List aV)(m:List Bytes)(d a n:Int)(w:Bool)(h:(ly l m d a n w).2=true):zq (ly l m d a n w).1=n∧(∀p∈(ly l m d a n w).1,0≤p.2)∧(ly l m d a n w).1.length≤4096∧n≤4096:=by
 unfold ly at h⊢;cases hB:dH l&&(df m&&cQ n 0 4096)with|false=>rw[hB]at h;simp at h|true=>?_
 rw[hB]at h;simp only[ab,br]at hB;simp only[ah]at h⊢;cases h0:n==0 with
 |true=>
  have:n=0:=by simpa using h0
  subst this;exact⟨rfl,by simp,by simp,by omega⟩
 |false=>rw[h0]at h;simp only[ai]at h⊢;cases ha:decide (a<0)with|true=>rw[ha]at h;simp at h|false=>rw[ha]at h;simp only[ai]at h⊢;cases hq:mc l m d w n.toNat a.toNat n.toNat with|none=>rw[hq]at h;cases h|some q=>obtain⟨i1,i2,i3⟩:=yL l m d w _ _ _ q (aK _) hq;exact⟨by simp only;rw[i1];omega,i2,by simp only;omega,by omega⟩
def qt (l:List aV)(m:List Bytes)(d a:Int)(s:Bytes)(w:Bool):List Bytes×Bool:=
 bif (ly l m d a (s.length:Int) w).2 then(EJ (ly l m d a (s.length:Int) w).1 m s,true) else(m,false)
theorem yQ (l:List aV)(m:List Bytes)(d a:Int)(s:Bytes)(w:Bool):(qt l m d a s w).1.length=m.length:=by unfold qt;cases (ly l m d a (s.length:Int) w).2 with|false=>rfl|true=>exact EK _ _ _
theorem u3 (l:List aV)(m:List Bytes)(d a:Int)(s:Bytes)(hl:l.length≤1000000000)(hm:m.length≤1000000000)(ha:a≤9223372036854775807):kK l m d a s=some (qt l m d a s true):=by
 have hfu:=dY;unfold kK qt;rw[JN l m d a _ true hl hm ha,ae,rf m (by omega),ae];have hS:=JC l m d a (s.length:Int) true;generalize ly l m d a (s.length:Int) true=r at hS⊢;cases hr:r.2 with|false=>rfl|true=>?_
 obtain⟨h1,h2,h3,h4⟩:=hS hr;simp only[aw,ai,ah];exact wH _ (λ_ _ _=>rfl) r.1 [] m s fuel (by omega) (by simp;omega) h2 h1.symm hm (by omega)
def Mu (x:aV):aV:=(x.1,x.2.1,x.2.2.1,true)
theorem getD_map {l:List aV}{i:Nat}(hi:i<l.length):(l.map Mu).getD i yy=Mu (l.getD i yy):=by rw[cd (by simpa using hi),cd hi,List.getElem_map]
theorem Cd (l:List aV):dH (l.map Mu)=dH l:=by
 unfold dH;rw[List.length_map];congr 1;rw[bT,az,az];have key:∀i,i<l.length→yw (l.map Mu) i=yw l i:=by
  intro i hi;unfold yw;rw[getD_map hi];congr 1;rw[bT,az,az];constructor;intro h j hj;have hjl:j<l.length:=by have:=bI.1 hj;omega
  have:=h j hj;rw[getD_map hjl]at this;exact this;intro h j hj;have hjl:j<l.length:=by have:=bI.1 hj;omega
  rw[getD_map hjl];exact h j hj
 constructor;intro h i hi;rw[←key i (bI.1 hi)];exact h i hi;intro h i hi;rw[key i (bI.1 hi)];exact h i hi
theorem Lh (l:List aV)(d p:Int):rO (l.map Mu) d p true=rO l d p false:=by
 unfold rO;rw[List.findIdx?_map];have e:(zO d p true∘Mu)=zO d p false:=by funext x;simp only[Function.comp,zO,l7,Mu,de,Bool.or_true,eT]
 rw[e];cases hf:l.findIdx? (zO d p false)with|none=>rfl|some i=>obtain⟨hi,_⟩:=List.findIdx?_eq_some_iff_getElem.1 hf;simp only[getD_map hi];rfl
theorem AO (l:List aV)(m:List Bytes)(d:Int):∀n a r,mc (l.map Mu) m d true n a r=mc l m d false n a r
 |0,a,r=>rfl
 |n+1,a,r=>by simp only[mc,Lh,AO l m d n]
theorem Nt (l:List aV)(m:List Bytes)(d a:Int)(s:Bytes):qt (l.map Mu) m d a s true=qt l m d a s false:=by
 have e:ly (l.map Mu) m d a (s.length:Int) true=ly l m d a (s.length:Int) false:=by simp only[ly,Cd,AO]
 simp only[qt,e]
theorem zY (l:List aV)(m:List Bytes)(d a:Int)(s:Bytes)(hl:l.length≤1000000000)(hm:m.length≤1000000000)(ha:a≤9223372036854775807):mj l m d a s=some (qt l m d a s false):=by unfold mj;refine fR (λi=>((l.take i).map Mu,(i:Int))) l.length (by omega) (λi nx hi=>?_) (λnx=>?_);simp only[jd];rw[ak (by omega),bD hi,wrap64 (by omega) (by omega)];simp only[ah,ae];rw[aS (by simp;omega),List.take_succ_eq_append_getElem hi,List.map_append];rfl;simp only[jd];rw[af (by omega),ai,List.take_length,u3 _ m d a s (by rw[List.length_map];exact hl) hm ha,Nt];rfl
def HA (d:Int×Int×Int×Int×Int×Int):Bool:=cQ d.1 0 3&&(cQ d.2.1 0 3&&(cQ d.2.2.1 0 65535&&(cQ d.2.2.2.2.1 0 65535&&(cQ d.2.2.2.2.2 0 65535&&cQ d.2.2.2.1 0 4294967295))))
theorem LA (d:Int×Int×Int×Int×Int×Int):qf d=some (HA d):=by simp only[qf,cu,ae,HA];cases cQ d.1 0 3<;>cases cQ d.2.1 0 3<;>cases cQ d.2.2.1 0 65535<;>cases cQ d.2.2.2.2.1 0 65535<;>cases cQ d.2.2.2.2.2 0 65535<;>rfl
def MQ (d:Int×Int×Int×Int×Int×Int):Bytes:=
 bif HA d then((((bytesOf [dK d.1,dK d.2.1]++cI d.2.2.1)++fj d.2.2.2.1)++cI d.2.2.2.2.1)++cI d.2.2.2.2.2)++fj 0 else []
theorem NC (d:Int×Int×Int×Int×Int×Int):k5 d=some (MQ d):=by
 have h1:=bn d.2.2.1;have h2:=cR d.2.2.2.1;have h3:=bn d.2.2.2.2.1;have h4:=bn d.2.2.2.2.2;have h5:=cR 0;have h0:(bytesOf [dK d.1,dK d.2.1]).length=2:=rfl;unfold k5 MQ;rw[LA,ae];cases HA d with|false=>rfl|true=>?_
 simp only[aw,ai,ah,gr,jw,ae];rw[aS (by omega),aS (by simp only[aj];omega),aS (by simp only[aj];omega),aS (by simp only[aj];omega),aS (by simp only[aj];omega)]
def mI (r:Int×Int×Int×Int):Int:=bif dZ r then ar (r.2.1-dV r) else 0
def rQ (r:Int×Int×Int×Int)(c:Int):Int:=bif !dZ r||decide (c<0) then-1 else r.1+Int.tmod c r.2.1*16
theorem rn {r:Int×Int×Int×Int}(h:dZ r=true):0≤r.1∧r.1≤130944∧(r.2.1=2∨r.2.1=4∨r.2.1=8∨r.2.1=16)∧0≤r.2.2.1∧r.2.2.1≤2*r.2.1-1∧0≤r.2.2.2∧r.2.2.2≤2*r.2.1-1:=by simp only[dZ,ab,br]at h;exact⟨h.1.1,h.1.2,eG.1 h.2.1,h.2.2.1.1,h.2.2.1.2,h.2.2.2.1.1,h.2.2.2.1.2⟩
theorem E1 (r:Int×Int×Int×Int)(c:Int): -1≤rQ r c∧rQ r c≤200000:=by
 unfold rQ;cases hc: !dZ r||decide (c<0)with
 |true=>exact⟨ed _,by simp⟩
 |false=>
  simp only[Bool.or_eq_false_iff,Bool.not_eq_false',cp]at hc;have h:=rn hc.1;have h2:0≤Int.tmod c r.2.1∧Int.tmod c r.2.1<r.2.1:=by rw[cL (by omega)];exact⟨dN _ (by omega),dF _ (by omega)⟩
  simp only[ai];omega
def dc (l:List aV)(m:List Bytes)(d:Int)(r:Int×Int×Int×Int)(s:Bytes):List Bytes×(Int×Int×Int×Int)×Bool:=
 bif (mI r==0)||((s.length:Int) !=16) then(m,r,false) else
 bif !(qt l m d (rQ r r.2.2.2) s true).2 then(m,r,false) else
 ((qt l m d (rQ r r.2.2.2) s true).1,(r.1,r.2.1,r.2.2.1,Int.tmod (r.2.2.2+1) (2*r.2.1)),true)
theorem Jw {l:List aV}{m:List Bytes}{d a:Int}{s:Bytes}{w:Bool}(h:(qt l m d a s w).2=false):(qt l m d a s w).1=m:=by unfold qt at h⊢;cases hr:(ly l m d a (s.length:Int) w).2 with|false=>rfl|true=>rw[hr]at h;cases h
theorem wb (r:Int×Int×Int×Int):kP r=some (mI r):=by
 unfold kP mI;rw[zi,ae];cases dZ r with|false=>rfl|true=>?_
 simp only[aw,ai,ah,Fa,ae]
theorem JP (r:Int×Int×Int×Int)(c:Int):jX r c=some (rQ r c):=by
 have hin:=E1 r c;unfold jX;rw[zi,ae];unfold rQ at hin⊢;cases hb:dZ r with|false=>rfl|true=>?_
 have h:=rn hb;by_cases hc:c<0;rw[ak hc];rfl;rw[hb,af hc]at hin;rw[af hc];have h2:0≤Int.tmod c r.2.1∧Int.tmod c r.2.1<r.2.1:=by rw[cL (by omega)];exact⟨dN _ (by omega),dF _ (by omega)⟩
 simp only[aw,ai,ae,bX]at hin⊢;rw[aq (by omega),wrap64 (n:=16*Int.tmod c r.2.1) (by omega) (by omega),wrap64 (by omega) (by omega)];congr 1;omega
theorem E7 (l:List aV)(m:List Bytes)(d:Int)(r:Int×Int×Int×Int)(s:Bytes)(hl:l.length≤1000000000)(hm:m.length≤1000000000):oL l m d r s=some (dc l m d r s):=by
 have hA:=E1 r r.2.2.2;unfold oL dc;simp only[wb,ae,JP,u3 l m d _ s hl hm (show rQ r r.2.2.2≤9223372036854775807 by omega),rf m (show m.length≤1073741824 by omega)];cases hf:mI r==0 with|true=>rfl|false=>?_
 cases (s.length:Int) !=16 with|true=>rfl|false=>?_
 have hb:dZ r=true:=by cases hb:dZ r with|true=>rfl|false=>unfold mI at hf;rw[hb]at hf;cases hf
 have h:=rn hb;simp only[ai,ae,bX];cases hp:(qt l m d (rQ r r.2.2.2) s true).2 with|false=>simp only[de,ah,Jw hp]|true=>simp only[aw,ai];rw[wrap64 (n:=2*r.2.1) (by omega) (by omega),aq (by omega),wrap64 (n:=r.2.2.2+1) (by omega) (by omega)]
theorem Ck {p:dk}(h:dn p=true):0≤p.1∧p.1≤130944∧1≤p.2.1∧p.2.1≤512∧0≤p.2.2.1∧p.2.2.1≤16:=by simp only[dn,ab,br]at h;exact⟨h.1.1,h.1.2,h.2.1.1,h.2.1.2,h.2.2.1.1,h.2.2.1.2⟩
def Ir (p:dk)(i:Int):Int:=bif !dn p|| !cQ i 0 (p.2.2.1-1) then-1 else p.1+i*p.2.1
theorem MG {p:dk}{i:Int}(hp:dn p=true)(hi:cQ i 0 (p.2.2.1-1)=true):ar (p.1+ar (i*p.2.1))=p.1+i*p.2.1:=by have h:=Ck hp;have h2:=br.1 hi;have h3:0≤i*p.2.1:=Int.mul_nonneg h2.1 (by omega);have h4:i*p.2.1≤16*512:=Int.mul_le_mul (by omega) (by omega) (by omega) (by omega);rw[wrap64 (n:=i*p.2.1) (by omega) (by omega),wrap64 (by omega) (by omega)]
theorem Lz (p:dk)(i:Int)(h:p.2.2.2.length≤1000000000):ia p i=some (Ir p i):=by
 unfold ia Ir;rw[u6 p h,ae];cases hp:dn p with|false=>rfl|true=>?_
 have hin:=Ck hp;rw[wrap64 (n:=p.2.2.1-1) (by omega) (by omega),cu];cases hi:cQ i 0 (p.2.2.1-1)with|false=>rfl|true=>?_
 simp only[aw,ai,ae,bX,MG hp hi]
def upto (n:Nat):List Int:=(List.range n).map Int.ofNat
theorem J0 (n:Nat):upto (n+1)=upto n++[(n:Int)]:=by simp[upto,List.range_succ]
theorem Ms {n i:Nat}(h:i<n):(upto n).getD i 0=(i:Int):=by rw[cd (by simpa[upto]using h)];simp[upto]
theorem GP (a b:Int)(n:Nat)(hn:n≤16):dn (a,b,(n:Int),upto n)=dn (a,b,(n:Int),[]):=by
 unfold dn;congr 3;have h1:(List.range (upto n).length).all (tz (n:Int) (upto n))=true:=by
  rw[az];intro i hi;have hi:i<n:=by simpa[upto]using hi
  simp only[tz,Ms hi,ab,br,aA];refine⟨by omega,?_⟩;rw[Bool.eq_false_iff,ne_eq,List.contains_iff_mem];intro hm;simp only[upto,←List.map_take,List.mem_map]at hm;obtain⟨j,hj,he⟩:=hm;rw[List.take_range]at hj;have:=bI.1 hj;have:(j:Int)=(i:Int):=he;omega
 rw[h1];rfl
def iq (a b n:Int):dk×Bool:=bif dn (a,b,n,[]) then((a,b,n,upto n.toNat),true) else((0,0,0,[]),false)
theorem wG (a b n:Int):mq a b n=some (iq a b n):=by
 have hfu:=dY;unfold mq iq;by_cases hn:0≤n∧n≤16;obtain⟨n,rfl⟩:=bg hn.1;have h16:n≤16:=by omega
 refine fR (λi=>((i:Int),a,b,(n:Int),upto i)) n (by omega) (λi nx hi=>?_) (λnx=>?_);simp only[iu];rw[ak (show(i:Int)<n by omega),ak (show(n:Int)≤16 by omega)];simp only[ah,ae];rw[aS (by simp[upto];omega),wrap64 (by omega) (by omega),J0];rfl;simp only[iu];rw[af (show¬(n:Int)<n by omega)];simp only[ai,ae,u6 (a,b,(n:Int),upto n) (show(upto n).length≤1000000000 by simp[upto];omega),GP a b n h16,aI];cases dn (a,b,(n:Int),[])<;>rfl;have hb:dn (a,b,n,[])=false:=by cases hp:dn (a,b,n,[])with|false=>rfl|true=>have:=Ck hp;exact absurd ⟨this.2.2.2.2.1,this.2.2.2.2.2⟩ hn
 obtain⟨f,hf⟩:∃f,fuel=f+1:=⟨fuel-1,by omega⟩
 rw[hf,aZ];simp only[iu];have hc:(cond (decide ((0:Int)<n)) (some (decide (n≤16))) (some false))=some false:=by by_cases h0:(0:Int)<n;rw[ak h0,af (by omega)];rfl;rw[af h0];rfl
 rw[hc];simp only[ae,ai,u6 (a,b,n,[]) (show([]:List Int).length≤1000000000 by simp),hb];rfl
def descOf (p:dk)(b:Int):Bytes:=MQ (3,0,p.2.1,Ir p b,0,b)
def lu (l:List aV)(d:Int)(p:dk):List Int→List Bytes→(Int×Int×Int×Int)→Nat×List Bytes×(Int×Int×Int×Int)
 |[],m,r=>(0,m,r)
 |b::q,m,r=>bif (dc l m d r (descOf p b)).2.2 then
   ((lu l d p q (dc l m d r (descOf p b)).1 (dc l m d r (descOf p b)).2.1).1+1,(lu l d p q (dc l m d r (descOf p b)).1 (dc l m d r (descOf p b)).2.1).2)
  else(0,m,r)
theorem uV (l:List aV)(m:List Bytes)(d:Int)(r:Int×Int×Int×Int)(s:Bytes):(dc l m d r s).1.length=m.length:=by
 unfold dc;cases (mI r==0)||((s.length:Int) !=16)with|true=>rfl|false=>?_
 cases (qt l m d (rQ r r.2.2.2) s true).2 with|false=>rfl|true=>exact yQ ..
theorem Aq (l:List aV)(d:Int)(p:dk):∀(q:List Int)(m:List Bytes)(r:Int×Int×Int×Int),(lu l d p q m r).2.1.length=m.length∧(lu l d p q m r).1≤q.length
 |[],m,r=>⟨rfl,aK _⟩
 |b::q,m,r=>by rw[lu];cases (dc l m d r (descOf p b)).2.2 with|false=>exact⟨rfl,bw _⟩|true=>have:=Aq l d p q (dc l m d r (descOf p b)).1 (dc l m d r (descOf p b)).2.1;simp only[ah,cM];exact⟨by rw[this.1,uV],by omega⟩
theorem Ky (r:Int×Int×Int×Int):0≤mI r:=by
 unfold mI;cases hb:dZ r with
 |false=>exact ed _
 |true=>
  have h:=rn hb;simp only[dZ,ab,aF]at hb;have hu:=hb.2.2.2.2;have h0:0≤dV r:=by unfold dV;split;exact dN _ (by omega);exact ed _
  simp only[ah];rw[wrap64 (by omega) (by omega)];omega
theorem Cl {l:List aV}{m:List Bytes}{d:Int}{r:Int×Int×Int×Int}{s:Bytes}(h:¬mI r>0):dc l m d r s=(m,r,false):=by
 have h0:=Ky r;have:mI r=0:=by omega
 unfold dc;rw[this];rfl
theorem u4 {R:Type}(K:Int→(Int×Int×Int×Int)→List Bytes→dk→Option R)(l:List aV)(d:Int)(p p2:dk)(hp:p.2.2.2.length≤1000000000)(hl:l.length≤1000000000)(A B C:Int):∀(rest:List Int)(c:Nat)(m:List Bytes)(r:Int×Int×Int×Int)(f:Nat),rest.length<f→c+rest.length≤1000000000→m.length≤1000000000→
 aZ (gT K l d p ([]:List Bytes) (0,0,0,0) p2) f ((c:Int),r,m,A,B,C,rest)=K ((c+(lu l d p rest m r).1:Nat):Int) (lu l d p rest m r).2.2 (lu l d p rest m r).2.1 (A,B,C,rest.drop (lu l d p rest m r).1)
 |rest,c,m,r,0,hf,_,_=>by omega
 |[],c,m,r,f+1,_,_,_=>by
  rw[aZ];simp only[gT,wb,ae];have hc:(cond (decide (mI r>0)) (some (decide ((([]:List Int).length:Int)>0))) (some false))=some false:=by cases decide (mI r>0)<;>rfl
  rw[hc];rfl
 |b::q,c,m,r,f+1,hf,hn,hm=>by
  simp only[cM]at hf hn;rw[aZ];simp only[gT,wb,ae];by_cases hr:mI r>0;rw[ak hr,ak (show(((b::q).length:Nat):Int)>0 by simp)];have hi:idx (b::q) 0=some b:=rfl;have hs:sub (b::q) 1 ((b::q).length:Int)=some q:=by unfold sub;rw[au (by simp;omega)];simp
  simp only[ah,ae,hi,Lz p b hp,NC,E7 l m d r _ hl hm];rw[show MQ (3,0,p.2.1,Ir p b,0,b)=descOf p b from rfl,lu];cases hq:(dc l m d r (descOf p b)).2.2 with|false=>rfl|true=>simp only[aw,ai,ah,hs,ae];rw[kH (by omega),wrap64 (n:=(c:Int)+1) (by omega) (by omega),bz];have key:=u4 K l d p p2 hp hl A B C q (c+1) (dc l m d r (descOf p b)).1 (dc l m d r (descOf p b)).2.1 f (by omega) (by omega) (by rw[uV];exact hm);rw[show((c+1:Nat):Int)=(c:Int)+1 by omega]at key;refine Eq.trans key ?_;rw[show c+1+(lu l d p q (dc l m d r (descOf p b)).1 (dc l m d r (descOf p b)).2.1).1=c+((lu l d p q (dc l m d r (descOf p b)).1 (dc l m d r (descOf p b)).2.1).1+1) by omega];rfl
  rw[af hr,lu,Cl hr];rfl
def pU (l:List aV)(m:List Bytes)(d:Int)(r:Int×Int×Int×Int)(p:dk):List Bytes×(Int×Int×Int×Int)×dk×Int:=
 bif !dZ r|| !dn p then(m,r,p,0) else
 ((lu l d p p.2.2.2 m r).2.1,(lu l d p p.2.2.2 m r).2.2,(p.1,p.2.1,p.2.2.1,p.2.2.2.drop (lu l d p p.2.2.2 m r).1),((lu l d p p.2.2.2 m r).1:Int))
theorem LB (l:List aV)(m:List Bytes)(d:Int)(r:Int×Int×Int×Int)(p:dk)(hl:l.length≤1000000000)(hm:m.length≤1000000000)(hp:p.2.2.2.length≤1000000000):ns l m d r p=some (pU l m d r p):=by
 have hfu:=dY;unfold ns pU;simp only[rf m (show m.length≤1073741824 by omega),Gr p hp,zi,u6 p hp,ae];cases dZ r with|false=>rfl|true=>?_
 cases dn p with|false=>rfl|true=>?_
 simp only[aw,ai,ae,bX];refine(u4 _ l d p _ hp hl p.1 p.2.1 p.2.2.1 p.2.2.2 0 m r fuel (by omega) (by omega) hm).trans ?_;rw[bG]
def Jx (m:List Bytes)(p:Int×Int):Bytes:=bif lf m p.1 p.2 then UU m p.1.toNat p.2.toNat else []
def FR (l:List aV)(m:List Bytes)(d a n:Int):Bytes×Bool:=
 bif (ly l m d a n false).2 then((ly l m d a n false).1.flatMap (Jx m),true) else([],false)
def BV (s:Bytes):(Int×Int×Int×Int×Int)×Int×Bool:=
 bif ((s.length:Int) !=16)||decide (fF s 12>1) then((0,0,0,0,0),0,false) else((cf s 0,cf s 2,cf s 4,cf s 6,fF s 8),fF s 12,true)
def QV (q:Int×Int×Int):Int:=bif decide (q.2.2<q.2.1) then 1 else 0
def HY (q:Int×Int×Int):Int:=q.1+Int.tmod q.2.2 q.2.1*16
def Uo (q:Int×Int×Int):Int×Int×Int:=(q.1,q.2.1,Int.tmod (q.2.2+1) (2*q.2.1))
def Ni (l:List aV)(m:List Bytes)(d:Int)(q:Int×Int×Int):Bool:=
 rl q&&((FR l m d (HY q) 16).2&&((BV (FR l m d (HY q) 16).1).2.2&&((BV (FR l m d (HY q) 16).1).2.1==QV q)))
def yG (l:List aV)(m:List Bytes)(d:Int)(q:Int×Int×Int):(Int×Int×Int×Int×Int)×(Int×Int×Int)×Bool:=
 bif Ni l m d q then((BV (FR l m d (HY q) 16).1).1,Uo q,true) else((0,0,0,0,0),q,false)
def WV (l:List aV)(m:List Bytes)(d a n:Int):Bool:=(FR l m d a n).2&&((uW (FR l m d a n).1).2==0)
def N5 (l:List aV)(m:List Bytes)(d:Int)(s:List Stream×dX×dk):List Stream×dX×dk:=
 ((bif WV l m d (Ir s.2.2 (yG l m d s.2.1.2.2.1).1.1) (yG l m d s.2.1.2.2.1).1.2.1 then ef s.1 (uW (FR l m d (Ir s.2.2 (yG l m d s.2.1.2.2.1).1.1) (yG l m d s.2.1.2.2.1).1.2.1).1).1 else s.1),
   (s.2.1.1,s.2.1.2.1,(yG l m d s.2.1.2.2.1).2.1,s.2.1.2.2.2),(IC s.2.2 [(yG l m d s.2.1.2.2.1).1.1]).1)
def sF (l:List aV)(m:List Bytes)(d:Int):Nat→List Stream×dX×dk→Nat×(List Stream×dX×dk)
 |0,s=>(0,s)
 |k+1,s=>bif !(yG l m d s.2.1.2.2.1).2.2 then(0,s) else((sF l m d k (N5 l m d s)).1+1,(sF l m d k (N5 l m d s)).2)
def EE (l:List aV)(m:List Bytes)(d:Int)(rx:dX)(pl:dk)(st:List Stream)(n:Int):List Bytes×dX×dk×List Stream×Int:=
 bif !Mz rx||(!dn pl|| !cQ n 0 1000) then(m,rx,pl,st,0) else
 ((pU l m d (sF l m d n.toNat (st,rx,pl)).2.2.1.1 (sF l m d n.toNat (st,rx,pl)).2.2.2).1,
   ((pU l m d (sF l m d n.toNat (st,rx,pl)).2.2.1.1 (sF l m d n.toNat (st,rx,pl)).2.2.2).2.1,(sF l m d n.toNat (st,rx,pl)).2.2.1.2),
   (pU l m d (sF l m d n.toNat (st,rx,pl)).2.2.1.1 (sF l m d n.toNat (st,rx,pl)).2.2.2).2.2.1,(sF l m d n.toNat (st,rx,pl)).2.1,((sF l m d n.toNat (st,rx,pl)).1:Int))
def ks (i:Nat):Int:=1280+(i:Int)*1792
theorem MD {i:Nat}(h:i≤8):ar (1280+ar ((i:Int)*1792))=ks i:=by rw[wrap64 (n:=(i:Int)*1792) (by omega) (by omega),wrap64 (by omega) (by omega)];rfl
theorem rh (a b n:Int)(h:n≤1000):(iq a b n).1.2.2.2.length≤1000:=by unfold iq;cases dn (a,b,n,[])with|false=>simp|true=>simp[upto];omega
def Ba:lG:=((0,16,0,0),(iq 256 128 8).1,([]:List rT),0)
theorem JR:nE=some Ba:=by rw[nE,wG];rfl
def qN (l:List aV)(m:List Bytes)(i:Nat):List Bytes×(Int×Int×Int×Int)×dk×Int:=
 pU l (qt l m 0 (ks i) (sT 128) false).1 0 (ks i,4,0,0) (iq (ks i+128) 384 4).1
def K9 (h:Host)(i:Nat):Host:=
 ((qN h.2.1 h.1 i).1,h.2.1,h.2.2.1,h.2.2.2.1.set i ((qN h.2.1 h.1 i).2.1,(ks i+64,4,0),(ks i+64,4,0),((0,0,0,0,0,0,0,0,0,0,0,0,0,0,0,([]:Bytes)),0,0),false,(match h.2.2.2.1[i]? with|some x=>x.2.2.2.2.2|none=>0)),h.2.2.2.2.1.set i (qN h.2.1 h.1 i).2.2.1,h.2.2.2.2.2)
theorem LF (h:Host)(i:Nat)(hi:i≤8)(h1:i<h.2.2.2.1.length)(h2:i<h.2.2.2.2.1.length)(hl:h.2.1.length≤1000000000)(hm:h.1.length≤1000000000):mF h (i:Int)=some ((),K9 h i):=by have hb:ks i=1280+(i:Int)*1792:=rfl;have hz:eh 128 0=some (sT 128):=zg 128 (by omega);have hf:=LB h.2.1 (qt h.2.1 h.1 0 (ks i) (sT 128) false).1 0 (ks i,4,0,0) (iq (ks i+128) 384 4).1 hl (by rw[yQ];exact hm) (bO (rh (ks i+128) 384 4 (by omega)) (by omega));unfold mF;simp only[MD hi];rw[wrap64 (n:=ks i+128) (by omega) (by omega),wrap64 (n:=ks i+64) (by omega) (by omega),wG,hz];simp only[bD h1,bD h2,ae,zY h.2.1 h.1 0 (ks i) (sT 128) hl hm (by omega),hf,aI,K9,qN,List.getElem?_eq_getElem h1]
def QX (h:Host)(i:Nat)(n:Int):Int×Host:=
 match h.2.2.2.1[i]?,h.2.2.2.2.1[i]? with
 |some rx,some pl=>
  ((EE h.2.1 h.1 0 rx pl h.2.2.2.2.2.2.2.2.2.1 n).2.2.2.2,(EE h.2.1 h.1 0 rx pl h.2.2.2.2.2.2.2.2.2.1 n).1,h.2.1,h.2.2.1,h.2.2.2.1.set i (EE h.2.1 h.1 0 rx pl h.2.2.2.2.2.2.2.2.2.1 n).2.1,h.2.2.2.2.1.set i (EE h.2.1 h.1 0 rx pl h.2.2.2.2.2.2.2.2.2.1 n).2.2.1,h.2.2.2.2.2.1,h.2.2.2.2.2.2.1,h.2.2.2.2.2.2.2.1,h.2.2.2.2.2.2.2.2.1,(EE h.2.1 h.1 0 rx pl h.2.2.2.2.2.2.2.2.2.1 n).2.2.2.1,h.2.2.2.2.2.2.2.2.2.2)
 |_,_=>(0,h)
theorem MT (l:List aV)(m:List Bytes)(d:Int)(r:Int×Int×Int×Int)(p:dk):(pU l m d r p).1.length=m.length:=by unfold pU;cases !dZ r|| !dn p with|true=>rfl|false=>exact(Aq ..).1
theorem FY (l:List aV)(m:List Bytes)(d:Int)(r:Int×Int×Int×Int)(p:dk):(pU l m d r p).2.2.1.2.2.2.length≤p.2.2.2.length:=by unfold pU;cases !dZ r|| !dn p with|true=>exact aK _|false=>show(p.2.2.2.drop _).length≤_;rw[bc];omega
end
end Go.Pu
