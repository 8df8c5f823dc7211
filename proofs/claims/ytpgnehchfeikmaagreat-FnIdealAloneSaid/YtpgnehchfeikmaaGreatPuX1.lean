import Derived.Test.YtpgnehchfeikmaaGreatDnData
import Derived.Test.YtpgnehchfeikmaaGreatPure
namespace Go.Pu
open Go.Dn
set_option linter.unusedSimpArgs false
set_option linter.unusedVariables false
noncomputable section
/- Plain laws of the partial operations and of loops. -/
theorem wrap64 {n:Int}(h1: -9223372036854775808≤n)(h2:n≤9223372036854775807):aw n=n:=by simp only[aw,ev,IntKind.wrap,IntKind.bits,IntKind.signed];simp;omega
@[simp] theorem ae {α R:Type}(a:α)(k:α→Option R):aa (some a) k=k a:=rfl
@[simp] theorem Vu {α R:Type}(k:α→Option R):aa none k=none:=rfl
@[simp] theorem uU {α R:Type}(c:Bool)(x y:α)(k:α→Option R):aa (cond c (some x) (some y)) k=k (cond c x y):=by cases c<;>rfl
theorem bh {α:Type}(c:Bool)(x y:α):cond c (some x) (some y)=some (cond c x y):=by cases c<;>rfl
theorem aK {R:Type}{n:Nat}{k:Option R}(h:n≤1073741824):room n k=k:=by simp[room,h]
theorem xW {α:Type}(xs:List α)(i:Nat):idx xs (i:Int)=xs[i]?:=rfl
theorem bm {α:Type}{xs:List α}{i:Nat}(h:i<xs.length):idx xs (i:Int)=some xs[i]:=by rw[xW];exact List.getElem?_eq_getElem h
def Ve {σ R:Type}(step:Nat→σ→(σ→Option R)→Option R)(fin:σ→Option R)(N:Nat):Nat→Nat→σ→Option R
 |0,_,s=>fin s
 |n+1,i,s=>step i s (λs'=>Ve step fin N n (i+1) s')
theorem yh {X σ R:Type}{T:(X→Option R)→X→Option R}(N:Nat)(e:σ→Nat→X)(step:Nat→σ→(σ→Option R)→Option R)(fin:σ→Option R)(hs:∀i s nx,i<N→T nx (e s i)=step i s (λs'=>nx (e s' (i+1))))(hf:∀s nx,T nx (e s N)=fin s): ∀n i s,i≤N→N-i<n→aZ T n (e s i)=Ve step fin N (N-i) i s:=by
 intro n;induction n with
 |zero=>intro i s _ h;omega
 |succ n ih=>
  intro i s hi hn;rw[aZ];rcases bB i N with hlt|hge;rw[hs i s _ hlt,show N-i=(N-(i+1))+1 by omega,Ve];congr 1;funext s';exact ih (i+1) s' (by omega) (by omega);have:i=N:=by omega
  subst this;rw[hf,fP,Ve]
def rN {α σ R:Type}(step:α→σ→(σ→Option R)→Option R)(fin:σ→Option R):List α→σ→Option R
 |[],s=>fin s
 |x::xs,s=>step x s (rN step fin xs)
theorem tK {α X σ R:Type}{T:(X→Option R)→X→Option R}(xs:List α)(e:σ→Nat→X)(step:α→σ→(σ→Option R)→Option R)(fin:σ→Option R)(hs:∀i (h:i<xs.length) s nx,T nx (e s i)=step xs[i] s (λs'=>nx (e s' (i+1))))(hf:∀s nx,T nx (e s xs.length)=fin s): ∀n i s,i≤xs.length→xs.length-i<n→aZ T n (e s i)=rN step fin (xs.drop i) s:=by
 intro n;induction n with
 |zero=>intro i s _ h;omega
 |succ n ih=>
  intro i s hi hn;rw[aZ];rcases bB i xs.length with hlt|hge;rw[hs i hlt s _,bA hlt,rN];congr 1;funext s';exact ih (i+1) s' (by omega) (by omega);have:i=xs.length:=by omega
  subst this;rw[hf,List.drop_length,rN]
def Ec:(t:CT)→t.D→Nat
 | .int _,_=>0
 | .bool,_=>0
 | .str,s=>s.length
 | .sl e,xs=>xs.length+(xs.map (Ec e)).sum
 | .pair a b,x=>Ec a x.1+Ec b x.2
def fB (n:Nat):(t:CT)→t.D→Prop
 | .int _,_=>True
 | .bool,_=>True
 | .str,s=>s.length≤n
 | .sl e,xs=>xs.length≤n∧∀x∈xs,fB n e x
 | .pair a b,x=>fB n a x.1∧fB n b x.2
theorem xm {α:Type}(f:α→Nat):∀(xs:List α)(x:α),x∈xs→f x≤(xs.map f).sum
 |y::ys,x,h=>by rcases bl.1 h with rfl|h;simp;have:=xm f ys x h;simp;omega
theorem yL {n:Nat}:∀{t:CT}{x:t.D},Ec t x≤n→fB n t x
 | .int _,_,_=>trivial
 | .bool,_,_=>trivial
 | .str,_,h=>h
 | .sl e,xs,h=>by simp only[Ec]at h;exact⟨by omega,λx hx=>yL (by have:=xm (Ec e) xs x hx;omega)⟩
 | .pair a b,x,h=>by simp only[Ec]at h;exact⟨yL (by omega),yL (by omega)⟩
theorem fB.mono {n m:Nat}(h:n≤m):∀{t:CT}{x:t.D},fB n t x→fB m t x
 | .int _,_,_=>trivial
 | .bool,_,_=>trivial
 | .str,_,k=>bS k h
 | .sl _,_,k=>⟨bS k.1 h,λx hx=>fB.mono h (k.2 x hx)⟩
 | .pair _ _,_,k=>⟨fB.mono h k.1,fB.mono h k.2⟩
def PF:(t:CT)→t.D→Prop
 | .int k,n=>k.min≤n∧n≤k.max
 | .bool,_=>True
 | .str,s=>s.length≤9223372036854775807
 | .sl e,xs=>xs.length≤9223372036854775807∧∀x∈xs,PF e x
 | .pair a b,x=>PF a x.1∧PF b x.2
def jo (l n:Int):Int:=if n≤l then l-n else-1
def Bp {α R:Type}(f:α→Int→Option Int)(k0:Int→Int→Option R)(k1:Int→Int→Int→Option R)(v0:List α)(nx:Int×Int→Option R)(x:Int×Int):Option R:=
 cond (decide (x.2<((List.length v0:Int)))) (
  aa (idx v0 x.2) λx1=>
  aa (f x1 x.1) λr2=>
  cond (decide (r2<0)) (
   k1 r2 (-1) x.2) (
   nx (r2,aw (x.2+1)))) (
  k0 x.1 x.2)
noncomputable def G0 {α:Type}(f:α→Int→Option Int)(a0:List α)(a1:Int):Option Int:=
 cond (decide ((aw (a1-((List.length a0:Int))))<0)) (
  some (-1)) (
  aZ (Bp f (λy3 _=>some y3) (λ_ y6 _=>some y6) a0) fuel (aw (a1-((List.length a0:Int))),0))
theorem L4 {α:Type}{f:α→Int→Option Int}{s:α→Nat}{a:List α}{l:Int}(h0:0≤l)(h1:l≤1048576)(hm:a.length≤9223372036854775807)(hf:∀x∈a,∀l:Int,0≤l→l≤1048576→∃r,f x l=some r∧((s x:Int)≤l→r=l-s x)∧(¬(s x:Int)≤l→r<0)):G0 f a l=some (jo l ((a.length+(a.map s).sum:Nat):Int)):=by
 unfold G0;have hfu:=eF;rw[wrap64 (by omega) (by omega)];rcases Int.lt_or_le (l-a.length) 0 with hneg|hpos;rw[aj hneg];simp only[ah,jo];rw[aq (by omega)];rw[af (by omega)];simp only[ai];have key:=tK (T:=Bp f (λy3 _=>some y3) (λ_ y6 _=>some y6) a) a (λ(q:Int) i=>(q,(i:Int))) (λx q k=>aa (f x q) λr=>cond (decide (r<0)) (some (-1)) (k r)) (λq=>some q) (λi hi q nx=>by simp only[Bp];rw[aj (by omega)];simp only[ah,bm hi,ae];rw[wrap64 (by omega) (by omega)];rfl) (λq nx=>by simp only[Bp];rw[af (by omega)];rfl) fuel 0 (l-a.length) (by omega) (by omega);have e:((0:Nat):Int)=0:=rfl;rw[e,da]at key;rw[key];have main:∀(b:List α)(q:Int),0≤q→q≤1048576→(∀x∈b,x∈a)→rN (λx q k=>aa (f x q) λr=>cond (decide (r<0)) (some (-1)) (k r)) (λq=>some q) b q=some (jo q ((b.map s).sum:Nat)):=by intro b;induction b with|nil=>intro q hq _ _;simp[rN,jo,hq]|cons x b ih=>intro q hq hq2 hb;obtain⟨r,hr,hr1,hr2⟩:=hf x (hb x (by simp)) q hq hq2;rw[rN,hr,ae];by_cases hle:(s x:Int)≤q;have:=hr1 hle;subst this;rw[af (by omega)];simp only[ai];rw[ih _ (by omega) (by omega) (λy hy=>hb y (by simp[hy]))];simp only[jo,cP,List.sum_cons];congr 1;split<;>split<;>omega;rw[aj (hr2 hle)];simp only[ah,jo,cP,List.sum_cons];rw[aq (by omega)]
 rw[main a _ (by omega) (by omega) (λx h=>h)];simp only[jo];congr 1;split<;>split<;>omega
def AP (f:Int→Option Int)(n:Nat):Prop:=∀l:Int,0≤l→l≤1048576→f l=some (jo l n)
theorem AP.nil:AP (λl=>some l) 0:=λl h0 _=>by simp[jo,h0]
theorem AP.len {n m:Nat}(hn:n≤9223372036854775807){k:Int→Option Int}(h:AP k m): AP (λl=>cond (decide (aw (l-(n:Int))<0)) (some (-1)) (k (aw (l-(n:Int))))) (n+m):=by intro l h0 h1;simp only;rw[wrap64 (by omega) (by omega)];by_cases hl:l-(n:Int)<0;rw[aj hl];simp only[ah,jo];rw[aq (by omega)];rw[af hl];simp only[ai];rw[h _ (by omega) (by omega)];simp only[jo];congr 1;split<;>split<;>omega
theorem AP.sub {f k:Int→Option Int}{n m:Nat}(hf:AP f n)(h:AP k m):AP (λl=>aa (f l) λr=>cond (decide (r<0)) (some (-1)) (k r)) (n+m):=by
 intro l h0 h1;simp only;rw[hf l h0 h1,ae];by_cases hl:(n:Int)≤l;have e:jo l n=l-n:=by simp[jo,hl]
 rw[e,af (by omega)];simp only[ai];rw[h _ (by omega) (by omega)];simp only[jo];congr 1;split<;>split<;>omega;have e:jo l n= -1:=by simp[jo,hl]
 rw[e];simp only[jo];rw[aq (by omega)];rfl
theorem AP.list {α:Type}{f:α→Int→Option Int}{s:α→Nat}{a:List α}(hm:a.length≤9223372036854775807)(hf:∀x∈a,AP (f x) (s x)):AP (G0 f a) (a.length+(a.map s).sum):=λ_ h0 h1=>L4 h0 h1 hm (λx hx l h0 h1=>⟨_,hf x hx l h0 h1,λh=>by simp[jo,h],λh=>by simp[jo,h]⟩)
theorem xB {α R:Type}{T:(Int→Option R)→Int→Option R}{fin hit:Option R}(p:α→Bool)(a:List α)(h:a.length≤1000000000000)(hs:∀i (hi:i<a.length) nx,T nx (i:Int)=cond (p a[i]) hit (nx ((i+1:Nat):Int)))(hf:∀nx,T nx (a.length:Int)=fin): aZ T fuel 0=cond (a.any p) hit fin:=by
 have hfu:=eF;have key:∀n i,i≤a.length→a.length-i<n→aZ T n (i:Int)=cond ((a.drop i).any p) hit fin:=by
  intro n;induction n with
  |zero=>intro i _ h;omega
  |succ n ih=>
   intro i hi hn;rw[aZ];rcases bB i a.length with hlt|hge;rw[hs i hlt,bA hlt,List.any_cons];cases hq:p a[i]with|true=>rfl|false=>exact ih (i+1) (by omega) (by omega)
   have:i=a.length:=by omega
   subst this;rw[hf,List.drop_length];rfl
 exact key fuel 0 (by omega) (by omega)
theorem eC {R:Type}{T:(Int→Option R)→Int→Option R}{fin hit:Option R}(p:Nat→Bool)(N:Nat)(h:N≤1000000000000)(hs:∀i nx,i<N→T nx (i:Int)=cond (!(p i)) hit (nx ((i+1:Nat):Int)))(hf:∀nx,T nx (N:Int)=fin): aZ T fuel 0=cond ((List.range N).all p) fin hit:=by
 have hfu:=eF;have key:∀n i,i≤N→N-i<n→aZ T n (i:Int)=cond ((List.range' i (N-i)).all p) fin hit:=by
  intro n;induction n with
  |zero=>intro i _ h;omega
  |succ n ih=>
   intro i hi hn;rw[aZ];rcases bB i N with hlt|hge;rw[hs i _ hlt,show N-i=(N-(i+1))+1 by omega,List.range'_succ,bp];cases hq:p i with|false=>rfl|true=>exact ih (i+1) (by omega) (by omega)
   have:i=N:=by omega
   subst this;rw[hf,fP];rfl
 have:=key fuel 0 (by omega) (by omega);rw[Nat.sub_zero,←List.range_eq_range']at this;exact this
theorem nu {α R:Type}{T:(Int→Option R)→Int→Option R}{fin hit:Option R}(p:α→Bool)(a:List α)(h:a.length≤1000000000000)(hs:∀i (hi:i<a.length) nx,T nx (i:Int)=cond (!(p a[i])) hit (nx ((i+1:Nat):Int)))(hf:∀nx,T nx (a.length:Int)=fin): aZ T fuel 0=cond (a.all p) fin hit:=by
 have:=xB (T:=T) (fin:=fin) (hit:=hit) (λx=> !(p x)) a h hs hf;rw[this];have e:a.any (λx=> !(p x))= !(a.all p):=by rw[bO];simp
 rw[e];cases a.all p<;>rfl
theorem yX {X R:Type}{T:(X→Option R)→X→Option R}{fin hit:Option R}(e:Nat→X)(p:Nat→Bool)(N:Nat)(h:N≤1000000000000)(hs:∀i nx,i<N→(∀j,j<i→p j=true)→T nx (e i)=cond (!(p i)) hit (nx (e (i+1))))(hf:(∀j,j<N→p j=true)→∀nx,T nx (e N)=fin): aZ T fuel (e 0)=cond ((List.range N).all p) fin hit:=by
 have hfu:=eF;have key:∀n i,i≤N→N-i<n→(∀j,j<i→p j=true)→aZ T n (e i)=cond ((List.range' i (N-i)).all p) fin hit:=by
  intro n;induction n with
  |zero=>intro i _ h;omega
  |succ n ih=>
   intro i hi hn hp;rw[aZ];rcases bB i N with hlt|hge;rw[hs i _ hlt hp,show N-i=(N-(i+1))+1 by omega,List.range'_succ,bp];cases hq:p i with|false=>rfl|true=>refine ih (i+1) (by omega) (by omega) λj hj=>?_;by_cases hji:j=i;rw[hji];exact hq;exact hp j (by omega)
   have:i=N:=by omega
   subst this;rw[hf hp,fP];rfl
 have:=key fuel 0 (by omega) (by omega) (λj hj=>absurd hj (by omega));rw[Nat.sub_zero,←List.range_eq_range']at this;exact this
theorem wi {α R:Type}{T:(Int→Option R)→Int→Option R}{fin:Option R}{hit:Int→Option R}(p:α→Bool)(a:List α)(h:a.length≤1000000000000)(hs:∀i (hi:i<a.length) nx,T nx (i:Int)=cond (p a[i]) (hit (i:Int)) (nx ((i+1:Nat):Int)))(hf:∀nx,T nx (a.length:Int)=fin): aZ T fuel 0=(match a.findIdx? p with|some i=>hit (i:Int)|none=>fin):=by
 have hfu:=eF;have key:∀n i,i≤a.length→a.length-i<n→aZ T n (i:Int)=(match (a.drop i).findIdx? p with|some j=>hit ((i+j:Nat):Int)|none=>fin):=by
  intro n;induction n with
  |zero=>intro i _ h;omega
  |succ n ih=>
   intro i hi hn;rw[aZ];rcases bB i a.length with hlt|hge;rw[hs i hlt,bA hlt,List.findIdx?_cons];cases hq:p a[i]with|true=>rfl|false=>have:=ih (i+1) (by omega) (by omega);simp only[ai];refine this.trans ?_;cases (a.drop (i+1)).findIdx? p with|none=>rfl|some j=>simp only[ch,aG,bC];congr 2;omega
   have:i=a.length:=by omega
   subst this;rw[hf,List.drop_length];rfl
 have:=key fuel 0 (by omega) (by omega);refine this.trans ?_;rw[da];cases a.findIdx? p with|none=>rfl|some j=>simp only[bM]
theorem cF (a b:Bool):(bif a then b else false)=(a&&b):=by cases a<;>rfl
theorem cT (a b:Bool):(bif a then true else b)=(a||b):=by cases a<;>rfl
theorem cN (a b:Bool):(bif a then false else b)=(!a&&b):=by cases a<;>rfl
def uG {α σ R:Type}(g:α→σ→Except (Option R) σ)(fin:σ→Option R):List α→σ→Option R
 |[],s=>fin s
 |x::xs,s=>match g x s with| .error r=>r| .ok s'=>uG g fin xs s'
theorem qs {α X σ R:Type}{T:(X→Option R)→X→Option R}(xs:List α)(e:σ→Nat→X)(Inv:Nat→σ→Prop)(g:α→σ→Except (Option R) σ)(fin:σ→Option R)(h:xs.length≤1000000000000)(hs:∀i (hi:i<xs.length) s nx,Inv i s→T nx (e s i)=match g xs[i] s with| .error r=>r| .ok s'=>nx (e s' (i+1)))(hn:∀i (hi:i<xs.length) s s',Inv i s→g xs[i] s=.ok s'→Inv (i+1) s')(hf:∀s nx,Inv xs.length s→T nx (e s xs.length)=fin s)(s:σ)(h0:Inv 0 s): aZ T fuel (e s 0)=uG g fin xs s:=by
 have key:∀n i s,i≤xs.length→xs.length-i<n→Inv i s→aZ T n (e s i)=uG g fin (xs.drop i) s:=by
  intro n;induction n with
  |zero=>intro i s _ h;omega
  |succ n ih=>
   intro i s hi hn' hI;rw[aZ];rcases bB i xs.length with hlt|hge;rw[hs i hlt s _ hI,bA hlt,uG];cases hg:g xs[i] s with|error r=>rfl|ok s'=>exact ih (i+1) s' (by omega) (by omega) (hn i hlt s s' hI hg)
   have:i=xs.length:=by omega
   subst this;rw[hf s _ hI,List.drop_length,uG]
 have hfu:=eF;have:=key fuel 0 s (by omega) (by omega) h0;rwa[da]at this
theorem yA {α σ R:Type}(f:σ→α→σ)(fin:σ→Option R):∀(xs:List α)(s:σ),uG (λx s=> .ok (f s x)) fin xs s=fin (xs.foldl f s)
 |[],_=>rfl
 |x::xs,s=>by rw[uG];exact yA f fin xs (f s x)
theorem dT {X R:Type}{T:(X→Option R)→X→Option R}{fin:Option R}(e:Nat→X)(N:Nat)(h:N≤1000000000000)(hs:∀i nx,i<N→T nx (e i)=nx (e (i+1)))(hf:∀nx,T nx (e N)=fin):aZ T fuel (e 0)=fin:=by rw[yX (hit:=fin) (fin:=fin) e (λ_=>true) N h (λi nx hi _=>by rw[hs i nx hi];rfl) (λ_ nx=>hf nx)];cases (List.range N).all (λ_=>true)<;>rfl
theorem gW {α R:Type}{l:List α}{k:Option R}(h:l.length≤1000000000):room (List.length ([]:List α)+l.length) k=k:=aK (by simp only[List.length_nil];omega)
def cM (a lo hi:Int):Bool:=decide (lo≤a)&&decide (a≤hi)
theorem br {a lo hi:Int}:cM a lo hi=true↔lo≤a∧a≤hi:=by simp[cM]
theorem bV (a b c:Int):aA a b c=some (cM a b c):=by simp only[aA,bh,ae,cM];cases h:decide (a≥b)<;>rfl
theorem eY (a b c:Int):aJ a b c=some (cM a b c):=bV a b c
theorem bT {α:Type}{l:List α}{i:Nat}(h:i<l.length)(d:α):l.getD i d=l[i]:=by rw[List.getD_eq_getElem?_getD,List.getElem?_eq_getElem h];rfl
def Dz (l:List Int)(i:Nat):Bool:=cM (l.getD i 0) 0 4095&& !(decide (0<i)&&decide (l.getD i 0≤l.getD (i-1) 0))
def eh (f:Filter):Bool:=(List.range f.2.2.length).all (Dz f.2.2)&&(cM f.1 0 281474976710654&&decide ((f.2.2.length:Int)≤8))
theorem sn (f:Filter)(h:f.2.2.length≤1000000000):ic f=some (eh f):=by
 unfold ic;rw[eC (hit:=some false) (fin:=some (cM f.1 0 281474976710654&&decide ((f.2.2.length:Int)≤8))) (Dz f.2.2) f.2.2.length (by omega) (λi nx hi=>?hs) (λnx=>?hf)]
 case hs=>
  simp only[lD]
  rw[aj (by omega),bm hi,wrap64 (n:=(i:Int)+1) (by omega) (by omega)]
  simp only[ah,ae,bV,Dz,bT hi]
  by_cases h0:0<i
  ·have e:aw ((i:Int)-1)=((i-1:Nat):Int):=by rw[wrap64 (by omega) (by omega)];omega
   have hp:i-1<f.2.2.length:=by omega
   rw[e,bm hp,aj (show(i:Int)>0 by omega),aj h0,bT hp]
   simp only[ah,ae,bg]
   cases cM f.2.2[i] 0 4095<;>cases decide (f.2.2[i]≤f.2.2[i-1])<;>rfl
  ·rw[af (show¬(i:Int)>0 by omega),af h0]
   simp only[ai,dQ]
   cases cM f.2.2[i] 0 4095<;>rfl
 case hf=>
  simp only[lD]
  rw[af (by omega)]
  simp only[ai,bV,ae,uU,bh]
  cases cM f.1 0 281474976710654<;>rfl
 unfold eh;cases (List.range f.2.2.length).all (Dz f.2.2)<;>rfl
theorem uo (f:Filter)(h:f.2.2.length≤1000000000):hY f=some (eh f):=by
 unfold hY;rw[eC (hit:=some false) (fin:=some (cM f.1 0 281474976710654&&decide ((f.2.2.length:Int)≤8))) (Dz f.2.2) f.2.2.length (by omega) (λi nx hi=>?hs) (λnx=>?hf)]
 case hs=>
  simp only[lb]
  rw[aj (by omega),bm hi,wrap64 (n:=(i:Int)+1) (by omega) (by omega)]
  simp only[ah,ae,eY,Dz,bT hi]
  by_cases h0:0<i
  ·have e:aw ((i:Int)-1)=((i-1:Nat):Int):=by rw[wrap64 (by omega) (by omega)];omega
   have hp:i-1<f.2.2.length:=by omega
   rw[e,bm hp,aj (show(i:Int)>0 by omega),aj h0,bT hp]
   simp only[ah,ae,bg,ge_iff_le]
   cases cM f.2.2[i] 0 4095<;>cases decide (f.2.2[i]≤f.2.2[i-1])<;>rfl
  ·rw[af (show¬(i:Int)>0 by omega),af h0]
   simp only[ai,dQ]
   cases cM f.2.2[i] 0 4095<;>rfl
 case hf=>
  simp only[lb]
  rw[af (by omega)]
  simp only[ai,eY,ae,uU,bh]
  cases cM f.1 0 281474976710654<;>rfl
 unfold eh;cases (List.range f.2.2.length).all (Dz f.2.2)<;>rfl
def u5 (r:fY):Bool:=(jh r).getD false
theorem JU (r:fY):jh r=some (u5 r):=by
 have:∃b,jh r=some b:=by simp only[jh,bV,ae,bh];exact⟨_,rfl⟩
 obtain⟨b,hb⟩:=this;simp[u5,hb]
theorem QA (r:fY):sR r=some (u5 r):=JU r
theorem JA {r:fY}(h:u5 r=true):r.2.2.2.2.2.2.2.1=0∨r.2.2.2.2.2.2.2.2=0:=by
 by_cases h0:r.2.2.2.2.2.2.2.1=0;exact .inl h0;by_cases h1:r.2.2.2.2.2.2.2.2=0;exact .inr h1;exfalso;have e0:(r.2.2.2.2.2.2.2.1==0)=false:=by simp[h0]
 have e1:(r.2.2.2.2.2.2.2.2==0)=false:=by simp[h1]
 revert h;unfold u5;simp only[jh,bV,ae,bh,e0,e1,ai,dM];have z:∀c:Bool,(bif c then false else false)=false:=by intro c;cases c<;>rfl
 simp only[z];intro h;cases h
def si (l:List fY):Bool:=l.all u5&&decide ((l.length:Int)≤12)
theorem E2 (l:List fY)(h:l.length≤1000000000):re l=some (si l):=by
 unfold re;rw[nu (hit:=some false) (fin:=some (decide ((l.length:Int)≤12))) u5 l (by omega) (λi hi nx=>?hs) (λnx=>?hf)]
 case hs=>
  simp only[mZ]
  rw[aj (by omega),bm hi,wrap64 (by omega) (by omega)]
  simp only[ah,ae,JU];rfl
 case hf=>
  simp only[mZ]
  rw[af (by omega)];rfl
 unfold si;cases l.all u5<;>rfl
theorem EB (l:List fY)(h:l.length≤1000000000):qS l=some (si l):=by rw[←E2 l h];rfl
theorem acx (x:Int):((BitVec.ofInt 64 x&&&BitVec.ofInt 64 7).toNat:Int)=x%8:=by
 have h7:(BitVec.ofInt 64 7).toNat=2^3-1:=by decide
 rw[BitVec.toNat_and,h7,Nat.and_two_pow_sub_one_eq_mod];simp only[BitVec.toNat_ofInt];omega
theorem YO (x:Int):((BitVec.ofInt (IntKind.bits .i64) x&&&BitVec.ofInt (IntKind.bits .i64) 7).toNat:Int)=x%8:=acx x
theorem TD (x:Int):je x 8=some (x%8):=by unfold je;rw[aq (by omega),Int.tmod_eq_emod];split;rw[af (by omega)];simp;rw[aj (by simp;omega),wrap64 (by simp;omega) (by simp;omega)];simp
def wR (f:gx):Int:=(f.1%8+f.2.1%8+f.2.2.1%8+f.2.2.2.1%8+f.2.2.2.2%8)%8
theorem H5 (f:gx):0≤wR f∧wR f<8:=by unfold wR;omega
theorem Sz {n:Int}(h:0≤n):Int.tmod n 8=n%8:=dD h
theorem Rz (f:gx):pS f=some (wR f):=by
 unfold pS;generalize hL:[f.1,f.2.1,f.2.2.1,f.2.2.2.1,f.2.2.2.2]=L;have hlen:L.length=5:=by rw[←hL];rfl
 have hfu:=eF;have key:=tK (R:=Int) (T:=iU (λ(y2:Int) (y3:Int)=>if 8=0 then none else(some (Int.tmod y2 8))) L) L (λ(s:Int) i=>(s,(i:Int))) (λx s k=>k (aw (s+aw (x%8)))) (λs=>some (Int.tmod s 8)) (λi hi s nx=>by simp only[iU];rw[aj (by omega),bm hi,wrap64 (n:=(i:Int)+1) (by omega) (by omega)];simp only[ah,ae];rw[YO L[i]];rfl) (λs nx=>by simp only[iU];rw[af (by omega)];rfl) fuel 0 0 (by omega) (by omega);refine key.trans ?_;rw[←hL];simp only[da,rN];rw[wrap64 (n:=f.1%8) (by omega) (by omega),wrap64 (n:=f.2.1%8) (by omega) (by omega),wrap64 (n:=f.2.2.1%8) (by omega) (by omega),wrap64 (n:=f.2.2.2.1%8) (by omega) (by omega),wrap64 (n:=f.2.2.2.2%8) (by omega) (by omega)];rw[wrap64 (n:=0+f.1%8) (by omega) (by omega),wrap64 (n:=0+f.1%8+_) (by omega) (by omega),wrap64 (n:=0+f.1%8+_+_) (by omega) (by omega),wrap64 (n:=0+f.1%8+_+_+_) (by omega) (by omega),wrap64 (n:=0+f.1%8+_+_+_+_) (by omega) (by omega)];rw[Sz (by omega),wR,Int.zero_add]
theorem Qv (f:gx):pH f=some (wR f):=by
 unfold pH;generalize hL:[f.1,f.2.1,f.2.2.1,f.2.2.2.1,f.2.2.2.2]=L;have hlen:L.length=5:=by rw[←hL];rfl
 have hfu:=eF;have key:=tK (R:=Int) (T:=iJ (λ(y2:Int) (y3:Int)=>if 8=0 then none else(some (Int.tmod y2 8))) L (L.length:Int)) L (λ(s:Int) i=>(s,(i:Int))) (λx s k=>k (aw (s+(x%8)))) (λs=>some (Int.tmod s 8)) (λi hi s nx=>by simp only[iJ];rw[aj (by omega),bm hi,wrap64 (n:=(i:Int)+1) (by omega) (by omega)];simp only[ah,ae,TD];rfl) (λs nx=>by simp only[iJ];rw[af (by omega)];rfl) fuel 0 0 (by omega) (by omega);refine key.trans ?_;rw[←hL];simp only[da,rN];rw[wrap64 (n:=0+f.1%8) (by omega) (by omega),wrap64 (n:=0+f.1%8+_) (by omega) (by omega),wrap64 (n:=0+f.1%8+_+_) (by omega) (by omega),wrap64 (n:=0+f.1%8+_+_+_) (by omega) (by omega),wrap64 (n:=0+f.1%8+_+_+_+_) (by omega) (by omega)];rw[Sz (by omega),wR,Int.zero_add]
def dP (t:List Slot)(i:Nat):Slot:=t.getD i (0,(0,0,0,0,0),0)
theorem rD {t:List Slot}{i:Nat}(h:i<t.length):dP t i=t[i]:=bT h _
def gF (f:gx)(k:Nat):Nat:=((wR f).toNat+k)%8
theorem yR (f:gx)(k:Nat):gF f k<8:=Nat.mod_lt _ (by omega)
theorem J5 (f:gx)(k:Nat)(h:k<8):Int.tmod (aw (wR f+(k:Int))) 8=(gF f k:Int):=by have:=H5 f;rw[wrap64 (by omega) (by omega),Sz (by omega),gF];omega
def jR (s:Slot)(f:gx):Bool:=(s.1==1)&&decide (s.2.1=f)
theorem xO (p q:gx):((p.1==q.1)&&((p.2.1==q.2.1)&&((p.2.2.1==q.2.2.1)&&((p.2.2.2.1==q.2.2.2.1)&&((p.2.2.2.2==q.2.2.2.2)&&true)))))=decide (p=q):=by obtain⟨a,b,c,d,e⟩:=p;obtain⟨a',b',c',d',e'⟩:=q;rw[bO];simp
def walk (t:List Slot)(f:gx):Nat→Nat→Int
 |0,_=> -1
 |n+1,k=>if(dP t (gF f k)).1=0 then-1 else if jR (dP t (gF f k)) f then(gF f k:Int) else walk t f n (k+1)
theorem Rv (t:List Slot)(f:gx)(ht:t.length=8):rm t f=some (walk t f 8 0):=by
 unfold rm;have hfu:=eF
 have key:=yh (R:=Int) (T:=jP (λ(y6:Int)=>some (-1)) (λ(y7:Int) (y8:Int)=>some y7) 0 t f) 8 (λ(_:Unit) i=>(i:Int))
  (λi s k=>if(dP t (gF f i)).1=0 then some (-1) else if jR (dP t (gF f i)) f then some (gF f i:Int) else k s) (λ_=>some (-1))
  (λi s nx hi=>by
   have hw:gF f i<t.length:=by have:=yR f i;omega
   simp only[jP,Rz];rw[aj (by omega),wrap64 (n:=(i:Int)+1) (by omega) (by omega)];simp only[ah,ae,J5 f i hi,bm hw,rD hw,xO,jR,bh,ae];rw[aq (by omega)];by_cases h0:t[gF f i].1=0;simp[h0];have e0:(t[gF f i].1==0)=false:=by simp[h0]
   rw[e0,aq h0];cases (t[gF f i].1==1)<;>cases decide (t[gF f i].2.1=f)<;>rfl)
  (λs nx=>by simp only[jP];rfl)
  fuel 0 () (by omega) (by omega)
 refine key.trans ?_;have main:∀n i,Ve (R:=Int) (λi (s:Unit) k=>if(dP t (gF f i)).1=0 then some (-1) else if jR (dP t (gF f i)) f then some (gF f i:Int) else k s) (λ_=>some (-1)) 8 n i ()=some (walk t f n i):=by intro n;induction n with|zero=>intro i;rfl|succ n ih=>intro i;rw[Ve,walk];split;rfl;split;rfl;exact ih (i+1)
 exact main 8 0
def qC (f:gx):List Slot→Int→Int
 |[],_=> -1
 |s::r,i=>if jR s f then i else qC f r (i+1)
theorem Ic (t:List Slot)(f:gx)(h:t.length≤1000000000):ql t f=some (qC f t 0):=by
 unfold ql;have hfu:=eF;have key:∀n i,i≤t.length→t.length-i<n→aZ (oe (λ(y3:Int)=>some (-1)) (λ(y4:Int) (y5:Int)=>some y4) 0 t ((List.length t:Int)) f) n (i:Int)=some (qC f (t.drop i) i):=by
  intro n;induction n with
  |zero=>intro i _ h;omega
  |succ n ih=>
   intro i hi hn;rw[aZ];simp only[oe];rcases bB i t.length with hlt|hge;rw[aj (by omega),bm hlt,bA hlt,qC,wrap64 (by omega) (by omega)];simp only[ah,ae,xO,bh];have e:(bif t[i].1==1 then decide (t[i].2.1=f) else false)=jR t[i] f:=by unfold jR;cases (t[i].1==1)<;>rfl
   rw[e];cases jR t[i] f with|true=>rfl|false=>exact ih (i+1) (by omega) (by omega)
   have:i=t.length:=by omega
   subst this;rw[af (by omega),List.drop_length];rfl
 exact key fuel 0 (by omega) (by omega)
theorem To (f:gx):uu f=some ((List.range 8).map λk=>(gF f k:Int)):=by unfold uu;have hfu:=eF;have key:=yh (R:=List Int) (T:=mq (λ(y2:List Int) (y3:Int)=>some y2) f) 8 (λ(_:Unit) i=>((List.range i).map (λk=>(gF f k:Int)),(i:Int))) (λ_ s k=>k s) (λ_=>some ((List.range 8).map λk=>(gF f k:Int))) (λi s nx hi=>by simp only[mq,Qv];rw[aj (by omega),wrap64 (n:=(i:Int)+1) (by omega) (by omega)];simp only[ah,ae,J5 f i hi];rw[aq (by omega),aK (by simp;omega),List.range_succ,List.map_append];rfl) (λs nx=>by simp only[mq];rfl) fuel 0 () (by omega) (by omega);exact key
def clear (t:List Slot)(f:gx)(i:Nat):Nat→Nat→Bool
 |0,_=>true
 |n+1,k=>if gF f k=i then true else if(dP t (gF f k)).1=0 then false else clear t f i n (k+1)
theorem N2 {R:Type}(k0:Int→Option R)(k1:Bool→Int→Option R)(hit fin:Option R)(h0:∀x,k0 x=fin)(h1:∀x,k1 false x=hit)(v2:Bool)(i:Nat)(v12:List Slot)(v13 v14:Int)(t:List Slot)(f:gx)(ht:t.length=8): aZ (gq k0 k1 v2 (i:Int) v12 v13 v14 ((List.range 8).map λk=>(gF f k:Int)) (((List.range 8).map λk=>(gF f k:Int)).length:Int) t) fuel 0=cond (clear t f i 8 0) fin hit:=by
 have hfu:=eF;have hl:((List.range 8).map λk=>(gF f k:Int)).length=8:=by simp
 have key:=yh (R:=R) (T:=gq k0 k1 v2 (i:Int) v12 v13 v14 ((List.range 8).map λk=>(gF f k:Int)) (((List.range 8).map λk=>(gF f k:Int)).length:Int) t) 8 (λ(_:Unit) i=>(i:Int))
  (λk s c=>if gF f k=i then fin else if(dP t (gF f k)).1=0 then hit else c s) (λ_=>fin)
  (λk s nx hk=>by
   have hw:gF f k<t.length:=by have:=yR f k;omega
   simp only[gq];rw[aj (by omega),bm (show k<((List.range 8).map λk=>(gF f k:Int)).length by omega),wrap64 (n:=(k:Int)+1) (by omega) (by omega)];simp only[ah,ae,List.getElem_map,List.getElem_range,bm hw,rD hw,h0,h1];by_cases e1:gF f k=i;subst e1;simp;have:((gF f k:Int)==(i:Int))=false:=by simp;omega
   rw[this,aq e1];by_cases e2:t[gF f k].1=0;simp[e2];have:(t[gF f k].1==0)=false:=by simp[e2]
   rw[this,aq e2];rfl)
  (λs nx=>by simp only[gq];rw[af (by omega)];exact h0 _)
  fuel 0 () (by omega) (by omega)
 refine key.trans ?_;have main:∀n k,Ve (R:=R) (λk (s:Unit) c=>if gF f k=i then fin else if(dP t (gF f k)).1=0 then hit else c s) (λ_=>fin) 8 n k ()=cond (clear t f i n k) fin hit:=by intro n;induction n with|zero=>intro k;rfl|succ n ih=>intro k;rw[Ve,clear];split;rfl;split;rfl;exact ih (k+1)
 exact main 8 0
def HU:gx:=(0,0,0,0,0)
theorem HV (p:gx):((p.1==0)&&((p.2.1==0)&&((p.2.2.1==0)&&((p.2.2.2.1==0)&&((p.2.2.2.2==0)&&true)))))=decide (p=HU):=xO p HU
def JL (s:Slot):Bool:=cM s.1 0 2&&cM s.2.2 0 3&&((s.1==1)||(s.2.2==0)&&decide (s.2.1=HU))
def jZ (t:List Slot)(i:Nat):Bool:=JL (dP t i)&&(!((dP t i).1==1)||(walk t (dP t i).2.1 8 0==(i:Int)))
def nw (t:List Slot)(i:Nat):Bool:=JL (dP t i)&&(!((dP t i).1==1)||(qC (dP t i).2.1 t 0==(i:Int))&&clear t (dP t i).2.1 i 8 0)
def nr (t:List Slot):Bool:=(t.length==8)&&(List.range 8).all (jZ t)
theorem Pk (t:List Slot):rf t=some (nr t):=by
 unfold rf nr;by_cases ht:t.length=8
 ·have e:((t.length:Int) !=8)=false:=by rw[ht];rfl
  have e2:(t.length==8)=true:=by rw[ht];rfl
  rw[e,e2];simp only[ai,bg];rw[eC (hit:=some false) (fin:=some true) (jZ t) 8 (by omega) (λi nx hi=>?hs) (λnx=>?hf)]
  case hs=>
   have hl:i<t.length:=by omega
   simp only[na]
   rw[aj (by omega),bm hl,wrap64 (by omega) (by omega)]
   simp only[ah,ae,bV,bh,HV,Rv t _ ht,jZ,rD hl,JL,bne]
   cases cM t[i].1 0 2<;>cases cM t[i].2.2 0 3<;>cases (t[i].1==1)<;>cases (t[i].2.2==0)<;>cases decide (t[i].2.1=HU)<;>first|rfl|(cases (walk t t[i].2.1 8 0==(i:Int))<;>rfl)
  case hf=>
   simp only[na]
   rw[af (by omega)];rfl
  cases (List.range 8).all (jZ t)<;>rfl
 have e:((t.length:Int) !=8)=true:=by simp;omega
 have e2:(t.length==8)=false:=by simp[ht]
 rw[e,e2];rfl
theorem KV (t:List Slot):lv t=some ((t.length==8)&&(List.range 8).all (nw t)):=by
 unfold lv;by_cases ht:t.length=8
 ·have e:((t.length:Int) !=8)=false:=by rw[ht];rfl
  have e2:(t.length==8)=true:=by rw[ht];rfl
  rw[e,e2];simp only[ai,bg];rw[eC (hit:=some false) (fin:=some true) (nw t) 8 (by omega) (λi nx hi=>?hs) (λnx=>?hf)]
  case hs=>
   have hl:i<t.length:=by omega
   simp only[mO]
   rw[aj (by omega),bm hl,wrap64 (by omega) (by omega)]
   simp only[ah,ae,eY,bh,HV,Ic t _ (show t.length≤1000000000 by omega),To,nw,rD hl,JL,bne]
   rw[N2 (λ_=>nx ((i:Int)+1)) (λ(y:Bool) (_:Int)=>some y) (some false) (nx ((i:Int)+1)) (λ_=>rfl) (λ_=>rfl) _ _ _ _ _ _ _ ht]
   cases cM t[i].1 0 2<;>cases cM t[i].2.2 0 3<;>cases (t[i].1==1)<;>cases (t[i].2.2==0)<;>cases decide (t[i].2.1=HU)<;>first|rfl|(cases (qC t[i].2.1 t 0==(i:Int))<;>first|rfl|(cases clear t t[i].2.1 i 8 0<;>rfl))
  case hf=>
   simp only[mO]
   rw[af (by omega)];rfl
  cases (List.range 8).all (nw t)<;>rfl
 have e:((t.length:Int) !=8)=true:=by simp;omega
 have e2:(t.length==8)=false:=by simp[ht]
 rw[e,e2];rfl
theorem Fb (t:List Slot)(f:gx)(i:Nat):∀n k,walk t f n k=(i:Int)→jR (dP t i) f=true∧clear t f i n k=true∧∃j,j<n∧gF f (k+j)=i
 |0,k,h=>by unfold walk at h;omega
 |n+1,k,h=>by
  unfold walk at h;unfold clear;by_cases h0:(dP t (gF f k)).1=0;rw[au h0]at h;omega;rw[aq h0]at h;by_cases h1:jR (dP t (gF f k)) f=true;rw[au h1]at h;have:gF f k=i:=by omega
  subst this;exact⟨h1,by simp,0,by omega,rfl⟩;rw[aq h1]at h;obtain⟨a,b,j,hj,e⟩:=Fb t f i n (k+1) h;refine⟨a,?_,j+1,by omega,by rw[←e];congr 1;omega⟩;rw[aq h0,b];split<;>rfl
theorem Ns (t:List Slot)(f:gx)(i:Nat)(hu:jR (dP t i) f=true)(huniq:∀j,j<8→jR (dP t j) f=true→j=i):∀n k,clear t f i n k=true→(∃j,j<n∧gF f (k+j)=i)→walk t f n k=(i:Int)
 |0,k,_,h=>by obtain⟨j,hj,_⟩:=h;omega
 |n+1,k,hc,⟨j,hj,e⟩=>by unfold walk;unfold clear at hc;by_cases h1:gF f k=i;rw[h1,aq,au hu];intro h0;unfold jR at hu;rw[h0]at hu;simp at hu;rw[aq h1]at hc;by_cases h0:(dP t (gF f k)).1=0;rw[au h0]at hc;cases hc;rw[aq h0]at hc;rw[aq h0,aq (λhu'=>h1 (huniq _ (yR f k) hu'))];refine Ns t f i hu huniq n (k+1) hc ?_;cases j with|zero=>exact absurd e h1|succ j=>exact⟨j,by omega,by rw[←e];congr 1;omega⟩
theorem Ub (f:gx)(i:Nat)(hi:i<8):∃j,j<8∧gF f (0+j)=i:=by have:=H5 f;refine⟨(i+8-(wR f).toNat)%8,by omega,?_⟩;unfold gF;omega
theorem vw (f:gx):∀(t:List Slot)(m:Nat),(∃j,j<t.length∧jR (dP t j) f=true)→∃j,j<t.length∧jR (dP t j) f=true∧qC f t m=((m+j:Nat):Int)
 |[],_,h=>by obtain⟨j,hj,_⟩:=h;simp at hj
 |s::r,m,⟨j,hj,e⟩=>by
  unfold qC;by_cases hs:jR s f=true;rw[au hs];exact⟨0,by simp,by simpa[dP]using hs,by simp⟩;rw[aq hs];cases j with
  |zero=>exact absurd (by simpa[dP]using e) hs
  |succ j=>
   obtain⟨j',h1,h2,h3⟩:=vw f r (m+1) ⟨j,by simpa using hj,by simpa[dP]using e⟩;refine⟨j'+1,by simpa using h1,by simpa[dP]using h2,?_⟩;have:((m:Int)+1)=((m+1:Nat):Int):=by omega
   rw[this,h3];congr 1;omega
theorem LM (t:List Slot)(ht:t.length=8):(List.range 8).all (nw t)=(List.range 8).all (jZ t):=by
 rw[bO,az,az];simp only[bf];constructor;intro h i hi;have hI:=h i hi;unfold nw at hI;unfold jZ;simp only[ab,bU,aB,aL]at hI⊢;refine⟨hI.1,?_⟩;rcases hI.2 with h1|⟨h1,h2⟩;exact .inl h1;by_cases hu:((dP t i).1==1)=true;right;have hu':jR (dP t i) (dP t i).2.1=true:=by unfold jR;rw[hu];simp
 refine Ns t _ i hu' (λj hj huj=>?_) 8 0 h2 (Ub _ i hi);have hJ:=h j hj;unfold nw at hJ;unfold jR at huj;simp only[ab,aD]at huj;simp only[ab,bU,aB,aL]at hJ;rcases hJ.2 with h3|⟨h3,_⟩;rw[huj.1]at h3;cases h3;rw[huj.2]at h3;omega;exact .inl (by simpa using hu);intro h i hi;have hI:=h i hi;unfold jZ at hI;unfold nw;simp only[ab,bU,aB,aL]at hI⊢;refine⟨hI.1,?_⟩;rcases hI.2 with h1|h1;exact .inl h1;right;obtain⟨hu,hc,_⟩:=Fb t _ i 8 0 h1;refine⟨?_,hc⟩;obtain⟨j,hj,huj,e⟩:=vw (dP t i).2.1 t 0 ⟨i,by omega,hu⟩;have hJ:=h j (by omega);unfold jZ at hJ;unfold jR at huj;simp only[ab,aD]at huj;simp only[ab,bU,aB,aL]at hJ;rcases hJ.2 with h3|h3;rw[huj.1]at h3;cases h3;rw[huj.2,h1]at h3;have e':qC (dP t i).2.1 t 0=((0+j:Nat):Int):=e;rw[e'];omega
theorem EC (t:List Slot):lv t=some (nr t):=by
 rw[KV,nr];by_cases ht:t.length=8;rw[LM t ht];have e2:(t.length==8)=false:=by simp[ht]
 rw[e2];rfl
def Na (n:Int):Bool:=(n==1)||(n==2)||(n==4)||(n==8)||(n==16)
theorem K9 (n:Int):rk n=some (Na n):=by simp only[rk,bh,ae,Na];cases (n==1)<;>cases (n==2)<;>cases (n==4)<;>cases (n==8)<;>rfl
def oU (s:l6)(q:Int):Bool:=cM q 1 4&&((s.1.length:Int)==16)&&Na s.2.length&&s.2.all λx=>cM x 0 (q-1)
theorem Dc (s:l6)(q:Int)(h:s.2.length≤1000000000):pV s q=some (oU s q):=by
 unfold pV oU;simp only[bV,K9,ae,bh,bne];by_cases hq:cM q 1 4=true
 ·rw[nu (hit:=some false) (fin:=some true) (λx=>cM x 0 (q-1)) s.2 (by omega) (λi hi nx=>?hs) (λnx=>?hf)]
  case hs=>
   rw[br]at hq
   simp only[lK]
   rw[aj (by omega),bm hi,wrap64 (n:=(i:Int)+1) (by omega) (by omega),wrap64 (n:=q-1) (by omega) (by omega)]
   simp only[ah,ae,bV];rfl
  case hf=>
   simp only[lK]
   rw[af (by omega)];rfl
  rw[hq];cases ((s.1.length:Int)==16)<;>cases Na s.2.length<;>cases s.2.all (λx=>cM x 0 (q-1))<;>rfl
 have hq':cM q 1 4=false:=by simpa using hq
 rw[hq'];rfl
theorem Ct (s:l6)(q:Int)(h:s.2.length≤1000000000):pL s q=some (oU s q):=by rw[←Dc s q h];rfl
def dF (s:cj)(q:Int):Bool:=si s.1&&nr s.2.1&&oU s.2.2 q&&s.1.all (λr=> !(decide (r.2.2.2.2.2.2.2.2≥q)))&&s.2.1.all (λx=> !(decide (x.2.2≥q)))
theorem uI (s:cj)(q:Int)(h1:s.1.length≤1000000000)(h2:s.2.1.length≤1000000000)(h3:s.2.2.2.length≤1000000000):jK s q=some (dF s q):=by
 unfold jK dF;simp only[E2 _ h1,Pk,Dc _ _ h3,ae,bh];rw[nu (hit:=some false) (fin:=cond (s.2.1.all (λx=> !(decide (x.2.2≥q)))) (some true) (some false)) (λr:fY=> !(decide (r.2.2.2.2.2.2.2.2≥q))) s.1 (by omega) (λi hi nx=>?hs) (λnx=>?hf)]
 case hs=>
  simp only[jy]
  rw[aj (by omega),bm hi,wrap64 (by omega) (by omega)]
  simp only[ah,ae,c8];rfl
 case hf=>
  simp only[jy]
  rw[af (by omega)]
  simp only[ai]
  rw[nu (hit:=some false) (fin:=some true) (λx:Slot=> !(decide (x.2.2≥q))) s.2.1 (by omega) (λi hi nx=>?hs) (λnx=>?hf)]
  case hs=>
   simp only[jz]
   rw[aj (by omega),bm hi,wrap64 (by omega) (by omega)]
   simp only[ah,ae,c8];rfl
  case hf=>
   simp only[jz]
   rw[af (by omega)];rfl
 cases si s.1<;>cases nr s.2.1<;>cases oU s.2.2 q<;>cases s.1.all (λr=> !(decide (r.2.2.2.2.2.2.2.2≥q)))<;>cases s.2.1.all (λx=> !(decide (x.2.2≥q)))<;>rfl
theorem ya (s:cj)(q:Int)(h1:s.1.length≤1000000000)(h2:s.2.1.length≤1000000000)(h3:s.2.2.2.length≤1000000000):jC s q=some (dF s q):=by
 unfold jC dF;simp only[EB _ h1,EC,Ct _ _ h3,ae,bh];rw[nu (hit:=some false) (fin:=cond (s.2.1.all (λx=> !((x.1==1)&&decide (x.2.2≥q)))) (some true) (some false)) (λr:fY=> !((r.2.2.2.2.2.2.2.1==0)&&decide (r.2.2.2.2.2.2.2.2≥q))) s.1 (by omega) (λi hi nx=>?hs) (λnx=>?hf)]
 case hs=>
  simp only[jm]
  rw[aj (by omega),bm hi,wrap64 (by omega) (by omega)]
  simp only[ah,ae,c8,bh]
  cases (s.1[i].2.2.2.2.2.2.2.1==0)<;>rfl
 case hf=>
  simp only[jm]
  rw[af (by omega)]
  simp only[ai]
  rw[nu (hit:=some false) (fin:=some true) (λx:Slot=> !((x.1==1)&&decide (x.2.2≥q))) s.2.1 (by omega) (λi hi nx=>?hs) (λnx=>?hf)]
  case hs=>
   simp only[iu]
   rw[aj (by omega),bm hi,wrap64 (by omega) (by omega)]
   simp only[ah,ae,c8,bh]
   cases (s.2.1[i].1==1)<;>rfl
  case hf=>
   simp only[iu]
   rw[af (by omega)];rfl
 cases hr:si s.1 with
 |false=>rfl
 |true=>
  cases ht:nr s.2.1 with
  |false=>rfl
  |true=>
   cases hs:oU s.2.2 q with
   |false=>rfl
   |true=>
    have hq:1≤q:=by unfold oU at hs;simp only[ab,br]at hs;exact hs.1.1.1.1
    have e1:s.1.all (λr=> !((r.2.2.2.2.2.2.2.1==0)&&decide (r.2.2.2.2.2.2.2.2≥q)))=s.1.all (λr=> !(decide (r.2.2.2.2.2.2.2.2≥q))):=by unfold si at hr;simp only[ab,az]at hr;rw[bO,az,az];refine forall_congr' λr=>forall_congr' λhm=>?_;rcases JA (hr.1 r hm)with h0|h0;rw[h0];simp;rw[h0];simp only[af (show¬(0:Int)≥q by omega),eG]
    have e2:s.2.1.all (λx=> !((x.1==1)&&decide (x.2.2≥q)))=s.2.1.all (λx=> !(decide (x.2.2≥q))):=by unfold nr at ht;simp only[ab,az,bf,aL]at ht;rw[bO,az,az];refine forall_congr' λx=>forall_congr' λhm=>?_;obtain⟨i,hi,rfl⟩:=List.mem_iff_getElem.1 hm;have hsl:=ht.2 i (by omega);unfold jZ JL at hsl;rw[rD hi]at hsl;simp only[ab,bU,aL]at hsl;rcases hsl.1.2 with h0|⟨h0,_⟩;rw[h0];simp;rw[h0];simp only[af (show¬(0:Int)≥q by omega),eG]
    rw[e1,e2];cases s.1.all (λr=> !(decide (r.2.2.2.2.2.2.2.2≥q)))<;>cases s.2.1.all (λx=> !(decide (x.2.2≥q)))<;>rfl
theorem fL {n:Nat}(h:n<9223372036854775808):aw (n:Int)=(n:Int):=wrap64 (by omega) (by omega)
theorem yS {n:Nat}(h:n<4294967296):IntKind.wrap .u32 (n:Int)=(n:Int):=by simp only[aw,ev,IntKind.wrap,IntKind.bits,IntKind.signed];simp;omega
theorem ko (b:UInt8):b.toNat<256:=b.toNat_lt
def de (v:Int):Bytes:=(cl v).getD []
theorem kY (v:Int):cl v=some (de v):=by
 unfold de;have:∃x,cl v=some x:=by simp only[cl,bV,ae];cases cM v 0 65535<;>exact⟨_,rfl⟩
 obtain⟨x,hx⟩:=this;rw[hx];rfl
theorem pc (v:Int):cv v=some (de v):=kY v
theorem L8 (v:Int):(de v).length=bif cM v 0 65535 then 2 else 0:=by have h:=kY v;simp only[cl,bV,ae]at h;cases hb:cM v 0 65535<;>rw[hb]at h<;>(rw[←bE h];rfl)
theorem bG (v:Int):(de v).length≤2:=by rw[L8];cases cM v 0 65535<;>simp
def dY (v:Int):Bytes:=(dm v).getD []
theorem jt (v:Int):dm v=some (dY v):=by
 unfold dY;have:∃x,dm v=some x:=by simp only[dm,bV,ae];cases cM v 0 4294967295<;>exact⟨_,rfl⟩
 obtain⟨x,hx⟩:=this;rw[hx];rfl
theorem xi (v:Int):fE v=some (dY v):=jt v
theorem Ma (v:Int):(dY v).length=bif cM v 0 4294967295 then 4 else 0:=by have h:=jt v;simp only[dm,bV,ae]at h;cases hb:cM v 0 4294967295<;>rw[hb]at h<;>(rw[←bE h];rfl)
theorem c7 (v:Int):(dY v).length≤4:=by rw[Ma];cases cM v 0 4294967295<;>simp
def bZ (s:Bytes)(i:Nat):Nat:=(s.getD i 0).toNat
theorem cV (s:Bytes)(i:Nat):bZ s i<256:=ko _
theorem jA {s:Bytes}{i:Nat}(h:i<s.length):∃x,idx s (i:Int)=some x∧x.toNat=bZ s i:=⟨s[i],bm h,by rw[bZ,bT h]⟩
def dn (s:Bytes)(a n:Int):Bool:=decide (0≤a∧a+n≤(s.length:Int))
theorem vP (s:Bytes)(a n:Int)(h:s.length≤1000000000)(hn:0≤n):iY s a n=some (dn s a n):=by unfold iY dn;by_cases h0:0≤a;by_cases h1:a≤(s.length:Int);rw[aj (show a≥0 from h0),aj h1,wrap64 (by omega) (by omega)];simp only[ah,ae];congr 1;rw[decide_eq_decide];omega;rw[aj (show a≥0 from h0),af h1,af (show¬(0≤a∧a+n≤(s.length:Int)) by omega)];rfl;rw[af (show¬a≥0 from h0),af (show¬(0≤a∧a+n≤(s.length:Int)) by omega)];rfl
def cy (s:Bytes)(a:Int):Int:=bif dn s a 2 then((bZ s a.toNat*256+bZ s (a.toNat+1):Nat):Int) else-1
def dK (s:Bytes)(a:Int):Int:=bif dn s a 4 then(((bZ s a.toNat*256+bZ s (a.toNat+1))*65536+(bZ s (a.toNat+2)*256+bZ s (a.toNat+3)):Nat):Int) else-1
theorem tS (s:Bytes)(a:Int)(h:s.length≤1000000000):eA s a=some (cy s a):=by unfold eA cy;rw[vP s a 2 h (by omega),ae];cases hw:dn s a 2 with|false=>rfl|true=>simp only[dn,aD]at hw;obtain⟨n,rfl⟩:=bd hw.1;obtain⟨x,hx,ex⟩:=jA (s:=s) (i:=n) (by omega);obtain⟨y,hy,ey⟩:=jA (s:=s) (i:=n+1) (by omega);have hxl:=cV s n;have hyl:=cV s (n+1);rw[wrap64 (n:=(n:Int)+1) (by omega) (by omega),hx,show(n:Int)+1=((n+1:Nat):Int) by omega,hy];simp only[ar,ai,ae,aH,ah];rw[aq (by omega),ex,ey,fL (by omega),fL (by omega)];have e8:min (Int.toNat 8) (IntKind.bits .i64)=8:=rfl;rw[e8,wrap64 (n:=((bZ s n:Nat):Int)*2^8) (by omega) (by omega),wrap64 (by omega) (by omega)];congr 1;all_goals omega
theorem wy (s:Bytes)(a:Int)(h:s.length≤1000000000):fS s a=some (dK s a):=by
 unfold fS dK;rw[vP s a 4 h (by omega),ae];cases hw:dn s a 4 with
 |false=>rfl
 |true=>
  simp only[dn,aD]at hw;obtain⟨n,rfl⟩:=bd hw.1;have w1:dn s (n:Int) 2=true:=by simp only[dn,aD];omega
  have w2:dn s ((n:Int)+2) 2=true:=by simp only[dn,aD];omega
  have b0:=cV s n;have b1:=cV s (n+1);have b2:=cV s (n+2);have b3:=cV s (n+3);rw[wrap64 (n:=(n:Int)+2) (by omega) (by omega),tS s _ h,tS s _ h];simp only[ar,ai,ae,ah,cy,w1,w2,aH];rw[aq (by omega),show((n:Int)+2).toNat=n+2 by omega,show n+2+1=n+3 by omega];have e8:min (Int.toNat 16) (IntKind.bits .i64)=16:=rfl;rw[e8,wrap64 (n:=((bZ s n*256+bZ s (n+1):Nat):Int)*2^16) (by omega) (by omega),wrap64 (by omega) (by omega)];congr 1;all_goals omega
theorem afX (a b:Nat)(ha:a<9223372036854775808)(hb:b<9223372036854775808):BitVec.toNat (BitVec.ofInt (IntKind.bits .i64) (a:Int)|||BitVec.ofInt (IntKind.bits .i64) (b:Int))=a|||b:=by show(BitVec.ofInt 64 (a:Int)|||BitVec.ofInt 64 (b:Int)).toNat=_;rw[cq,cq,BitVec.toNat_or,cC,cC,cH (by omega),cH (by omega)]
theorem Uk (a b:Nat)(ha:a<9223372036854775808)(hb:b<9223372036854775808):BitVec.toNat (BitVec.ofInt (IntKind.bits .i64) (a:Int)&&&BitVec.ofInt (IntKind.bits .i64) (b:Int))=a&&&b:=by show(BitVec.ofInt 64 (a:Int)&&&BitVec.ofInt 64 (b:Int)).toNat=_;rw[cq,cq,BitVec.toNat_and,cC,cC,cH (by omega),cH (by omega)]
theorem SK (a b:Nat)(ha:a<9223372036854775808)(hb:b<9223372036854775808):BitVec.toNat (BitVec.ofInt (IntKind.bits .i64) (a:Int)^^^BitVec.ofInt (IntKind.bits .i64) (b:Int))=a^^^b:=by show(BitVec.ofInt 64 (a:Int)^^^BitVec.ofInt 64 (b:Int)).toNat=_;rw[cq,cq,BitVec.toNat_xor,cC,cC,cH (by omega),cH (by omega)]
theorem YN (a b:Nat)(ha:a<4294967296)(hb:b<4294967296):BitVec.toNat (BitVec.ofInt (IntKind.bits .u32) (a:Int)&&&BitVec.ofInt (IntKind.bits .u32) (b:Int))=a&&&b:=by show(BitVec.ofInt 32 (a:Int)&&&BitVec.ofInt 32 (b:Int)).toNat=_;rw[cq,cq,BitVec.toNat_and,cC,cC,cH (by omega),cH (by omega)]
theorem Vg (a b:Nat)(ha:a<4294967296)(hb:b<4294967296):BitVec.toNat (BitVec.ofInt (IntKind.bits .u32) (a:Int)^^^BitVec.ofInt (IntKind.bits .u32) (b:Int))=a^^^b:=by show(BitVec.ofInt 32 (a:Int)^^^BitVec.ofInt 32 (b:Int)).toNat=_;rw[cq,cq,BitVec.toNat_xor,cC,cC,cH (by omega),cH (by omega)]
theorem xo (x k y:Nat)(hy:y<2^k)(h:2^k*x+y<9223372036854775808):aw (BitVec.toNat (BitVec.ofInt (IntKind.bits .i64) ((2^k*x:Nat):Int)|||BitVec.ofInt (IntKind.bits .i64) (y:Int)):Int)=((2^k*x+y:Nat):Int):=by rw[afX _ _ (by omega) (by omega),←Nat.two_pow_add_eq_or_of_lt hy];exact fL h
theorem AM (s:Bytes)(a n:Int):(cond (decide (a<0)) (some true) (some (decide (a>(s.length:Int)-n))))=some (!dn s a n):=by cases hw:dn s a n with|true=>simp only[dn,aD]at hw;rw[af (show¬a<0 by omega),af (show¬a>(s.length:Int)-n by omega)];rfl|false=>simp only[dn,dy]at hw;by_cases h0:a<0;rw[aj h0];rfl;rw[af h0,aj (show a>(s.length:Int)-n by omega)];rfl
theorem zj (s:Bytes)(a:Int)(h:s.length≤1000000000):fb s a=some (cy s a):=by unfold fb cy;rw[wrap64 (n:=(s.length:Int)-2) (by omega) (by omega)];rw[AM,ae];cases hw:dn s a 2 with|false=>rfl|true=>simp only[dn,aD]at hw;obtain⟨n,rfl⟩:=bd hw.1;obtain⟨x,hx,ex⟩:=jA (s:=s) (i:=n) (by omega);obtain⟨y,hy,ey⟩:=jA (s:=s) (i:=n+1) (by omega);have hxl:=cV s n;have hyl:=cV s (n+1);rw[wrap64 (n:=(n:Int)+1) (by omega) (by omega),hx,show(n:Int)+1=((n+1:Nat):Int) by omega,hy];simp only[ar,ai,ah,ae,aH];rw[aq (by omega),ex,ey,fL (n:=bZ s n) (by omega),fL (n:=bZ s (n+1)) (by omega)];have e8:min (Int.toNat 8) (IntKind.bits .i64)=8:=rfl;rw[e8,show((bZ s n:Nat):Int)*2^8=((2^8*bZ s n:Nat):Int) by omega,fL (n:=2^8*bZ s n) (by omega),xo (bZ s n) 8 (bZ s (n+1)) (by omega) (by omega)];congr 1;all_goals omega
theorem zk (s:Bytes)(a:Int)(h:s.length≤1000000000):jl s a=some (dK s a):=by
 unfold jl dK;rw[wrap64 (n:=(s.length:Int)-4) (by omega) (by omega)];rw[AM,ae];cases hw:dn s a 4 with
 |false=>rfl
 |true=>
  simp only[dn,aD]at hw;obtain⟨n,rfl⟩:=bd hw.1;obtain⟨x0,h0,e0⟩:=jA (s:=s) (i:=n) (by omega);obtain⟨x1,h1,e1⟩:=jA (s:=s) (i:=n+1) (by omega);obtain⟨x2,h2,e2⟩:=jA (s:=s) (i:=n+2) (by omega);obtain⟨x3,h3,e3⟩:=jA (s:=s) (i:=n+3) (by omega);have b0:=cV s n;have b1:=cV s (n+1);have b2:=cV s (n+2);have b3:=cV s (n+3)
  rw[wrap64 (n:=(n:Int)+1) (by omega) (by omega),wrap64 (n:=(n:Int)+2) (by omega) (by omega),wrap64 (n:=(n:Int)+3) (by omega) (by omega),h0,show(n:Int)+1=((n+1:Nat):Int) by omega,h1,
   show(n:Int)+2=((n+2:Nat):Int) by omega,h2,show(n:Int)+3=((n+3:Nat):Int) by omega,h3]
  simp only[ar,ai,ah,ae,aH];rw[aq (by omega),aq (by omega),aq (by omega),e0,e1,e2,e3];generalize bZ s n=p0 at*;generalize bZ s (n+1)=p1 at*;generalize bZ s (n+2)=p2 at*;generalize bZ s (n+3)=p3 at*;have f24:min (Int.toNat 24) (IntKind.bits .i64)=24:=rfl;have f16:min (Int.toNat 16) (IntKind.bits .i64)=16:=rfl;have f8:min (Int.toNat 8) (IntKind.bits .i64)=8:=rfl
  rw[fL (n:=p0) (by omega),fL (n:=p1) (by omega),fL (n:=p2) (by omega),fL (n:=p3) (by omega),f24,f16,f8,
   show((p0:Nat):Int)*2^24=((2^24*p0:Nat):Int) by omega,show((p1:Nat):Int)*2^16=((2^16*p1:Nat):Int) by omega,show((p2:Nat):Int)*2^8=((2^8*p2:Nat):Int) by omega,
   fL (n:=2^24*p0) (by omega),fL (n:=2^16*p1) (by omega),fL (n:=2^8*p2) (by omega),xo p0 24 (2^16*p1) (by omega) (by omega),
   show 2^24*p0+2^16*p1=2^16*(2^8*p0+p1) by omega,xo _ 16 (2^8*p2) (by omega) (by omega),
   show 2^16*(2^8*p0+p1)+2^8*p2=2^8*(2^8*(2^8*p0+p1)+p2) by omega,xo _ 8 p3 (by omega) (by omega)]
  congr 1;all_goals omega
def xb (c:Nat):Nat:=if c%2=1 then(c/2)^^^3988292384 else c/2
def nD:Nat→Nat→Nat
 |0,c=>c
 |n+1,c=>xb (nD n c)
def acz (c:Nat)(s:Bytes):Nat:=s.foldl (λc b=>nD 8 (c^^^b.toNat)) c
def BE (s:Bytes):Int:=4294967295-(acz 4294967295 s:Int)
theorem uP {a b:Nat}(ha:a<4294967296)(hb:b<4294967296):a^^^b<4294967296:=Nat.xor_lt_two_pow (n:=32) ha hb
theorem NM {c:Nat}(h:c<4294967296):xb c<4294967296:=by unfold xb;split;exact uP (by omega) (by omega);omega
theorem xH {c:Nat}(h:c<4294967296):∀n,nD n c<4294967296
 |0=>h
 |n+1=>NM (xH h n)
theorem Rq {R:Type}(k0:Int→Int→Option R)(k:Int→Option R)(hk:∀x y,k0 x y=k x)(v0:Bytes)(v4:Int)(c:Nat)(h:c<4294967296):aZ (kb k0 v0 v4) fuel ((c:Int),0)=k (nD 8 c:Int):=by
 have hfu:=eF
 have key:=yh (T:=kb k0 v0 v4) 8 (λ(_:Unit) i=>((nD i c:Int),(i:Int))) (λ_ s nx=>nx s) (λ_=>k (nD 8 c:Int))
  (λi s nx hi=>by
   have hc:=xH h i;simp only[kb];have a1:=Uk (nD i c) 1 (by omega) (by omega);have x1:=SK (nD i c/2) 3988292384 (by omega) (by omega);simp only[Int.natCast_one]at a1
   rw[aj (by omega),ah,a1,Nat.and_one_is_mod,
    show min (Int.toNat 1) (IntKind.bits .i64)=1 from rfl,show Int.fdiv ((nD i c:Nat):Int) (2^1)=((nD i c/2:Nat):Int) from by rw[Int.fdiv_eq_ediv_of_nonneg _ (by omega)];rfl,
    show(3988292384:Int)=((3988292384:Nat):Int) from rfl,x1,
    fL (n:=nD i c%2) (by omega),fL (n:=(nD i c/2)^^^3988292384) (by have:=uP (a:=nD i c/2) (b:=3988292384) (by omega) (by omega);omega),aq (by omega),aq (by omega),wrap64 (n:=(i:Int)+1) (by omega) (by omega)]
   show _=nx ((xb (nD i c):Int),((i+1:Nat):Int));unfold xb;by_cases hp:nD i c%2=1;rw[hp,au rfl];rfl;have h0:nD i c%2=0:=by omega
   rw[h0,aq (by omega)];rfl)
  (λs nx=>by simp only[kb];rw[af (by omega),ai,hk])
  fuel 0 () (by omega) (by omega)
 refine key.trans ?_;rfl
theorem Qt {R:Type}(k0:Int→Int→Option R)(k:Int→Option R)(hk:∀x y,k0 x y=k x)(v0:Bytes)(v4:Int)(c:Nat)(h:c<4294967296):aZ (jV k0 v0 v4) fuel ((c:Int),0)=k (nD 8 c:Int):=by
 have hfu:=eF
 have key:=yh (T:=jV k0 v0 v4) 8 (λ(_:Unit) i=>((nD i c:Int),(i:Int))) (λ_ s nx=>nx s) (λ_=>k (nD 8 c:Int))
  (λi s nx hi=>by
   have hc:=xH h i;simp only[jV];have a1:=YN (nD i c) 1 (by omega) (by omega);have x1:=Vg (nD i c/2) 3988292384 (by omega) (by omega);simp only[Int.natCast_one]at a1
   rw[aj (by omega),ah,a1,Nat.and_one_is_mod,
    show min (Int.toNat 1) (IntKind.bits .u32)=1 from rfl,show Int.fdiv ((nD i c:Nat):Int) (2^1)=((nD i c/2:Nat):Int) from by rw[Int.fdiv_eq_ediv_of_nonneg _ (by omega)];rfl,
    show(3988292384:Int)=((3988292384:Nat):Int) from rfl,x1,
    yS (n:=nD i c%2) (by omega),yS (n:=(nD i c/2)^^^3988292384) (uP (by omega) (by omega)),aq (by omega),wrap64 (n:=(i:Int)+1) (by omega) (by omega)]
   show _=nx ((xb (nD i c):Int),((i+1:Nat):Int));unfold xb;by_cases hp:nD i c%2=1;rw[hp,au rfl];rfl;have h0:nD i c%2=0:=by omega
   rw[h0,aq (by omega)];rfl)
  (λs nx=>by simp only[jV];rw[af (by omega),ai,hk])
  fuel 0 () (by omega) (by omega)
 refine key.trans ?_;rfl
theorem Nc (s:Bytes)(h:s.length≤1000000000):sq s=some (BE s):=by
 unfold sq;have:=qs (T:=mA (λ(y4:Int) (_:Int)=>some (aw (4294967295-y4))) s) s (λ(c:Nat) i=>((c:Int),(i:Int))) (λ_ c=>c<4294967296) (λb c=> .ok (nD 8 (c^^^b.toNat))) (λc=>some (4294967295-(c:Int))) (by omega) (λi hi c nx hI=>?hs) (λi hi c c' hI hg=>?hn) (λc nx hI=>?hf) 4294967295 (by omega)
 case hs=>
  have hb:=ko s[i]
  simp only[mA]
  rw[aj (by omega),bm hi,ah,ae,fL (n:=s[i].toNat) (by omega),SK c s[i].toNat (by omega) (by omega)]
  have hx:=uP hI (show s[i].toNat<4294967296 by omega)
  rw[fL (by omega),Rq _ (λy=>nx (y,(i:Int)+1)) (λx y=>by rw[wrap64 (by omega) (by omega)]) _ _ _ hx];rfl
 case hn=>
  cases hg
  exact xH (uP hI (by have:=ko s[i];omega)) 8
 case hf=>
  simp only[mA]
  rw[af (by omega),ai,wrap64 (by omega) (by omega)]
 rw[yA]at this;exact this
theorem not_xor (c:Nat)(h:c<4294967296):BitVec.toNat (BitVec.ofInt (IntKind.bits .u32) (IntKind.max .u32)^^^BitVec.ofInt (IntKind.bits .u32) (c:Int))=4294967295-c:=by show(BitVec.ofInt 32 4294967295^^^BitVec.ofInt 32 (c:Int)).toNat=_;rw[show BitVec.ofInt 32 4294967295=BitVec.allOnes 32 by decide,cq,BitVec.allOnes_xor,BitVec.toNat_not,cC,cH (show c<2^32 by omega)]
theorem Th (s:Bytes)(h:s.length≤1000000000):ur s=some (BE s):=by
 unfold ur;have:=qs (T:=mh (λ(y4:Int) (_:Int)=>some (aw (IntKind.wrap .u32 (BitVec.toNat (BitVec.ofInt (IntKind.bits .u32) (IntKind.max .u32)^^^BitVec.ofInt (IntKind.bits .u32) y4))))) s) s (λ(c:Nat) i=>((c:Int),(i:Int))) (λ_ c=>c<4294967296) (λb c=> .ok (nD 8 (c^^^b.toNat))) (λc=>some (4294967295-(c:Int))) (by omega) (λi hi c nx hI=>?hs) (λi hi c c' hI hg=>?hn) (λc nx hI=>?hf) 4294967295 (by omega)
 case hs=>
  have hb:=ko s[i]
  simp only[mh]
  rw[aj (by omega),bm hi,ah,ae,yS (n:=s[i].toNat) (by omega),Vg c s[i].toNat (by omega) (by omega)]
  have hx:=uP hI (show s[i].toNat<4294967296 by omega)
  rw[yS hx,Qt _ (λy=>nx (y,(i:Int)+1)) (λx y=>by rw[wrap64 (by omega) (by omega)]) _ _ _ hx];rfl
 case hn=>
  cases hg
  exact xH (uP hI (by have:=ko s[i];omega)) 8
 case hf=>
  simp only[mh]
  rw[af (by omega),ai,not_xor c hI,yS (by omega),fL (by omega)]
  congr 1
  all_goals omega
 rw[yA]at this;exact this
def Km (s:Bytes)(i:Nat):Nat:=bZ s (i/8)/2^(7-i%8)%2
theorem Fl (s:Bytes)(i:Nat):Km s i<2:=Nat.mod_lt _ (by omega)
theorem PV (b k:Nat)(hb:b<256)(hk:k≤7):aw (BitVec.toNat (BitVec.ofInt (IntKind.bits .i64) (aw (Int.fdiv (b:Int) ((2^k:Nat):Int)))&&&BitVec.ofInt (IntKind.bits .i64) 1))=((b/2^k%2:Nat):Int):=by have e:Int.fdiv (b:Int) ((2^k:Nat):Int)=((b/2^k:Nat):Int):=(Int.ofNat_fdiv b (2^k)).symm;have h1:b/2^k≤b:=Nat.div_le_self _ _;rw[e,fL (n:=b/2^k) (by omega)];have:=Uk (b/2^k) 1 (by omega) (by omega);rw[show((1:Nat):Int)=1 from rfl]at this;rw[this,Nat.and_one_is_mod];exact fL (by omega)
theorem MJ (s:Bytes)(i:Nat)(hi:i/8<s.length)(h:s.length≤1000000000):qk s (i:Int)=some ((Km s i:Nat):Int):=by
 have e1:Int.tdiv (i:Int) 8=((i/8:Nat):Int):=(Int.ofNat_tdiv i 8).symm;have e2:Int.tmod (i:Int) 8=((i%8:Nat):Int):=(Int.ofNat_tmod i 8).symm;unfold qk;rw[aq (by omega),e1,wrap64 (n:=((i/8:Nat):Int)) (by omega) (by omega),bm hi,ae,aq (by omega),e2,wrap64 (n:=7-((i%8:Nat):Int)) (by omega) (by omega),aq (by omega)];have e3:(2:Int)^(min (Int.toNat (7-((i%8:Nat):Int))) (IntKind.bits .u8))=((2^(7-i%8):Nat):Int):=by rw[show min (Int.toNat (7-((i%8:Nat):Int))) (IntKind.bits .u8)=7-i%8 from by show min _ 8=_;omega];push_cast;rfl
 rw[e3,PV _ _ (ko _) (by omega),Km,bZ,bT hi]
def SF (s:Bytes)(a:Nat):Nat→Nat
 |0=>0
 |j+1=>2*SF s a j+Km s (a+j)
theorem SG (s:Bytes)(a:Nat):∀j,SF s a j<2^j
 |0=>by simp[SF]
 |j+1=>by have:=SG s a j;have:=Fl s (a+j);rw[SF,Nat.pow_succ];omega
theorem L5 (s:Bytes)(a j:Nat)(hj:j≤32):SF s a j<4294967296:=ek (SG s a j) (Nat.pow_le_pow_right (n:=2) (by omega) hj)
def Uc (s:Bytes)(a:Int):Int:=bif ((s.length:Int) !=16)|| !cM a 0 96 then-1 else((SF s a.toNat 32:Nat):Int)
theorem Tp (s:Bytes)(a:Int):nT s a=some (Uc s a):=by
 unfold nT Uc;rw[eY];cases hs:(s.length:Int) !=16 with|true=>rfl|false=>?_
 cases ha:cM a 0 96 with|false=>rfl|true=>?_
 have h1:=br.1 ha;have h2:s.length=16:=by simp at hs;omega
 obtain⟨a,rfl⟩:=bd h1.1;simp only[ai,ae,ar,c9,aH];refine dT (λi=>(((SF s a i:Nat):Int),((a+i:Nat):Int))) 32 (by omega) (λi nx hi=>?_) (λnx=>?_);have hw:=L5 s a i (by omega);have hb:=Fl s (a+i);simp only[ks];rw[wrap64 (n:=(a:Int)+32) (by omega) (by omega),aj (by omega),ah,aq (by omega),MJ s (a+i) (by omega) (by omega),ae,wrap64 (n:=((a+i:Nat):Int)+1) (by omega) (by omega)];have e1:aw (((SF s a i:Nat):Int)*2^(min (Int.toNat 1) (IntKind.bits .i64)))=((2^1*SF s a i:Nat):Int):=by have:(2:Int)^(min (Int.toNat 1) (IntKind.bits .i64))=2:=rfl;rw[this,wrap64 (by omega) (by omega)];omega
 rw[e1,xo _ _ _ (by omega) (by omega)];rw[show(((a+i:Nat):Int)+1)=((a+(i+1):Nat):Int) by omega];rfl;simp only[ks];rw[wrap64 (n:=(a:Int)+32) (by omega) (by omega),af (by omega)];rfl
def Aa (s v:Bytes):Nat→Nat
 |0=>0
 |i+1=>if Km v i=1 then Aa s v i^^^SF s i 32 else Aa s v i
theorem H3 (s v:Bytes):∀i,Aa s v i<4294967296
 |0=>by simp[Aa]
 |i+1=>by have:=H3 s v i;rw[Aa];split;exact uP this (L5 s i 32 (by omega));exact this
def wQ (s v:Bytes):Int:=bif ((s.length:Int) !=16)||decide ((v.length:Int)>12) then-1 else((Aa s v (8*v.length):Nat):Int)
theorem Qu (s v:Bytes):nQ s v=some (wQ s v):=by
 unfold nQ wQ;cases hs:(s.length:Int) !=16 with|true=>rfl|false=>?_
 cases hv:decide ((v.length:Int)>12)with|true=>rfl|false=>?_
 have h2:s.length=16:=by simp at hs;omega
 have h3:v.length≤12:=by simp at hv;omega
 simp only[ai,ae,c9];refine dT (λi=>(((Aa s v i:Nat):Int),(i:Int))) (8*v.length) (by omega) (λi nx hi=>?_) (λnx=>?_);have hw:=L5 s i 32 (by omega);have hh:=H3 s v i;have hb:=Fl v i;have eW:Uc s (i:Int)=((SF s i 32:Nat):Int):=by unfold Uc;rw[hs,br.2 (show(0:Int)≤(i:Int)∧(i:Int)≤96 by omega)];rfl
 simp only[kq];rw[wrap64 (n:=8*(v.length:Int)) (by omega) (by omega),aj (by omega),ah,MJ v i (by omega) (by omega),ae,Tp,ae,eW,SK _ _ (by omega) (by omega),wrap64 (n:=(i:Int)+1) (by omega) (by omega),fL (Nat.lt_trans (uP hh hw) (by omega)),Aa];by_cases h1:Km v i=1;rw[h1,au rfl];rfl;rw[aq h1,show(((Km v i:Nat):Int)==1)=false from by simp;omega];rfl;simp only[kq];rw[wrap64 (n:=8*(v.length:Int)) (by omega) (by omega),af (by omega)];rfl
def uk (f:Int×Int×Int×Int×Int):Bytes:=((dY f.2.1++dY f.2.2.1)++de f.2.2.2.1)++de f.2.2.2.2
theorem KR (f:Int×Int×Int×Int×Int):nR f=some (uk f):=by have:=c7 f.2.1;have:=c7 f.2.2.1;have:=bG f.2.2.2.1;have:=bG f.2.2.2.2;simp only[nR,xi,pc,ae];rw[aK (by omega),aK (by simp only[ak];omega),aK (by simp only[ak];omega)];rfl
theorem Gf (s:Bytes)(f:Int×Int×Int×Int×Int):pG s f=some (wQ s (uk f)):=by simp only[pG,KR,Qu,ae]
def vt (s:l6)(f:Int×Int×Int×Int×Int):Int:=bif ((s.2.length:Int)==0)||decide (wQ s.1 (uk f)<0) then-1 else Int.tmod (wQ s.1 (uk f)) (s.2.length:Int)
theorem N3 (s:l6)(f:Int×Int×Int×Int×Int):qP s f=some (vt s f):=by
 unfold qP vt;rw[Gf,ae];cases h0:(s.2.length:Int)==0 with|true=>rfl|false=>?_
 cases decide (wQ s.1 (uk f)<0)with|true=>rfl|false=>?_
 simp only[ai,ae,c9];rw[aq (by simpa using h0)]
theorem NO (s:l6)(f:Int×Int×Int×Int×Int)(h:¬vt s f<0):∃n:Nat,vt s f=(n:Int)∧n<s.2.length:=by
 unfold vt at h⊢;cases hc:((s.2.length:Int)==0)||decide (wQ s.1 (uk f)<0)with
 |true=>rw[hc]at h;simp at h
 |false=>
  rw[hc]at h;simp only[Bool.or_eq_false_iff,cJ,dy]at hc;simp only[ai]at h⊢;have h1:0≤wQ s.1 (uk f):=by omega
  rw[dD h1]at h⊢;have:=Int.emod_lt_of_pos (wQ s.1 (uk f)) (show(0:Int)<s.2.length by omega);obtain⟨n,hn⟩:=bd (show 0≤wQ s.1 (uk f)%(s.2.length:Int) by omega);exact⟨n,hn,by omega⟩
def GR (s:l6)(q:Int)(f:Int×Int×Int×Int×Int):Int:=bif !oU s q||decide (vt s f<0) then-1 else s.2.getD (vt s f).toNat 0
theorem Ig (s:l6)(q:Int)(f:Int×Int×Int×Int×Int)(h:s.2.length≤1000000000):lp s q f=some (GR s q f):=by
 unfold lp GR;rw[N3,ae,Ct s q h,ae];cases oU s q with|false=>rfl|true=>?_
 have hin:=NO s f;cases hd:decide (vt s f<0)with|true=>rfl|false=>?_
 obtain⟨n,hn,hl⟩:=hin (of_decide_eq_false hd);simp only[ar,ai,ae,c9,hn,bm hl,aH,bT hl]
theorem Fa (t:List Slot)(f:Int×Int×Int×Int×Int)(h:∀j,j<8→jR (dP t j) f=false):∀n k,walk t f n k= -1
 |0,_=>rfl
 |n+1,k=>by unfold walk;rw[h _ (yR f k),Fa t f h n (k+1)];split<;>rfl
theorem zW (f:Int×Int×Int×Int×Int):∀(t:List Slot)(m:Int),(∀s∈t,jR s f=false)→qC f t m= -1
 |[],_,_=>rfl
 |s::r,m,h=>by unfold qC;rw[h s (by simp)];exact zW f r (m+1) (λx hx=>h x (by simp[hx]))
theorem KI (t:List Slot)(f:Int×Int×Int×Int×Int)(h:nr t=true):qC f t 0=walk t f 8 0:=by simp only[nr,ab,aL,az,bf]at h;obtain⟨h8,hs⟩:=h;by_cases hex:∃j,j<t.length∧jR (dP t j) f=true;obtain⟨j,hj,hu,e⟩:=vw f t 0 hex;have:=hs j (by omega);simp only[jZ,ab,bU,aB,aL]at this;simp only[jR,ab,aL,aD]at hu;rcases this.2 with g|g;rw[hu.1]at g;simp at g;rw[hu.2]at g;rw[show((0:Int))=((0:Nat):Int) from rfl,e,g];omega;have hn:∀j,j<t.length→jR (dP t j) f=false:=λj hj=>Bool.eq_false_iff.2 λhu=>hex ⟨j,hj,hu⟩;rw[Fa t f (λj hj=>hn j (by omega)),zW];intro s hs';obtain⟨j,hj,rfl⟩:=List.getElem_of_mem hs';have:=hn j hj;rwa[rD hj]at this
def findF (t:List Slot)(f:Int×Int×Int×Int×Int):Int:=bif nr t then walk t f 8 0 else-1
theorem Ge (t:List Slot)(f:Int×Int×Int×Int×Int)(h:t.length≤1000000000):pE t f=some (findF t f):=by
 unfold pE findF;rw[EC,ae];cases ht:nr t with|false=>rfl|true=>?_
 simp only[ar,ai,ah,Ic t f h,ae,KI t f ht]
theorem Nr (t:List Slot)(f:Int×Int×Int×Int×Int):∀n k,walk t f n k= -1∨∃m:Nat,walk t f n k=(m:Int)∧m<8
 |0,_=> .inl rfl
 |n+1,k=>by unfold walk;split;exact .inl rfl;split;exact .inr ⟨_,rfl,yR f k⟩;exact Nr t f n (k+1)
theorem Qg (t:List Slot)(f:Int×Int×Int×Int×Int)(h:findF t f≥0):∃m:Nat,findF t f=(m:Int)∧m<t.length:=by
 unfold findF at h⊢;cases ht:nr t with
 |false=>rw[ht]at h;simp at h
 |true=>
  rw[ht]at h;simp only[ah]at h⊢;have h8:t.length=8:=by simp only[nr,ab,aL]at ht;exact ht.1
  rcases Nr t f 8 0 with g|⟨m,g,hm⟩;omega;exact⟨m,g,by omega⟩
def dH (m:List Bytes):Bool:=m.all (λx=>(x.length:Int)==128)&&decide ((m.length:Int)≤64)
theorem xr (m:List Bytes)(h:m.length≤1000000000):kc m=some (dH m):=by
 unfold kc dH;rw[nu (hit:=some false) (fin:=some (decide ((m.length:Int)≤64))) (λx:Bytes=>(x.length:Int)==128) m (by omega) (λi hi nx=>?hs) (λnx=>?hf)]
 case hs=>
  simp only[lF]
  rw[aj (by omega),bm hi,wrap64 (by omega) (by omega)];rfl
 case hf=>
  simp only[lF]
  rw[af (by omega)];rfl
 cases m.all (λx=>(x.length:Int)==128)<;>rfl
def Gq:bq:=(0,0,0,false)
def Gp (m:bq):Bool:=cM m.1 0 7&&(cM m.2.1 0 1023&&cM m.2.2.1 0 63)
def wS (d p:Int)(m:bq):Bool:=(m.1==d)&&(m.2.1==p)
def I6 (l:List bq)(i:Nat):Bool:=Gp (l.getD i Gq)&&(List.range i).all (λj=> !(wS (l.getD i Gq).1 (l.getD i Gq).2.1 (l.getD j Gq)))
def eN (l:List bq):Bool:=decide ((l.length:Int)≤96)&&(List.range l.length).all (I6 l)
theorem yF (l:List bq)(h:l.length≤1000000000):jG l=some (eN l):=by
 unfold jG eN;rw[eC (hit:=some false) (fin:=some true) (I6 l) l.length (by omega) (λi nx hi=>?hs) (λnx=>?hf)]
 case hs=>
  simp only[jw]
  rw[aj (by omega),bm hi,wrap64 (by omega) (by omega)]
  simp only[ah,ae,bV,bh]
  rw[eC (hit:=some false) (fin:=nx ((i:Int)+1)) (λj=> !(wS l[i].1 l[i].2.1 (l.getD j Gq))) i (by omega) (λj nx hj=>?hs2) (λnx=>?hf2)]
  case hs2=>
   have hjl:j<l.length:=by omega
   simp only[iA]
   rw[aj (by omega),bm hjl,wrap64 (by omega) (by omega)]
   simp only[ah,ae,bh,bT hjl,wS,cF,c8];rfl
  case hf2=>
   simp only[iA]
   rw[af (by omega)];rfl
  simp only[I6,Gp,bT hi,cT]
  cases cM l[i].1 0 7<;>cases cM l[i].2.1 0 1023<;>cases cM l[i].2.2.1 0 63<;>cases (List.range i).all (λj=> !(wS l[i].1 l[i].2.1 (l.getD j Gq)))<;>rfl
 case hf=>
  simp only[jw]
  rw[af (by omega)];rfl
 have e:decide ((l.length:Int)>96)= !decide ((l.length:Int)≤96):=by rw[bO];simp
 rw[e];cases decide ((l.length:Int)≤96)<;>cases (List.range l.length).all (I6 l)<;>rfl
def wP (n:Int)(l:List Int)(i:Nat):Bool:=cM (l.getD i 0) 0 (n-1)&& !((l.take i).contains (l.getD i 0))
def dX (p:dZ):Bool:=cM p.1 0 130944&&(cM p.2.1 1 512&&(cM p.2.2.1 0 16&&(List.range p.2.2.2.length).all (wP p.2.2.1 p.2.2.2)))
def u6 (n:Int)(l:List Int):List Bool:=(List.range n.toNat).map λk:Nat=>l.contains (k:Int)
theorem EX (n:Int)(l:List Int):(u6 n l).length=n.toNat:=by simp[u6]
theorem wx (n:Int)(l:List Int)(k:Nat)(h:k<(u6 n l).length):(u6 n l)[k]=l.contains (k:Int):=by simp[u6]
theorem O7 (n:Int)(l:List Int)(k:Nat)(h:k<n.toNat):(u6 n l).set k true=u6 n (l++[(k:Int)]):=by
 apply List.ext_getElem;simp[u6];intro j h1 h2;rw[List.getElem_set];split;rename_i e;subst e;rw[wx];simp;rename_i e;rw[wx,wx];simp only[List.contains_append];have:([(k:Int)].contains (j:Int))=false:=by simp;omega
 rw[this];simp
theorem Q9 {T:(List Bool×Int→Option Bool)→List Bool×Int→Option Bool}(n:Int)(l:List Int)(hl:l.length≤1000000000)
 (hs:∀i (hi:i<l.length)(s:List Bool) nx,T nx (s,(i:Int))=aa (cond (!(cM l[i] 0 (n-1))) (some true) (aa (idx s l[i]) λx=>some x)) λq=>
  cond q (some false) (aa (idx s l[i]) λ_=>aa (idx s l[i]) λ_=>nx (s.set l[i].toNat true,((i+1:Nat):Int)))) (hf:∀s nx,T nx (s,(l.length:Int))=some true):
 aZ T fuel (List.replicate n.toNat false,0)=some ((List.range l.length).all (wP n l)):=by
 have e0:(List.replicate n.toNat false,(0:Int))=(u6 n (l.take 0),((0:Nat):Int)):=by congr 1;simp only[u6,List.take_zero,List.contains_nil,List.map_const',List.length_range]
 rw[e0,yX (hit:=some false) (fin:=some true) (λi=>(u6 n (l.take i),(i:Int))) (wP n l) l.length (by omega) (λi nx hi hp=>?hs) (λ_ nx=>hf _ nx)]
 case hs=>
  rw[hs i hi]
  unfold wP
  rw[bT hi]
  by_cases hin:cM l[i] 0 (n-1)=true
  ·have hb:=hin
   rw[br]at hb
   obtain⟨k,hk⟩:∃k:Nat,l[i]=(k:Int):=⟨l[i].toNat,by omega⟩
   have hkn:k<(u6 n (l.take i)).length:=by rw[EX];omega
   rw[hin,hk,bm hkn,wx]
   simp only[ar,ai,ae,bg,c8,aH]
   rw[O7 _ _ _ (by rw[EX]at hkn;exact hkn),←hk,←bJ hi]
  ·have hin':cM l[i] 0 (n-1)=false:=by simpa using hin
   rw[hin'];rfl
 cases (List.range l.length).all (wP n l)<;>rfl
theorem qt (p:dZ)(h:p.2.2.2.length≤1000000000):gn p=some (dX p):=by
 unfold gn dX;simp only[bV,ae,bh];by_cases hn:cM p.2.2.1 0 16=true
 ·have hb:=hn;rw[br]at hb;rw[au (by omega),aK (by omega),Q9 p.2.2.1 p.2.2.2 h (λi hi s nx=>?hs) (λs nx=>?hf)]
  case hs=>
   simp only[oJ]
   rw[aj (by omega),bm hi,wrap64 (n:=(i:Int)+1) (by omega) (by omega),wrap64 (n:=p.2.2.1-1) (by omega) (by omega)]
   simp only[ah,ae,bV];rfl
  case hf=>
   simp only[oJ]
   rw[af (by omega)];rfl
  rw[hn];cases cM p.1 0 130944<;>cases cM p.2.1 1 512<;>rfl
 have hn':cM p.2.2.1 0 16=false:=by simpa using hn
 rw[hn'];cases cM p.1 0 130944<;>cases cM p.2.1 1 512<;>rfl
def gM (n:Int):Bool:=(n==2)||((n==4)||((n==8)||(n==16)))
theorem xj (n:Int):lO n=some (gM n):=by simp only[lO,bh,ae,gM,cT]
theorem gm {n:Int}:gM n=true↔n=2∨n=4∨n=8∨n=16:=by simp[gM]
theorem tW (x:Int)(k:Nat)(hk:k≤64):aw x%(2^k:Int)=x%(2^k:Int):=by
 obtain⟨c,hc⟩:∃c:Int,(18446744073709551616:Int)=2^k*c:=⟨2^(64-k),by rw[←Int.pow_add,show k+(64-k)=64 by omega];rfl⟩
 have:aw x=x∨∃q:Int,aw x=x+18446744073709551616*q:=by
  right;simp only[aw,ev,IntKind.wrap,IntKind.bits,IntKind.signed];simp;have h1:x=x%18446744073709551616+18446744073709551616*(x/18446744073709551616):=by omega
  split;exact⟨-(x/18446744073709551616)-1,by omega⟩;exact⟨-(x/18446744073709551616),by omega⟩
 rcases this with h|⟨q,h⟩;rw[h];rw[h,hc,Int.mul_assoc,Int.add_mul_emod_self_left]
theorem xA (x:Int)(k:Nat)(hk:k<63):((BitVec.ofInt (IntKind.bits .i64) x&&&BitVec.ofInt (IntKind.bits .i64) (2^k-1)).toNat:Int)=x%2^k:=by
 have h2:(2:Int)^k≤2^62:=by have:(2:Nat)^k≤2^62:=Nat.pow_le_pow_right (by omega) (by omega);exact_mod_cast this
 have h0:(1:Int)≤2^k:=by have:1≤(2:Nat)^k:=Nat.one_le_two_pow;exact_mod_cast this
 have hm:(BitVec.ofInt (IntKind.bits .i64) (2^k-1)).toNat=2^k-1:=by
  show(BitVec.ofInt 64 (2^k-1)).toNat=2^k-1;rw[BitVec.toNat_ofInt,Int.emod_eq_of_lt (by omega) (by omega)];have:((2:Int)^k-1)=((2^k-1:Nat):Int):=by have:1≤(2:Nat)^k:=Nat.one_le_two_pow;push_cast [this];rfl
  rw[this];rfl
 rw[BitVec.toNat_and,hm,Nat.and_two_pow_sub_one_eq_mod];show(((BitVec.ofInt 64 x).toNat%2^k:Nat):Int)=x%2^k;rw[BitVec.toNat_ofInt];have hx:0≤x%18446744073709551616:=by omega
 have e:(((x%18446744073709551616).toNat%2^k:Nat):Int)=(x%18446744073709551616)%2^k:=by push_cast;rw[Int.toNat_of_nonneg hx]
 refine e.trans ?_;exact Int.emod_emod_of_dvd x ⟨2^(64-k),by rw[←Int.pow_add,show k+(64-k)=64 by omega];rfl⟩
theorem Ot (x n:Int)(h0:0<n)(h1:n≤4611686018427387904):je x n=some (x%n):=by
 unfold je;have:=Int.emod_nonneg x (show n≠0 by omega);have:=Int.emod_lt_of_pos x h0;have hn:(n.natAbs:Int)=n:=by omega
 rw[aq (by omega),Int.tmod_eq_emod];split;rw[af (by omega)];simp;rw[aj (by omega),wrap64 (by omega) (by omega)];simp only[ah,hn];congr 1;omega
def eX (r:(Int×Int×Int×Int)):Int:=if gM r.2.1 then(r.2.2.2-r.2.2.1)%(2*r.2.1) else 0
theorem JW (r:(Int×Int×Int×Int)):mF r=some (eX r):=by
 unfold mF eX;rw[xj,ae];cases hs:gM r.2.1 with
 |false=>rfl
 |true=>
  simp only[ar,ai,bj];congr 1;rcases gm.1 hs with h|h|h|h<;>rw[h];have e:aw (aw (2*2)-1)=2^2-1:=by decide
  rw[e,xA _ 2 (by omega),tW _ 2 (by omega),wrap64 (by omega) (by omega)];rfl;have e:aw (aw (2*4)-1)=2^3-1:=by decide
  rw[e,xA _ 3 (by omega),tW _ 3 (by omega),wrap64 (by omega) (by omega)];rfl;have e:aw (aw (2*8)-1)=2^4-1:=by decide
  rw[e,xA _ 4 (by omega),tW _ 4 (by omega),wrap64 (by omega) (by omega)];rfl;have e:aw (aw (2*16)-1)=2^5-1:=by decide
  rw[e,xA _ 5 (by omega),tW _ 5 (by omega),wrap64 (by omega) (by omega)];rfl
def eO (r:(Int×Int×Int×Int)):Bool:=cM r.1 0 130944&&(gM r.2.1&&(cM r.2.2.1 0 (2*r.2.1-1)&&(cM r.2.2.2 0 (2*r.2.1-1)&&decide (eX r≤r.2.1))))
theorem EY {n:Int}(h:gM n=true):aw (aw (2*n)-1)=2*n-1:=by have:=gm.1 h;rw[wrap64 (n:=2*n) (by omega) (by omega),wrap64 (by omega) (by omega)]
theorem vN (r:(Int×Int×Int×Int)):jg r=some (eO r):=by unfold jg eO;simp only[bV,xj,JW,ae,bh,cF];cases hs:gM r.2.1 with|false=>rfl|true=>rw[EY hs]
theorem CB (p:dZ)(h:p.2.2.2.length≤1000000000):lP p=some p:=by unfold lP;rw[aK (by simp;omega)];rfl
theorem zT (l:List Int)(h:l.length≤1000000000):mi l=some l:=by unfold mi;rw[aK (by simp;omega)];rfl
def uA (p:dZ)(l:List Int):dZ:=(p.1,p.2.1,p.2.2.1,p.2.2.2++l)
def xT (p:dZ)(l:List Int):Bool:=dX p&&dX (uA p l)
def NX (p:dZ)(l:List Int):dZ×Bool:=bif xT p l then(uA p l,true) else(p,false)
theorem Ry (p:dZ)(l:List Int)(h:p.2.2.2.length+l.length≤1000000000):gu p l=some (NX p l):=by unfold gu;rw[CB p (by omega),ae,aK (by omega),qt p (by omega)];rw[qt (p.1,p.2.1,p.2.2.1,p.2.2.2++l) (by simp;omega)];simp only[ae,bh,NX,xT];show _=some (bif dX p&&dX (p.1,p.2.1,p.2.2.1,p.2.2.2++l) then _ else _);cases dX p<;>cases dX (p.1,p.2.1,p.2.2.1,p.2.2.2++l)<;>rfl
theorem VL (p:dZ)(l:List Int):(NX p l).2=xT p l:=by unfold NX;cases xT p l<;>rfl
def qW (n:Int)(s:w6):Bool:=cM s.2.1 1 n&&cM s.1 0 65535
def eZ (l:List w6):List Int:=l.flatMap (·.2.2)
def uc (l:List w6):Int:=(l.map (·.2.1)).sum
def XU (t:nI):Bool:=eO t.1&&(dX t.2.1&&(cM t.2.2.2 0 65535&&(t.2.2.1.all (qW t.1.2.1)&&(xT t.2.1 (eZ t.2.2.1)&&decide (uc t.2.2.1≤t.1.2.1)))))
theorem E3 (p:dZ)(n:Int)(hn:0≤n∧n≤16)(fin:Int×List Int→Option Bool)(hfin:∀s:Int×List Int,p.2.2.2.length+s.2.length≤1000000000→fin s=some (xT p s.2&&decide (s.1≤n))):
 ∀(l:List w6)(sum:Int)(acc:List Int),0≤sum→sum+16*l.length≤100000000000→p.2.2.2.length+(acc.length+(eZ l).length)≤1000000000→
 rN (λx (s:Int×List Int) k=>cond (!(qW n x)) (some false) (room (s.2.length+x.2.2.length) (k (aw (s.1+x.2.1),s.2++x.2.2)))) fin l (sum,acc)
  =some (l.all (qW n)&&(xT p (acc++eZ l)&&decide (sum+uc l≤n)))
 |[],sum,acc,h0,h1,h2=>by rw[rN,hfin _ (by simp[eZ]at h2;exact h2)];simp[eZ,uc]
 |x::l,sum,acc,h0,h1,h2=>by
  have hb:eZ (x::l)=x.2.2++eZ l:=by simp[eZ]
  rw[hb,ak]at h2;rw[rN,bp];cases hx:qW n x with
  |false=>rfl
  |true=>
   have hx':=hx;unfold qW at hx';simp only[ab,br]at hx';simp only[bD,Int.natCast_add,Int.natCast_one]at h1;simp only[ar,ai,bg];rw[aK (by omega),wrap64 (by omega) (by omega),E3 p n hn fin hfin l _ _ (by omega) (by omega) (by rw[ak];omega)];rw[hb,aC];have e:sum+x.2.1+uc l=sum+uc (x::l):=by simp only[uc,cP,List.sum_cons];omega
   rw[e]
theorem XQ (t:nI)(h1:t.2.2.1.length≤1000000000)(h2:t.2.1.2.2.2.length+(eZ t.2.2.1).length≤1000000000):wB t=some (XU t):=by
 unfold wB XU;simp only[vN,qt _ (show t.2.1.2.2.2.length≤1000000000 by omega),bV,ae,bh];cases hr:eO t.1 with
 |false=>rfl
 |true=>
  have hn:0≤t.1.2.1∧t.1.2.1≤16:=by unfold eO at hr;simp only[ab]at hr;have:=gm.1 hr.2.1;omega
  have hfu:=eF;have key:=tK (R:=Bool) (T:=oM (λ(y9:Int) (y10:List Int) (_:Int)=>aa (gu t.2.1 y10) λr12=>some (bif r12.2 then decide (y9≤t.1.2.1) else false)) (λ(y14:Bool) (_:Int) (_:List Int) (_:Int)=>some y14) false t) t.2.2.1 (λ(s:Int×List Int) i=>(s.1,s.2,(i:Int))) (λx (s:Int×List Int) k=>cond (!(qW t.1.2.1 x)) (some false) (room (s.2.length+x.2.2.length) (k (aw (s.1+x.2.1),s.2++x.2.2)))) (λs=>aa (gu t.2.1 s.2) λr12=>some (r12.2&&decide (s.1≤t.1.2.1))) (λi hi s nx=>by simp only[oM];rw[aj (by omega),bm hi,wrap64 (n:=(i:Int)+1) (by omega) (by omega)];simp only[ah,ae,bV,bh,qW];cases cM t.2.2.1[i].2.1 1 t.1.2.1<;>cases cM t.2.2.1[i].1 0 65535<;>rfl) (λs nx=>by simp only[oM];rw[af (by omega)];simp only[ai,bh,ae,cF]) fuel 0 (0,([]:List Int)) (by omega) (by omega);rw[da,E3 t.2.1 t.1.2.1 hn _ (λs hs=>by rw[Ry _ _ hs,ae,VL]) _ _ _ (by omega) (by omega) (by simpa using h2)]at key;cases dX t.2.1 with|false=>rfl|true=>cases cM t.2.2.2 0 65535 with|false=>rfl|true=>refine key.trans ?_;simp
def mx (s:cD):Bool:=cM s.2.1 0 65535&&(cM s.2.2.1 0 65535&&(!decide ((List.length s.2.2.2.2.2.2.2:Int)>320)&&
 (bif s.1==17 then(s.2.2.2.1==0)&&((s.2.2.2.2.1==0)&&((s.2.2.2.2.2.1==0)&&(s.2.2.2.2.2.2.1==0)))
  else(s.1==6)&&(cM s.2.2.2.1 0 4294967295&&(cM s.2.2.2.2.1 0 4294967295&&(cM s.2.2.2.2.2.1 0 31&&cM s.2.2.2.2.2.2.1 0 65535))))))
theorem Nf (s:cD):k5 s=some (mx s):=by simp only[k5,bV,ae,bh,cF,cT,cN,Bool.not_or,c8,Bool.and_assoc,mx]
theorem MM (s:cD):kT s=some (mx s):=by simp only[kT,eY,ae,bh,cF,cT,cN,Bool.not_or,c8,Bool.and_assoc,mx];by_cases h:s.1=17;rw[h];rfl;rw[show(s.1==17)=false from by simpa using h];cases s.1==6<;>rfl
def zf (f:Int):Bool:=(f==16)||(f==17)||(f==24)||(f==25)
theorem Cf (f:Int)(h:cM f 0 31=true):(aw (BitVec.toNat (BitVec.ofInt (IntKind.bits .i64) f&&&~~~ BitVec.ofInt (IntKind.bits .i64) 9))==16)=zf f:=by
 have key:∀k:Fin 32,(aw (BitVec.toNat (BitVec.ofInt (IntKind.bits .i64) (k.val:Int)&&&~~~ BitVec.ofInt (IntKind.bits .i64) 9))==16)=zf (k.val:Int):=by decide
 rw[br]at h;have:=key ⟨f.toNat,by omega⟩;rwa[show((f.toNat:Nat):Int)=f by omega]at this
theorem KJ (f:Int)(h:cM f 0 31=true):og f=some (zf f):=by
 have key:∀k:Fin 32,((aw (BitVec.toNat (BitVec.ofInt (IntKind.bits .i64) (k.val:Int)&&&BitVec.ofInt (IntKind.bits .i64) 16)) !=0)&&(aw (BitVec.toNat (BitVec.ofInt (IntKind.bits .i64) (k.val:Int)&&&~~~ BitVec.ofInt (IntKind.bits .i64) 25))==0))=zf (k.val:Int):=by decide
 rw[br]at h;have:=key ⟨f.toNat,by omega⟩;rw[show((f.toNat:Nat):Int)=f by omega]at this;simp only[og,bh,ae,cF];rw[this]
theorem zI {s:cD}(h:mx s=true)(h6:(s.1==6)=true):cM s.2.2.2.2.2.1 0 31=true:=by
 have:s.1=6:=by simpa using h6
 unfold mx at h;rw[this]at h;simp only[ab]at h;have h:=h.2.2.2;simp at h;exact h.2.2.1
def lW (p:ax):Bool:=cM p.1 0 281474976710655&&(cM p.2.1 0 281474976710655&&(cM p.2.2.1 (-1) 4095&&(cM p.2.2.2.1 0 255&&(cM p.2.2.2.2.2.1 0 255&&(cM p.2.2.2.2.1 0 65535&&(cM p.2.2.2.2.2.2.1 0 4294967295&&(cM p.2.2.2.2.2.2.2.1 0 4294967295&&mx p.2.2.2.2.2.2.2.2)))))))
def dC (p:ax):Bool:=lW p&&(decide ((List.length p.2.2.2.2.2.2.2.2.2.2.2.2.2.2.2:Int)≤128)||(p.2.2.2.2.2.2.2.2.1==6)&&zf p.2.2.2.2.2.2.2.2.2.2.2.2.2.1)
theorem vA {p:ax}(h:lW p=true):mx p.2.2.2.2.2.2.2.2=true:=by unfold lW at h;simp only[ab]at h;exact h.2.2.2.2.2.2.2.2
theorem tT (p:ax):hC p=some (dC p):=by unfold hC dC;simp only[bV,Nf,ae,bh,cF,cT,cN,Bool.not_or,c8];rw[show(cM p.1 0 281474976710655&&(cM p.2.1 0 281474976710655&&(cM p.2.2.1 (-1) 4095&&(cM p.2.2.2.1 0 255&&(cM p.2.2.2.2.2.1 0 255&&(cM p.2.2.2.2.1 0 65535&&(cM p.2.2.2.2.2.2.1 0 4294967295&&(cM p.2.2.2.2.2.2.2.1 0 4294967295&&mx p.2.2.2.2.2.2.2.2))))))))=lW p from rfl];cases hh:lW p with|false=>rfl|true=>cases h6:p.2.2.2.2.2.2.2.2.1==6 with|false=>simp|true=>rw[Cf _ (zI (vA hh) h6)];simp[Bool.or_comm]
theorem nz (p:ax):eL p=some (dC p):=by
 unfold eL dC;simp only[eY,MM,ae];have e:∀X:Option Bool,(cond (cM p.1 0 281474976710655) (cond (cM p.2.1 0 281474976710655) (cond (cM p.2.2.1 (-1) 4095) (cond (cM p.2.2.2.1 0 255) (cond (cM p.2.2.2.2.2.1 0 255) (cond (cM p.2.2.2.2.1 0 65535) (cond (cM p.2.2.2.2.2.2.1 0 4294967295) (cond (cM p.2.2.2.2.2.2.2.1 0 4294967295) (cond (mx p.2.2.2.2.2.2.2.2) X (some false)) (some false)) (some false)) (some false)) (some false)) (some false)) (some false)) (some false)) (some false))=cond (lW p) X (some false):=by
  intro X;unfold lW;cases cM p.1 0 281474976710655 with|false=>rfl|true=>?_
  cases cM p.2.1 0 281474976710655 with|false=>rfl|true=>?_
  cases cM p.2.2.1 (-1) 4095 with|false=>rfl|true=>?_
  cases cM p.2.2.2.1 0 255 with|false=>rfl|true=>?_
  cases cM p.2.2.2.2.2.1 0 255 with|false=>rfl|true=>?_
  cases cM p.2.2.2.2.1 0 65535 with|false=>rfl|true=>?_
  cases cM p.2.2.2.2.2.2.1 0 4294967295 with|false=>rfl|true=>?_
  cases cM p.2.2.2.2.2.2.2.1 0 4294967295<;>rfl
 rw[e];cases hh:lW p with|false=>rfl|true=>cases h6:p.2.2.2.2.2.2.2.2.1==6 with|false=>simp[bh]|true=>rw[KJ _ (zI (vA hh) h6)];simp only[ah,ae,bh,cT,bg]
def uD (q:(Int×Int×Int)):Bool:=cM q.1 0 130944&&(gM q.2.1&&cM q.2.2 0 (aw ((aw (2*q.2.1))-1)))
theorem Pg (q:(Int×Int×Int)):oK q=some (uD q):=by simp only[oK,bV,xj,ae,bh,cF,uD]
def XR:Mf:=((0,0,0,0,0,0,0,0,0,0,0,0,0,0,0,([]:Bytes)),0,0)
def Nm (p:Mf):Bool:=(p.1.1==0)&&((p.1.2.1==0)&&((p.1.2.2.1==0)&&((p.1.2.2.2.1==0)&&((p.1.2.2.2.2.1==0)&&((p.1.2.2.2.2.2.1==0)&&((p.1.2.2.2.2.2.2.1==0)&&((p.1.2.2.2.2.2.2.2.1==0)&&((p.1.2.2.2.2.2.2.2.2.1==0)&&((p.1.2.2.2.2.2.2.2.2.2.1==0)&&((p.1.2.2.2.2.2.2.2.2.2.2.1==0)&&((p.1.2.2.2.2.2.2.2.2.2.2.2.1==0)&&((p.1.2.2.2.2.2.2.2.2.2.2.2.2.1==0)&&((p.1.2.2.2.2.2.2.2.2.2.2.2.2.2.1==0)&&((p.1.2.2.2.2.2.2.2.2.2.2.2.2.2.2.1==0)&&((p.1.2.2.2.2.2.2.2.2.2.2.2.2.2.2.2==([]:Bytes))&&((p.2.1==0)&&((p.2.2==0)&&true)))))))))))))))))
def SO (r:eE):Bool:=(eO r.1&&(uD r.2.1&&(uD r.2.2.1&&((r.2.1.1==r.2.2.1.1)&&((r.2.1.2.1==r.2.2.1.2.1)&&cM r.2.2.2.2.2 0 1000000000000)))))&&
 (bif r.2.2.2.2.1 then dC r.2.2.2.1.1&&(cM r.2.2.2.1.2.1 0 320&&cM r.2.2.2.1.2.2 1 320) else Nm r.2.2.2.1)
theorem RI (p:Mf):Nm p=true↔p=XR:=by obtain⟨⟨a,b,c,d,e,f,g,h,i,j,k,l,m,n,o,q⟩,r,s⟩:=p;simp only[Nm,XR,dL,ab,aL,Prod.mk.injEq,and_assoc]
theorem XP (r:eE):wA r=some (SO r):=by unfold wA SO Nm;simp only[vN,Pg,bV,tT,ae,bh,cF,cT,cN,Bool.not_or,c8,bne];cases r.2.2.2.2.1<;>rfl
def kI (v:Vector):Bool:=(ie v).getD false
theorem Dd (v:Vector):ie v=some (kI v):=by
 have:∃b,ie v=some b:=by simp only[ie,tc,bV,ae,bh];exact⟨_,rfl⟩
 obtain⟨b,hb⟩:=this;rw[kI,hb];rfl
theorem zC {α:Type}(l:List α)(p:α→Bool):(List.range l.length).all (λi=>l[i]?.all p)=l.all p:=by rw[bO,az,az];constructor;intro h x hx;obtain⟨i,hi,rfl⟩:=List.getElem_of_mem hx;have:=h i (bf.2 hi);rwa[List.getElem?_eq_getElem hi]at this;intro h i hi;rw[List.getElem?_eq_getElem (bf.1 hi)];exact h _ (aM _)
theorem Mh {α:Type}(l:List α)(p q:α→Bool):l.all (λx=>p x&&q x)=(l.all p&&l.all q):=by induction l with|nil=>rfl|cons x l ih=>simp only[bp,ih];cases p x<;>cases q x<;>cases l.all p<;>rfl
def iI (h:Host):List Int:=[h.2.2.2.2.2.2.2.2.2.2.2.2.2.2.1,h.2.2.2.2.2.2.2.2.2.2.2.2.2.2.2.1,h.2.2.2.2.2.2.2.2.2.2.2.2.2.2.2.2.1,h.2.2.2.2.2.2.2.2.2.2.2.2.2.2.2.2.2.1,h.2.2.2.2.2.2.2.2.2.2.2.2.2.2.2.2.2.2]
def yk (h:Host):Bool:=cM (h.2.2.2.1.length:Int) 1 2&&(((h.2.2.2.2.1.length:Int)==(h.2.2.2.1.length:Int))&&(((h.2.2.2.2.2.1.length:Int)==(h.2.2.2.1.length:Int))&&((h.2.2.2.2.2.2.1.length:Int)==(h.2.2.2.1.length:Int))))
def M6 (h:Host):Bool:=h.2.2.2.1.all SO&&(h.2.2.2.2.1.all dX&&h.2.2.2.2.2.1.all kI)
def vB (h:Host):Bool:=dH h.1&&(eN h.2.1&&(XU h.2.2.1&&(eh h.2.2.2.2.2.2.2.1&&(yk h&&(dF h.2.2.2.2.2.2.2.2.1 (h.2.2.2.1.length:Int)&&(M6 h&&(iI h).all (λx=>cM x 0 1000000000000)))))))
structure Ff (h:Host):Prop where
 a1:h.1.length≤1000000000
 a2:h.2.1.length≤1000000000
 t1:h.2.2.1.2.2.1.length≤1000000000
 t2:h.2.2.1.2.1.2.2.2.length+(eZ h.2.2.1.2.2.1).length≤1000000000
 f1:h.2.2.2.2.2.2.2.1.2.2.length≤1000000000
 s1:h.2.2.2.2.2.2.2.2.1.1.length≤1000000000
 s2:h.2.2.2.2.2.2.2.2.1.2.1.length≤1000000000
 s3:h.2.2.2.2.2.2.2.2.1.2.2.2.length≤1000000000
 p1:∀p∈h.2.2.2.2.1,p.2.2.2.length≤1000000000
theorem Bf {h:Host}(l:yk h=true):h.2.2.2.1.length≤2∧h.2.2.2.2.1.length=h.2.2.2.1.length∧h.2.2.2.2.2.1.length=h.2.2.2.1.length∧h.2.2.2.2.2.2.1.length=h.2.2.2.1.length:=by unfold yk at l;simp only[ab,br,aL]at l;omega
theorem O4 {R:Type}{T:(Int→Option R)→Int→Option R}{fin hit:Option R}{h:Host}(l:yk h=true)(hs:∀i (hi:i<h.2.2.2.1.length) nx,T nx (i:Int)=cond (!(SO h.2.2.2.1[i]&&(dX (h.2.2.2.2.1[i]'((Bf l).2.1▸hi))&&kI (h.2.2.2.2.2.1[i]'((Bf l).2.2.1▸hi))))) hit (nx ((i+1:Nat):Int)))(hf:∀nx,T nx (h.2.2.2.1.length:Int)=fin):aZ T fuel 0=cond (M6 h) fin hit:=by
 have hl:=Bf l;rw[eC (fin:=fin) (hit:=hit) (λi=>h.2.2.2.1[i]?.all SO&&(h.2.2.2.2.1[i]?.all dX&&h.2.2.2.2.2.1[i]?.all kI)) h.2.2.2.1.length (by omega) ?hs hf]
 case hs=>
  intro i nx hi
  rw[hs i hi,List.getElem?_eq_getElem hi,List.getElem?_eq_getElem (hl.2.1▸hi),List.getElem?_eq_getElem (hl.2.2.1▸hi)]
  rfl
 rw[Mh,Mh,zC];have e1:=zC h.2.2.2.2.1 dX;have e2:=zC h.2.2.2.2.2.1 kI;rw[hl.2.1]at e1;rw[hl.2.2.1]at e2;rw[e1,e2];rfl
theorem Hl {R:Type}{T:(Int→Option R)→Int→Option R}{fin hit:Option R}(h:Host)(hs:∀i (hi:i<(iI h).length) nx,T nx (i:Int)=cond (!(cM (iI h)[i] 0 1000000000000)) hit (nx ((i+1:Nat):Int)))(hf:∀nx,T nx ((iI h).length:Int)=fin):aZ T fuel 0=cond ((iI h).all (λx=>cM x 0 1000000000000)) fin hit:=nu (λx=>cM x 0 1000000000000) (iI h) (by simp[iI]) hs hf
theorem JN (h:Host)(z:Ff h):qu h=some (vB h):=by
 unfold qu vB;simp only[xr _ z.a1,yF _ z.a2,XQ _ z.t1 z.t2,sn _ z.f1,uI _ _ z.s1 z.s2 z.s3,bV,ae,bh];cases dH h.1 with|false=>rfl|true=>?_
 cases eN h.2.1 with|false=>rfl|true=>?_
 cases XU h.2.2.1 with|false=>rfl|true=>?_
 cases eh h.2.2.2.2.2.2.2.1 with|false=>rfl|true=>?_
 simp only[ar,ai,cT,bne];rw[show(!cM (h.2.2.2.1.length:Int) 1 2||(!((h.2.2.2.2.1.length:Int)==(h.2.2.2.1.length:Int))||(!((h.2.2.2.2.2.1.length:Int)==(h.2.2.2.1.length:Int))||(!((h.2.2.2.2.2.2.1.length:Int)==(h.2.2.2.1.length:Int))|| !dF h.2.2.2.2.2.2.2.2.1 (h.2.2.2.1.length:Int)))))= !(yk h&&dF h.2.2.2.2.2.2.2.2.1 (h.2.2.2.1.length:Int)) by unfold yk;simp only[Bool.not_and,Bool.or_assoc]];cases hl:yk h with|false=>rfl|true=>?_
 cases dF h.2.2.2.2.2.2.2.2.1 (h.2.2.2.1.length:Int)with|false=>rfl|true=>?_
 have hL:=Bf hl;simp only[dL,ar,ai,bg];rw[O4 (h:=h) (hit:=some false) (fin:=some ((iI h).all (λx=>cM x 0 1000000000000))) hl ?hs ?hf]
 case hs=>
  intro i hi nx
  simp only[oE]
  rw[aj (by omega),bm hi,bm (hL.2.1▸hi),bm (hL.2.2.1▸hi),wrap64 (n:=(i:Int)+1) (by omega) (by omega)]
  simp only[ah,ae,XP,Dd,qt _ (z.p1 _ (aM _)),bh,cT,Bool.not_and]
  rfl
 case hf=>
  intro nx
  simp only[oE]
  rw[af (by omega)]
  simp only[ai]
  refine(Hl (fin:=some true) (hit:=some false) h ?_ ?_).trans ?_
  ·intro i hi nx
   simp only[mU]
   have hi':i<5:=hi
   change (bif decide ((i:Int)<5) then aa (idx (iI h) (i:Int)) _ else _)=_
   rw[aj (by omega),bm hi,wrap64 (n:=(i:Int)+1) (by omega) (by omega),ae,bV]
   rfl
  ·intro nx
   simp only[mU]
   rw[af (by simp[iI])];rfl
  ·cases (iI h).all (λx=>cM x 0 1000000000000)<;>rfl
 cases M6 h<;>rfl
def hasB (l:List Int)(v:Int):Bool:=l.any (·==v)
theorem H2 {l:List Int}{v:Int}:hasB l v=true↔v∈l:=by simp only[hasB,List.any_eq_true,aL];constructor;rintro⟨x,hx,rfl⟩;exact hx;intro h;exact⟨v,h,rfl⟩
theorem Bm (l:List Int)(v:Int)(h:l.length≤1000000000):ji l v=some (hasB l v):=by
 unfold ji hasB;rw[xB (hit:=some true) (fin:=some false) (λx:Int=>x==v) l (by omega) (λi hi nx=>?hs) (λnx=>?hf)]
 case hs=>
  simp only[oQ]
  rw[aj (by omega),bm hi,wrap64 (by omega) (by omega)];rfl
 case hf=>
  simp only[oQ]
  rw[af (by omega)];rfl
 cases l.any (λx=>x==v)<;>rfl
theorem uq (l:List Int)(v:Int)(h:l.length≤1000000000):ei l v=some (hasB l v):=by
 unfold ei hasB;rw[xB (hit:=some true) (fin:=some false) (λx:Int=>x==v) l (by omega) (λi hi nx=>?hs) (λnx=>?hf)]
 case hs=>
  simp only[oa]
  rw[aj (by omega),bm hi,wrap64 (by omega) (by omega)];rfl
 case hf=>
  simp only[oa]
  rw[af (by omega)];rfl
 cases l.any (λx=>x==v)<;>rfl
def ins (v:Int):List Int→List Int
 |[]=>[v]
 |x::l=>bif decide (v<x) then v::x::l else x::ins v l
theorem MN (v:Int):∀l,(ins v l).length=l.length+1
 |[]=>rfl
 |x::l=>by rw[ins];cases decide (v<x)with|true=>rfl|false=>simp only[ai,bD,MN v l]
theorem MU (v x:Int):∀l,x∈ins v l↔x=v∨x∈l
 |[]=>by simp[ins]
 |y::l=>by rw[ins];cases decide (v<y)with|true=>simp|false=>simp only[ai,bl,MU v x l];constructor<;>(rintro(h|h|h)<;>simp[h])
theorem QC (v:Int):∀l:List Int,v∉l→l.take (l.findIdx (λx=> !decide (x<v)))++[v]++l.drop (l.findIdx (λx=> !decide (x<v)))=ins v l
 |[],_=>rfl
 |x::l,h=>by rw[ins,List.findIdx_cons];have hx:v≠x:=λe=>h (by simp[e]);have hl:v∉l:=λe=>h (by simp[e]);by_cases c:x<v;rw[aj c,af (show¬v<x by omega)];have:=QC v l hl;simpa using this;rw[af c,aj (show v<x by omega)];rfl
def qA (l:List Int)(v:Int):List Int:=bif hasB l v then l else ins v l
theorem xz (l:List Int)(v:Int):(qA l v).length≤l.length+1:=by unfold qA;cases hasB l v with|true=>simp|false=>simp only[ai,MN];omega
theorem QP {l:List Int}{v x:Int}(h:x∈l):x∈qA l v:=by unfold qA;cases hasB l v with|true=>exact h|false=>exact(MU v x l).2 (.inr h)
theorem NB {l:List Int}{v:Int}(h:v∈l):qA l v=l:=by unfold qA;rw[H2.2 h];rfl
theorem tV:∀(vs l:List Int),(vs.foldl qA l).length≤l.length+vs.length
 |[],l=>by simp
 |v::vs,l=>by have:=tV vs (qA l v);have:=xz l v;simp only[cE,bD];omega
theorem zv:∀(vs:List Int){l:List Int}{x:Int},x∈l→x∈vs.foldl qA l
 |[],_,_,h=>h
 |v::vs,l,x,h=>zv vs (l:=qA l v) (QP h)
theorem Qj {α R:Type}(p:α→Bool)(k:Int→Option R)(l:List α):(match l.findIdx? p with|some i=>k (i:Int)|none=>k (l.length:Int))=k (l.findIdx p:Int):=by cases h:l.findIdx? p with|none=>rw[List.findIdx?_eq_none_iff_findIdx_eq]at h;rw[h]|some i=>rw[List.findIdx?_eq_some_iff_findIdx_eq]at h;rw[h.2]
theorem J2 {α:Type}(l:List α)(j:Nat)(h:j≤l.length):sub l 0 (j:Int)=some (l.take j):=by unfold sub;rw[au (by omega)];simp
theorem RG {α:Type}(l:List α)(j:Nat)(h:j≤l.length):sub l (j:Int) (l.length:Int)=some (l.drop j):=by unfold sub;rw[au (by omega)];simp
theorem E5 (a vs:List Int)(h:a.length+vs.length≤1000000000):mH a vs=some (vs.foldl qA a):=by
 unfold mH;rw[aK (by simp only[List.length_nil];omega)];rw[bu];have:=qs (T:=jd (λ(y10:List Int) (_:Int)=>some y10) vs) vs (λ(s:List Int) i=>(s,(i:Int))) (λi s=>s.length≤a.length+i) (λv s=> .ok (qA s v)) (λs=>some s) (by omega) (λi hi s nx hI=>?hs) (λi hi s s' hI hg=>?hn) (λs nx hI=>?hf) a (by simp)
 case hs=>
  simp only[jd]
  rw[aj (by omega),bm hi,wrap64 (n:=(i:Int)+1) (by omega) (by omega)]
  simp only[ah,ae,Bm s vs[i] (by omega)]
  unfold qA
  cases hh:hasB s vs[i]with
  |true=>rfl
  |false=>
   have hm:vs[i]∉s:=λe=>by rw[H2.2 e]at hh;cases hh
   simp only[ai]
   rw[wi (hit:=λy6=>aa (sub s 0 y6) λx7=>room (List.length ([]:List Int)+List.length x7) (room (List.length (([]:List Int)++x7)+List.length ([vs[i]])) (aa (sub s y6 (s.length:Int)) λx9=>room (List.length ((([]:List Int)++x7)++([vs[i]]))+List.length x9) (nx (((([]:List Int)++x7)++([vs[i]]))++x9,(i:Int)+1)))))
    (fin:=aa (sub s 0 (s.length:Int)) λx7=>room (List.length ([]:List Int)+List.length x7) (room (List.length (([]:List Int)++x7)+List.length ([vs[i]])) (aa (sub s (s.length:Int) (s.length:Int)) λx9=>room (List.length ((([]:List Int)++x7)++([vs[i]]))+List.length x9) (nx (((([]:List Int)++x7)++([vs[i]]))++x9,(i:Int)+1)))))
    (λx=> !decide (x<vs[i])) s (by omega) (λj hj nx'=>?hs2) (λnx'=>?hf2)]
   case hs2=>
    simp only[lS]
    rw[aj (by omega),bm hj,bm hi,wrap64 (n:=(j:Int)+1) (by omega) (by omega)]
    simp only[ah,ae]
    cases decide (s[j]<vs[i])<;>rfl
   case hf2=>
    simp only[lS]
    rw[af (by omega)];rfl
   refine Eq.trans (Qj (λx=> !decide (x<vs[i])) (λy6=>aa (sub s 0 y6) λx7=>room (List.length ([]:List Int)+List.length x7) (room (List.length (([]:List Int)++x7)+List.length ([vs[i]])) (aa (sub s y6 (s.length:Int)) λx9=>room (List.length ((([]:List Int)++x7)++([vs[i]]))+List.length x9) (nx (((([]:List Int)++x7)++([vs[i]]))++x9,(i:Int)+1))))) s) ?_
   have hle:s.findIdx (λx=> !decide (x<vs[i]))≤s.length:=List.findIdx_le_length
   have e:=QC vs[i] s hm
   generalize s.findIdx (λx=> !decide (x<vs[i]))=j at*
   rw[J2 s j hle,RG s j hle]
   simp only[ae,bu]
   rw[aK (by simp;omega),aK (by simp;omega),aK (by simp;omega),e];rfl
 case hn=>
  cases hg
  have:=xz s vs[i]
  omega
 case hf=>
  simp only[jd]
  rw[af (by omega)];rfl
 rw[yA]at this;exact this
theorem MI (l:List Int)(v:Int)(h:l.length≤1000000000):gL l v=some (ins v l):=by
 unfold gL
 have hgo:∀(l:List Int)(acc:List Int)(d:Bool),acc.length+l.length+(bif d then 0 else 1)≤1073741824→
  rN (λ(x:Int) (s:List Int×Bool) (k:List Int×Bool→Option (List Int))=>cond (cond (!s.2) (decide (v<x)) false) (room (List.length s.1+List.length ([v])) (room (List.length (s.1++([v]))+List.length ([x])) (k ((s.1++([v]))++([x]),true)))) (room (List.length s.1+List.length ([x])) (k (s.1++([x]),s.2))))
   (λs=>cond (!s.2) (room (List.length s.1+List.length ([v])) (some (s.1++([v])))) (some s.1)) l (acc,d)=some (acc++bif d then l else ins v l):=by
  intro l
  induction l with
  |nil=>
   intro acc d hl
   rw[rN]
   simp only[List.length_nil]at hl
   cases d with
   |true=>simp
   |false=>
    simp only[cp,ah,ai]at hl⊢
    rw[aK (by simp;omega)];rfl
  |cons x l ih=>
   intro acc d hl
   simp only[bD]at hl
   rw[rN]
   cases d with
   |true=>
    simp only[ar,ai,ah]at hl⊢
    rw[aK (by simp;omega),ih _ _ (by simp;omega)]
    simp
   |false=>
    simp only[cp,ah,ai]at hl⊢
    rw[ins]
    cases decide (v<x)with
    |true=>
     simp only[ah]
     rw[aK (by simp;omega),aK (by simp;omega)]
     rw[ih _ _ (by simp;omega)];simp
    |false=>
     simp only[ai]
     rw[aK (by simp;omega),ih _ _ (by simp;omega)]
     simp
 have hfu:=eF;have key:=tK (T:=gA (λ(y3:List Int) (y4:Bool) (_:Int)=>cond (!y4) (room (List.length y3+List.length ([v])) (some (y3++([v])))) (some y3)) v l (l.length:Int)) l (λ(s:List Int×Bool) i=>(s.1,s.2,(i:Int))) (λ(x:Int) (s:List Int×Bool) (k:List Int×Bool→Option (List Int))=>cond (cond (!s.2) (decide (v<x)) false) (room (List.length s.1+List.length ([v])) (room (List.length (s.1++([v]))+List.length ([x])) (k ((s.1++([v]))++([x]),true)))) (room (List.length s.1+List.length ([x])) (k (s.1++([x]),s.2)))) (λs=>cond (!s.2) (room (List.length s.1+List.length ([v])) (some (s.1++([v])))) (some s.1)) (λi hi s nx=>by simp only[gA];rw[aj (by omega),bm hi,wrap64 (n:=(i:Int)+1) (by omega) (by omega)];simp only[ah,ae,bh];rfl) (λs nx=>by simp only[gA];rw[af (by omega)];rfl) fuel 0 (([]:List Int),false) (by omega) (by omega);rw[da,hgo l [] false (by simp;omega)]at key;exact key
def gH:Port:=(0,[],0,false)
def Bj (p:Port):Bool:=eh (p.1,false,p.2.1)&&hasB p.2.1 p.2.2.1
def yv (l:List Port)(i:Nat):Bool:=Bj (l.getD i gH)&&(List.range i).all (λj=> !((j !=0)&&((l.getD j gH).1==(l.getD i gH).1)))
def ee (l:List Port):Bool:=cM (l.length:Int) 1 8&&(List.range l.length).all (yv l)
theorem LH (i:Nat)(q:Nat→Bool):(List.range (i-1)).all (λj=> !(q (j+1)))=(List.range i).all (λj=> !((j !=0)&&q j)):=by
 rw[bO,az,az];simp only[bf];constructor;intro h j hj;cases j with|zero=>rfl|succ j=>have:=h j (by omega);simpa using this
 intro h j hj;have:=h (j+1) (by omega);simpa using this
theorem zM (l:List Port)(h:l.length≤1000000000)(hv:∀p∈l,p.2.1.length≤1000000000):jx l=some (ee l):=by
 unfold jx ee;rw[eC (hit:=some false) (fin:=some true) (yv l) l.length (by omega) (λi nx hi=>?hs) (λnx=>?hf)]
 case hs=>
  have hvi:=hv _ (aM hi)
  simp only[mX]
  rw[aj (by omega),bm hi,wrap64 (by omega) (by omega)]
  simp only[ah,ae,sn (l[i].1,false,l[i].2.1) hvi,Bm _ _ hvi]
  have e1:(1:Int)=(((0:Nat)+1:Nat):Int):=rfl
  rw[e1,yX (hit:=some false) (fin:=nx ((i:Int)+1)) (λj=>((j+1:Nat):Int)) (λj=> !((l.getD (j+1) gH).1==l[i].1)) (i-1) (by omega) (λj nx' hj hp=>?hs2) (λhp nx'=>?hf2)]
  case hs2=>
   have hjl:j+1<l.length:=by omega
   simp only[mY]
   rw[aj (by omega),bm hjl,bm hi,wrap64 (by omega) (by omega)]
   simp only[ah,ae,bT hjl,c8];rfl
  case hf2=>
   simp only[mY]
   rw[af (by omega)];rfl
  rw[LH i (λj=>(l.getD j gH).1==l[i].1)]
  simp only[yv,Bj,bT hi]
  cases eh (l[i].1,false,l[i].2.1)<;>cases hasB l[i].2.1 l[i].2.2.1<;>cases (List.range i).all (λj=> !((j !=0)&&((l.getD j gH).1==l[i].1)))<;>rfl
 case hf=>
  simp only[mX]
  rw[af (by omega)];rfl
 simp only[bV,ae];cases cM (l.length:Int) 1 8<;>cases (List.range l.length).all (yv l)<;>rfl
def ui (p:Nat→Bool):List Nat→Int
 |[]=> -1
 |j::r=>bif p j then(j:Int) else ui p r
theorem HR (p:Nat→Bool):∀n s i,s≤i→i<s+n→p i=true→(ui p (List.range' s n)==(i:Int))=(List.range' s (i-s)).all (λj=> !(p j))
 |0,s,i,h1,h2,_=>by omega
 |n+1,s,i,h1,h2,hp=>by
  rw[List.range'_succ,ui];rcases bB s i with hlt|hge;obtain⟨k,hk⟩:∃k,i-s=k+1:=⟨i-s-1,by omega⟩
  rw[hk,List.range'_succ,bp];cases hps:p s with
  |true=>
   simp only[ah,ar,dQ];have:¬(s:Int)=(i:Int):=by omega
   simpa using this
  |false=>simp only[ai,cp,bg];rw[HR p n (s+1) i (by omega) (by omega) hp,show i-(s+1)=k by omega]
  have:s=i:=by omega
  subst this;rw[hp,fP];simp
theorem C0 {R:Type}(p:Nat→Bool)(hit:Nat→Option R)(fin:Option R)(k:Int→Option R)(h1:∀j:Nat,hit j=k (j:Int))(h2:fin=k (-1)):∀l:List Nat,uG (λ(j:Nat) (s:Unit)=>bif p j then .error (hit j) else .ok ()) (λ_=>fin) l ()=k (ui p l)
 |[]=>h2
 |j::l=>by rw[uG,ui];cases p j with|true=>exact h1 j|false=>exact C0 p hit fin k h1 h2 l
theorem Ii (l:List Port)(a:Int)(h:l.length≤1000000000):mm l a=some (ui (λj=>(j !=0)&&((l.getD j gH).1==a)) (List.range' 0 l.length)):=by
 unfold mm;have:=qs (T:=iL (λ(_:Int)=>some (-1)) (λ(y4:Int) (_:Int)=>some y4) a 0 l (l.length:Int)) (List.range' 0 l.length) (λ(_:Unit) i=>(i:Int)) (λ_ _=>True) (λ(j:Nat) (s:Unit)=>bif (j !=0)&&((l.getD j gH).1==a) then .error (some (j:Int)) else .ok ()) (λ_=>some (-1)) (by simp;omega) (λi hi s nx _=>?hs) (λ_ _ _ _ _ _=>trivial) (λs nx _=>?hf) () trivial
 case hs=>
  have hil:i<l.length:=by simpa using hi
  have e:(List.range' 0 l.length)[i]=i:=by simp
  rw[e]
  simp only[iL]
  rw[aj (by omega),bm hil,wrap64 (by omega) (by omega)]
  simp only[ah,ae,bT hil,bh,cF]
  have e2:((i:Int) !=0)=(i !=0):=by rw[bO];simp
  rw[e2]
  cases (i !=0)&&(l[i].1==a)<;>rfl
 case hf=>
  simp only[iL]
  rw[af (by simp)];rfl
 rw[C0 (λj=>(j !=0)&&((l.getD j gH).1==a)) _ _ (λx=>some x) (λ_=>rfl) rfl]at this;exact this
theorem wo (l:List Port)(h:l.length≤1000000000)(hv:∀p∈l,p.2.1.length≤1000000000):gT l=some (ee l):=by
 unfold gT ee;rw[eC (hit:=some false) (fin:=some true) (yv l) l.length (by omega) (λi nx hi=>?hs) (λnx=>?hf)]
 case hs=>
  have hvi:=hv _ (aM hi)
  simp only[mN]
  rw[aj (by omega),bm hi,wrap64 (by omega) (by omega)]
  simp only[ah,ae,tq,uo (l[i].1,false,l[i].2.1) hvi,uq _ _ hvi,Ii l _ h,bh,bne]
  have e2:((i:Int)==0)=(i==0):=by rw[bO];simp
  rw[e2]
  simp only[yv,Bj,bT hi]
  cases h0:i==0 with
  |true=>
   have:i=0:=by simpa using h0
   subst this
   cases eh (l[0].1,false,l[0].2.1)<;>cases hasB l[0].2.1 l[0].2.2.1<;>rfl
  |false=>
   have hne:(i !=0)=true:=by simp only[bne,h0,cp]
   have fa:=HR (λj=>(j !=0)&&((l.getD j gH).1==l[i].1)) l.length 0 i (by omega) (by omega) (by simp only[hne,bT hi,bg,beq_self_eq_true])
   rw[Nat.sub_zero,←List.range_eq_range' (n:=i)]at fa
   simp only[bne]at fa⊢
   rw[fa]
   cases eh (l[i].1,false,l[i].2.1)<;>cases hasB l[i].2.1 l[i].2.2.1<;>cases (List.range i).all (λj=> !((!(j==0))&&((l.getD j gH).1==l[i].1)))<;>rfl
 case hf=>
  simp only[mN]
  rw[af (by omega)];rfl
 simp only[eY,ae];cases cM (l.length:Int) 1 8<;>cases (List.range l.length).all (yv l)<;>rfl
def kB (m:aX):Bool:=eh m.1&&(cM m.2.1 0 1000000000000&&cM m.2.2.2 0 1000000000000)
theorem RB (m:aX)(h:m.1.2.2.length≤1000000000):oG m=some (kB m):=by simp only[oG,sn _ h,bV,ae,bh,cF,kB]
theorem Qz (m:aX)(h:m.1.2.2.length≤1000000000):nU m=some (kB m):=by simp only[nU,uo _ h,eY,ae,bh,cF,kB]
theorem tN {m:aX}(h:kB m=true):m.1.2.2.length≤8:=by unfold kB eh at h;simp only[ab,aD]at h;omega
def GA (m:aX):Port:=(m.1.1,m.1.2.2.foldl qA [0],0,true)
def vS (s:List Int×List Port)(m:aX):List Int×List Port:=(m.1.2.2.foldl qA s.1,s.2++[GA m])
def ix (ms:List aX):List Port:=(0,(ms.foldl vS ([0],[])).1,0,false)::(ms.foldl vS ([0],[])).2
def cx (ms:List aX):List Port×Bool:=bif cM (ms.length:Int) 1 3&&(ms.all kB&&ee (ix ms)) then(ix ms,true) else([],false)
theorem CZ {α σ R:Type}(p:α→Bool)(f:σ→α→σ)(r:Option R)(fin:σ→Option R):∀(l:List α)(s:σ),uG (λx s=>bif p x then .ok (f s x) else .error r) fin l s=bif l.all p then fin (l.foldl f s) else r
 |[],s=>rfl
 |x::l,s=>by rw[uG,bp,cE];cases p x with|false=>rfl|true=>simp only[ah,bg];exact CZ p f r fin l (f s x)
def G7 (i:Nat)(s:List Int×List Port):Prop:=s.1.length≤1+9*i∧s.2.length=i∧∀p∈s.2,p.2.1.length≤9
theorem G7.port {i:Nat}{s:List Int×List Port}(h:G7 i s){m:aX}(hm:kB m=true)(U:List Int)(hU:U.length≤s.1.length+9):G7 (i+1) (U,s.2++[GA m]):=by have hl:=tN hm;have:=tV m.1.2.2 [0];refine⟨?_,?_,?_⟩;have:=h.1;simp only;omega;have:=h.2.1;simp;omega;intro p hp;rcases al.1 hp with hp|hp;exact h.2.2 p hp;simp only[bw]at hp;subst hp;simp only[GA,bR]at this⊢;omega
theorem vI {i:Nat}{s:List Int×List Port}(h:G7 i s)(hi:i≤3):((0,s.1,0,false)::s.2:List Port).length≤1000000000∧∀p∈((0,s.1,0,false)::s.2:List Port),p.2.1.length≤1000000000:=by have h1:=h.1;have h2:=h.2.1;refine⟨by simp only[bD];omega,λp hp=>?_⟩;rcases bl.1 hp with rfl|hp;simp only;omega;have:=h.2.2 p hp;omega
theorem vM (ms:List aX)(h:∀m∈ms,m.1.2.2.length≤1000000000):lI ms=some (cx ms):=by
 unfold lI cx;simp only[bV,ae];cases hn:cM (ms.length:Int) 1 3 with
 |false=>rfl
 |true=>
  have hn':=br.1 hn;simp only[ar,ai,bg];have:=qs (T:=jJ (λ(y12:List Port) (_:Int)=>aa (jx y12) λr14=>cond (!r14) (some (([]:List Port),false)) (some (y12,true))) (λ(y15:List Port) (y16:Bool) (_:List Port) (_:Int)=>some (y15,y16)) ms ([]:List Port) false) ms (λ(s:List Int×List Port) i=>((0,s.1,0,false)::s.2,(i:Int))) G7 (λm s=>bif kB m then .ok (vS s m) else .error (some (([]:List Port),false))) (λs=>some (bif ee ((0,s.1,0,false)::s.2) then((0,s.1,0,false)::s.2,true) else([],false))) (by omega) (λi hi s nx hI=>?hs) (λi hi s s' hI hg=>?hn) (λs nx hI=>?hf) ([0],[]) ⟨by simp,rfl,by simp⟩
  case hs=>
   simp only[jJ]
   have hm:=h _ (aM hi)
   rw[aj (by omega),bm hi,wrap64 (n:=(i:Int)+1) (by omega) (by omega)]
   simp only[ah,ae,RB _ hm]
   cases hmb:kB ms[i]with
   |false=>rfl
   |true=>
    have hl:=tN hmb
    have hU:=hI.1
    have hP:=hI.2.1
    have e0:idx ((0,s.1,0,false)::s.2:List Port) 0=some (0,s.1,0,false):=rfl
    simp only[ar,ai,ah,e0,ae]
    rw[E5 s.1 _ (by omega),E5 [0] _ (by simp;omega)]
    simp only[ae]
    rw[aK (by simp;omega)]
    rfl
  case hn=>
   cases hmb:kB ms[i]with
   |false=>rw[hmb]at hg;cases hg
   |true=>
    rw[hmb]at hg
    cases hg
    have:=tV ms[i].1.2.2 s.1
    have:=tN hmb
    exact hI.port hmb _ (by omega)
  case hf=>
   simp only[jJ]
   rw[af (by omega)]
   have hb:=vI hI (by omega)
   simp only[ai,zM _ hb.1 hb.2,ae]
   cases ee ((0,s.1,0,false)::s.2)<;>rfl
  rw[CZ]at this;refine Eq.trans this ?_;unfold ix;cases ms.all kB<;>rfl
def E6 (s:List Int×List Port)(m:aX):List Int×List Port:=(([0]++m.1.2.2).foldl qA s.1,s.2++[GA m])
theorem RF {s:List Int×List Port}{m:aX}(h:(0:Int)∈s.1):E6 s m=vS s m:=by unfold E6 vS;rw[List.foldl_append];simp only[cE,List.foldl_nil,NB h]
theorem Dg:∀(ms:List aX)(s:List Int×List Port),(0:Int)∈s.1→ms.foldl E6 s=ms.foldl vS s
 |[],_,_=>rfl
 |m::ms,s,h=>by rw[cE,cE,RF h];exact Dg ms _ (zv _ h)
theorem JZ (ms:List aX)(h:ms≠[]):ms.foldl E6 ([],[])=ms.foldl vS ([0],[]):=by cases ms with|nil=>exact absurd rfl h|cons m ms=>rw[cE,cE];have e:E6 ([],[]) m=vS ([0],[]) m:=rfl;rw[e];exact Dg ms _ (zv _ (by simp))
theorem N7 {R:Type}(k0:List Int→List Int→Int→Option R)(k:List Int→List Int→Option R)(hk:∀a b i,k0 a b i=k a b)(v2:List Port)(v3:Bool)(v4:List Port)(v18:List aX)(v19 v20:Int)(b7:aX)(vs all:List Int)(h:all.length+vs.length≤1000000000): aZ (gp k0 v2 v3 v4 v18 v19 v20 vs (vs.length:Int) b7) fuel (all,([]:List Int),0)=k (vs.foldl qA all) (vs.foldl qA []):=by
 have:=qs (T:=gp k0 v2 v3 v4 v18 v19 v20 vs (vs.length:Int) b7) vs (λ(s:List Int×List Int) i=>(s.1,s.2,(i:Int))) (λi s=>s.1.length≤all.length+i∧s.2.length≤i) (λv s=> .ok (qA s.1 v,qA s.2 v)) (λs=>k s.1 s.2) (by omega) (λi hi s nx hI=>?hs) (λi hi s s' hI hg=>?hn) (λs nx hI=>?hf) (all,[]) ⟨by simp,by simp⟩
 case hs=>
  simp only[gp]
  rw[aj (by omega),bm hi,wrap64 (n:=(i:Int)+1) (by omega) (by omega)]
  simp only[ah,ae,uq s.2 vs[i] (by omega),uq s.1 vs[i] (by omega),MI s.2 vs[i] (by omega),MI s.1 vs[i] (by omega),qA]
  cases hasB s.2 vs[i]<;>cases hasB s.1 vs[i]<;>rfl
 case hn=>
  cases hg
  have:=xz s.1 vs[i]
  have:=xz s.2 vs[i]
  have h1:=hI.1
  have h2:=hI.2
  exact⟨by simp only;omega,by simp only;omega⟩
 case hf=>
  simp only[gp]
  rw[af (by omega)]
  simp only[ai,hk]
 rw[yA]at this;refine Eq.trans this ?_;have e:∀(l:List Int)(s:List Int×List Int),l.foldl (λs v=>(qA s.1 v,qA s.2 v)) s=(l.foldl qA s.1,l.foldl qA s.2):=by intro l;induction l with|nil=>intro s;rfl|cons x l ih=>intro s;rw[cE,ih];rfl
 rw[e]
theorem Ab (ms:List aX)(h:∀m∈ms,m.1.2.2.length≤1000000000):nV ms=some (cx ms):=by
 unfold nV cx;simp only[eY,ae];cases hn:cM (ms.length:Int) 1 3 with
 |false=>rfl
 |true=>
  have hn':=br.1 hn;simp only[ar,ai,bg];have:=qs (T:=jB (λ(y14:List Port) (y15:List Int) (_:Int)=>aa (idx y14 0) λx17=>aa (idx y14 0) λx18=>aa (gT (List.set y14 (Int.toNat 0) (x18.1,y15,x18.2.2))) λr19=>cond (!r19) (some (([]:List Port),false)) (some (List.set y14 (Int.toNat 0) (x18.1,y15,x18.2.2),true))) (λ(y20:List Port) (y21:Bool) (_:List Port) (_:List Int) (_:Int)=>some (y20,y21)) ([]:List Port) false ms (ms.length:Int)) ms (λ(s:List Int×List Port) i=>((0,[],0,false)::s.2,s.1,(i:Int))) G7 (λm s=>bif kB m then .ok (E6 s m) else .error (some (([]:List Port),false))) (λs=>some (bif ee ((0,s.1,0,false)::s.2) then((0,s.1,0,false)::s.2,true) else([],false))) (by omega) (λi hi s nx hI=>?hs) (λi hi s s' hI hg=>?hn) (λs nx hI=>?hf) ([],[]) ⟨by simp,rfl,by simp⟩
  case hs=>
   simp only[jB]
   have hm:=h _ (aM hi)
   rw[aj (by omega),bm hi,wrap64 (n:=(i:Int)+1) (by omega) (by omega)]
   simp only[ah,ae,Qz _ hm]
   cases hmb:kB ms[i]with
   |false=>rfl
   |true=>
    have hl:=tN hmb
    have hU:=hI.1
    have hP:=hI.2.1
    simp only[ar,ai,ah]
    rw[aK (by simp;omega)]
    refine(N7 _ (λa b=>room (List.length ((0,[],0,false)::s.2:List Port)+List.length ([(ms[i].1.1,b,0,true)]:List Port)) (nx (((0,[],0,false)::s.2)++([(ms[i].1.1,b,0,true)]),a,(i:Int)+1))) (λ_ _ _=>rfl) _ _ _ _ _ _ _ ([0]++ms[i].1.2.2) s.1 (by simp only[ak,bR];omega)).trans ?_
    rw[aK (by simp;omega)]
    rfl
  case hn=>
   cases hmb:kB ms[i]with
   |false=>rw[hmb]at hg;cases hg
   |true=>
    rw[hmb]at hg
    cases hg
    have hu:=tV ([0]++ms[i].1.2.2) s.1
    have hl:=tN hmb
    simp only[ak,bR]at hu
    exact hI.port hmb _ (by omega)
  case hf=>
   simp only[jB]
   rw[af (by omega)]
   have hb:=vI hI (by omega)
   have e0:idx ((0,[],0,false)::s.2:List Port) 0=some (0,[],0,false):=rfl
   have e1:List.set ((0,[],0,false)::s.2:List Port) (Int.toNat 0) (0,s.1,0,false)=(0,s.1,0,false)::s.2:=rfl
   simp only[ai,e0,ae,e1,wo _ hb.1 hb.2]
   cases ee ((0,s.1,0,false)::s.2)<;>rfl
  rw[CZ,JZ ms (by rintro rfl;simp at hn')]at this;refine Eq.trans this ?_;unfold ix;cases ms.all kB<;>rfl
def xy (f:Filter)(p:ax):Bool:=eh f&&(((p.1==f.1)||((p.1==281474976710655)||f.2.1))&&((p.2.2.1== -1)||hasB f.2.2 p.2.2.1))
theorem H6 (f:Filter)(p:ax)(h:f.2.2.length≤1000000000):qN f p=some (xy f p):=by simp only[qN,uo f h,uq f.2.2 _ h,ae,xy];cases eh f<;>cases p.1==f.1<;>cases p.1==281474976710655<;>cases f.2.1<;>cases p.2.2.1== -1<;>rfl
def preB (a b n:Int):Bool:=Int.fdiv a (2^(min (Int.toNat (aw (32-n))) (IntKind.bits .i64)))==Int.fdiv b (2^(min (Int.toNat (aw (32-n))) (IntKind.bits .i64)))
theorem O5 {r:fY}(h:u5 r=true):0≤r.2.2.2.1∧r.2.2.2.1≤32:=by rw[←br];unfold u5 at h;simp only[jh,bV,ae,bh]at h;cases hp:cM r.2.2.2.1 0 32 with|true=>rfl|false=>rw[hp]at h;revert h;cases cM r.1 0 1000<;>cases r.2.1 !=0<;>cases r.2.1 !=6<;>cases r.2.1 !=17<;>cases cM r.2.2.1 0 4294967295<;>simp
def Um (r:fY)(p:ax):Bool:=preB r.2.2.1 p.2.2.2.2.2.2.1 r.2.2.2.1&&(cM p.2.2.2.2.2.2.2.2.2.2.1 r.2.2.2.2.1 r.2.2.2.2.2.1&&((r.2.2.2.2.2.2.1== -2)||(r.2.2.2.2.2.2.1==p.2.2.1)))
def zu (r:fY)(p:ax):Bool:=u5 r&&(dC p&&(((r.2.1==0)||(r.2.1==p.2.2.2.2.2.2.2.2.1))&&Um r p))
theorem Tl (a b n:Int)(h0:0≤n)(h1:n≤32):jE a b n=some (preB a b n):=by unfold jE preB;rw[aq (by rw[wrap64 (n:=32-n) (by omega) (by omega)];omega),aq (by rw[wrap64 (n:=32-n) (by omega) (by omega)];omega)]
theorem N9 (r:fY)(p:ax):lj r p=some (zu r p):=by
 unfold lj zu;rw[QA,ae];cases hr:u5 r with|false=>rfl|true=>?_
 have hp:=O5 hr;simp only[nz,Tl _ _ _ hp.1 hp.2,eY,ae,Um];cases dC p<;>cases r.2.1==0<;>cases r.2.1==p.2.2.2.2.2.2.2.2.1<;>cases preB r.2.2.1 p.2.2.2.2.2.2.1 r.2.2.2.1<;>cases cM p.2.2.2.2.2.2.2.2.2.2.1 r.2.2.2.2.1 r.2.2.2.2.2.1<;>cases r.2.2.2.2.2.2.1== -2<;>rfl
def Al:fY:=(0,0,0,0,0,0,0,0,0)
def rG (l:List fY)(p:ax):Nat→Int
 |0=> -1
 |i+1=>bif zu (l.getD i Al) p&&(decide (rG l p i<0)||decide ((l.getD i Al).1<(l.getD (rG l p i).toNat Al).1)) then(i:Int) else rG l p i
theorem Bu (l:List fY)(p:ax):∀i,rG l p i= -1∨∃n:Nat,rG l p i=(n:Int)∧n<i
 |0=> .inl rfl
 |i+1=>by rw[rG];cases zu (l.getD i Al) p&&(decide (rG l p i<0)||decide ((l.getD i Al).1<(l.getD (rG l p i).toNat Al).1))with|true=>exact .inr ⟨i,rfl,by omega⟩|false=>rcases Bu l p i with h|⟨n,h,hn⟩;exact .inl h;exact .inr ⟨n,h,by omega⟩
theorem NF {R:Type}(l:List fY)(p:ax)(i:Nat)(hi:i<l.length)(nx:Int×Int→Option R): (aa (cond (zu l[i] p) (cond (decide (rG l p i<0)) (some true) (aa (idx l (rG l p i)) λx4=>some (decide (l[i].1<x4.1)))) (some false)) λq5=>cond q5 (nx ((i:Int),((i+1:Nat):Int))) (nx (rG l p i,((i+1:Nat):Int))))=nx (rG l p (i+1),((i+1:Nat):Int)):=by
 rw[rG,bT hi];cases zu l[i] p with|false=>rfl|true=>?_
 rcases Bu l p i with h|⟨n,h,hn⟩;rw[h];rfl;have hl:n<l.length:=by omega
 rw[h,af (show¬(n:Int)<0 by omega),bm hl];simp only[ah,ai,ae,aH,bT hl,bg,cZ];cases decide (l[i].1<l[n].1)<;>rfl
def xN (l:List fY)(p:ax):Int:=bif si l then rG l p l.length else-1
theorem Qh (l:List fY)(p:ax)(h:xN l p≥0):∃n:Nat,xN l p=(n:Int)∧n<l.length:=by unfold xN at h⊢;cases hr:si l with|false=>rw[hr]at h;simp at h|true=>rw[hr]at h;simp only[ah]at h⊢;rcases Bu l p l.length with g|g;omega;exact g
theorem N4 (l:List fY)(p:ax)(h:l.length≤1000000000):pF l p=some (xN l p):=by
 unfold pF xN;rw[EB l h,ae];cases si l with|false=>rfl|true=>?_
 simp only[ar,ai,ah];refine dT (λi=>(rG l p i,(i:Int))) l.length (by omega) (λi nx hi=>?_) (λnx=>?_);simp only[ld];rw[aj (by omega),bm hi,wrap64 (n:=(i:Int)+1) (by omega) (by omega)];simp only[ah,ae,N9];exact NF l p i hi nx;simp only[ld];rw[af (by omega)];rfl
def pb (p:ax):Int×Int×Int×Int×Int:=(p.2.2.2.2.2.2.2.2.1,p.2.2.2.2.2.2.1,p.2.2.2.2.2.2.2.1,p.2.2.2.2.2.2.2.2.2.1,p.2.2.2.2.2.2.2.2.2.2.1)
theorem H9 (p:ax):qi p=some (pb p):=rfl
theorem Rx (p:ax):vQ p=some (pb p):=rfl
def acp:Slot:=(0,(0,0,0,0,0),0)
def GU (s:cj)(q:Int)(p:ax):Int:=
 bif !dF s q|| !dC p then-1 else
 bif decide (xN s.1 p≥0) then(bif (s.1.getD (xN s.1 p).toNat Al).2.2.2.2.2.2.2.1==1 then-1 else(s.1.getD (xN s.1 p).toNat Al).2.2.2.2.2.2.2.2) else
 bif decide (findF s.2.1 (pb p)≥0) then(s.2.1.getD (findF s.2.1 (pb p)).toNat acp).2.2 else GR s.2.2 q (pb p)
theorem Oc (s:cj)(q:Int)(p:ax)(h1:s.1.length≤1000000000)(h2:s.2.1.length≤1000000000)(h3:s.2.2.2.length≤1000000000):lq s q p=some (GU s q p):=by
 unfold lq GU;rw[ya s q h1 h2 h3,ae,nz,ae];cases dF s q with|false=>rfl|true=>?_
 cases dC p with|false=>rfl|true=>?_
 simp only[ar,ai,ae,c9,N4 s.1 p h1,H9,Ge s.2.1 _ h2,Ig s.2.2 q _ h3];cases hd:decide (xN s.1 p≥0)with
 |true=>obtain⟨n,hn,hl⟩:=Qh s.1 p (a6 hd);simp only[ah,hn,bm hl,ae,aH,bT hl];cases s.1[n].2.2.2.2.2.2.2.1==1<;>rfl
 |false=>
  simp only[ai];cases hd2:decide (findF s.2.1 (pb p)≥0)with
  |true=>obtain⟨n,hn,hl⟩:=Qg s.2.1 (pb p) (a6 hd2);simp only[ah,hn,bm hl,ae,aH,bT hl]
  |false=>rfl
def NA (a b:Int):Int:=(gX a b).getD 0
theorem Bl (a b:Int):gX a b=some (NA a b):=by
 unfold NA;have:∃x,gX a b=some x:=by simp only[gX,bV,ae];cases cM a 0 65535<;>cases cM b 0 65535<;>cases decide (aw (a+b)>65535)<;>exact⟨_,rfl⟩
 obtain⟨x,hx⟩:=this;rw[hx];rfl
theorem H7 (a b:Int):qO a b=some (NA a b):=Bl a b
theorem SS {a b:Int}(h:0≤a∧a≤65535)(k:0≤b∧b≤65535):0≤NA a b∧NA a b≤65535:=by have e:=Bl a b;simp only[gX,bV,ae,br.2 h,br.2 k,ar,ai]at e;rw[wrap64 (n:=a+b) (by omega) (by omega)]at e;by_cases hc:a+b>65535;rw[aj hc,ah,wrap64 (by omega) (by omega)]at e;rw[←bE e];omega;rw[af hc,ai]at e;rw[←bE e];omega
def sw (s:Bytes):Nat→Int
 |0=>0
 |j+1=>NA (sw s j) ((bZ s (2*j)*256+bZ s (2*j+1):Nat):Int)
theorem RJ (s:Bytes):∀j,0≤sw s j∧sw s j≤65535
 |0=>by simp[sw]
 |j+1=>by have b0:=cV s (2*j);have b1:=cV s (2*j+1);exact SS (RJ s j) (by omega)
theorem BB {s:Bytes}{i:Nat}(h:s.length≤i):bZ s i=0:=by unfold bZ;rw[List.getD_eq_getElem?_getD,List.getElem?_eq_none h];rfl
theorem TZ (s:Bytes)(h:s.length≤1000000000):pW s=some (sw s ((s.length+1)/2)):=by
 unfold pW;refine dT (λj=>(sw s j,((2*j:Nat):Int))) ((s.length+1)/2) (by omega) (λj nx hj=>?_) (λnx=>?_);have b0:=cV s (2*j);have b1:=cV s (2*j+1);obtain⟨x,hx,ex⟩:=jA (s:=s) (i:=2*j) (by omega);simp only[lM];rw[aj (by omega),ah,hx,ae,aq (by omega),wrap64 (n:=((2*j:Nat):Int)+1) (by omega) (by omega),wrap64 (n:=((2*j:Nat):Int)+2) (by omega) (by omega),ex,fL (by omega)];have e8:min (Int.toNat 8) (IntKind.bits .i64)=8:=rfl;have en:((2*j:Nat):Int)+2=((2*(j+1):Nat):Int):=by omega
 rw[e8,wrap64 (n:=((bZ s (2*j):Nat):Int)*2^8) (by omega) (by omega)];by_cases hc:2*j+1<s.length;obtain⟨y,hy,ey⟩:=jA (s:=s) (i:=2*j+1) hc;rw[aj (by omega),ah,show((2*j:Nat):Int)+1=((2*j+1:Nat):Int) by omega,hy,ae,ey,fL (n:=bZ s (2*j+1)) (by omega),wrap64 (by omega) (by omega),Bl,ae,en,show((bZ s (2*j):Nat):Int)*2^8+((bZ s (2*j+1):Nat):Int)=((bZ s (2*j)*256+bZ s (2*j+1):Nat):Int) by omega];rfl;have hz:=BB (s:=s) (i:=2*j+1) (by omega);rw[af (by omega),ai,Bl,ae,en,show((bZ s (2*j):Nat):Int)*2^8=((bZ s (2*j)*256+bZ s (2*j+1):Nat):Int) by rw[hz];omega];rfl;simp only[lM];rw[af (by omega)];rfl
theorem Tn (s:Bytes)(h:s.length≤1000000000):pM s=some (sw s ((s.length+1)/2)):=by
 unfold pM;refine dT (λj=>(sw s j,((2*j:Nat):Int))) ((s.length+1)/2) (by omega) (λj nx hj=>?_) (λnx=>?_);have b0:=cV s (2*j);have b1:=cV s (2*j+1);obtain⟨x,hx,ex⟩:=jA (s:=s) (i:=2*j) (by omega);simp only[lu];rw[aj (by omega),ah,hx,ae,aq (by omega),wrap64 (n:=((2*j:Nat):Int)+1) (by omega) (by omega),wrap64 (n:=((2*j:Nat):Int)+2) (by omega) (by omega),ex,fL (by omega)];have e8:min (Int.toNat 8) (IntKind.bits .i64)=8:=rfl;have en:((2*j:Nat):Int)+2=((2*(j+1):Nat):Int):=by omega
 rw[e8,show((bZ s (2*j):Nat):Int)*2^8=((2^8*bZ s (2*j):Nat):Int) by omega,fL (n:=2^8*bZ s (2*j)) (by omega)];by_cases hc:2*j+1<s.length;obtain⟨y,hy,ey⟩:=jA (s:=s) (i:=2*j+1) hc;rw[aj (by omega),ah,show((2*j:Nat):Int)+1=((2*j+1:Nat):Int) by omega,hy,ae,ey,fL (n:=bZ s (2*j+1)) (by omega),xo (bZ s (2*j)) 8 (bZ s (2*j+1)) (by omega) (by omega),H7,ae,en,show 2^8*bZ s (2*j)+bZ s (2*j+1)=bZ s (2*j)*256+bZ s (2*j+1) by omega];rfl;have hz:=BB (s:=s) (i:=2*j+1) (by omega);rw[af (by omega),ai,H7,ae,en,show((2^8*bZ s (2*j):Nat):Int)=((bZ s (2*j)*256+bZ s (2*j+1):Nat):Int) by rw[hz];omega];rfl;simp only[lu];rw[af (by omega)];rfl
def Kx (s:Bytes):Int:=65535-sw s ((s.length+1)/2)
theorem GN (s:Bytes)(h:s.length≤1000000000):ka s=some (Kx s):=by have:=RJ s ((s.length+1)/2);simp only[ka,TZ s h,ae];rw[wrap64 (by omega) (by omega)];rfl
theorem MK (s:Bytes)(h:s.length≤1000000000):mf s=some (Kx s):=by have:=RJ s ((s.length+1)/2);simp only[mf,Tn s h,ae];rw[wrap64 (by omega) (by omega)];rfl
def yw (s:Bytes)(a:Int)(p:Bytes):Bytes:=bif dn s a (p.length:Int) then(s.take a.toNat++p)++s.drop (a.toNat+p.length) else s
theorem Jv (s:Bytes)(a:Int)(p:Bytes):(yw s a p).length=s.length:=by unfold yw;cases hw:dn s a (p.length:Int)with|false=>rfl|true=>simp only[dn,aD]at hw;simp only[ah,ak,bn,bc];omega
theorem Jy (s:Bytes)(a:Int)(p:Bytes)(h:s.length≤1000000000)(hw:dn s a (p.length:Int)=true): (aa (sub s 0 a) λx2=>room (List.length x2+List.length p) (aa (sub s (aw (a+((List.length p:Int)))) ((List.length s:Int))) λx3=>room (List.length (x2++p)+List.length x3) (some ((x2++p)++x3))))=some (yw s a p):=by
 have hw':=hw;simp only[dn,aD]at hw';obtain⟨n,rfl⟩:=bd hw'.1;have e1:sub s 0 (n:Int)=some (s.take n):=by unfold sub;rw[au (by omega)];rfl
 have e2:sub s (((n+p.length:Nat):Int)) (s.length:Int)=some (s.drop (n+p.length)):=by unfold sub;rw[au (by omega),aH,aH,cS]
 rw[e1,wrap64 (by omega) (by omega),show(n:Int)+(p.length:Int)=((n+p.length:Nat):Int) by omega,e2,ae,aK (by simp only[bn];omega),ae,aK (by simp only[ak,bn,bc];omega)];unfold yw;rw[hw];rfl
theorem Bn (s:Bytes)(a:Int)(p:Bytes)(h:s.length≤1000000000):fA s a p=some (yw s a p):=by unfold fA;rw[vP s a _ h (by omega),ae];cases hw:dn s a (p.length:Int)with|false=>simp only[cp,ah,yw,hw,ai]|true=>exact Jy s a p h hw
theorem Gj (s:Bytes)(a:Int)(p:Bytes)(h:s.length≤1000000000)(hp:p.length≤1000000000):jX s a p=some (yw s a p):=by
 unfold jX;rw[wrap64 (n:=(s.length:Int)-(p.length:Int)) (by omega) (by omega)];cases hw:dn s a (p.length:Int)with
 |true=>have hw':=hw;simp only[dn,aD]at hw';rw[af (show¬a<0 by omega),af (show¬a>(s.length:Int)-(p.length:Int) by omega)];exact Jy s a p h hw
 |false=>
  have hp:yw s a p=s:=by unfold yw;rw[hw];rfl
  rw[hp];simp only[dn,dy]at hw;by_cases h0:a<0;rw[aj h0];rfl;rw[af h0,aj (show a>(s.length:Int)-(p.length:Int) by omega)];rfl
def XZ (x y:Int):Bytes:=bytesOf [x,y]
theorem Fo (x y:Int):(XZ x y).length=2:=rfl
def uB (a b k n:Int):Bool:=cM a 0 4294967295&&(cM b 0 4294967295&&(cM k 0 255&&cM n 0 65535))
def se (a b k n:Int):Bytes:=((dY a++dY b)++XZ 0 (ev k))++de n
theorem EV (a b k n:Int):(se a b k n).length≤12:=by have:=c7 a;have:=c7 b;have:=bG n;simp only[se,ak,Fo];omega
theorem xt (a b k n:Int):g8 a b k n=some (bif uB a b k n then(se a b k n,true) else([],false)):=by
 have:=c7 a;have:=c7 b;have:=bG n;unfold g8 uB;simp only[bV,ae,jt,kY];cases cM a 0 4294967295 with|false=>rfl|true=>?_
 cases cM b 0 4294967295 with|false=>rfl|true=>?_
 cases cM k 0 255 with|false=>rfl|true=>?_
 cases cM n 0 65535 with|false=>rfl|true=>?_
 simp only[ar,ai,dj,ah,ae];have e:(bytesOf [0,ev k]).length=2:=rfl;rw[aK (by omega),aK (by simp only[ak,e];omega),aK (by simp only[ak,e];omega)];rfl
theorem KU (a b k n:Int):nW a b k n=some (bif uB a b k n then(se a b k n,true) else([],false)):=xt a b k n
def bare (g:cD):Bytes:=bif g.1==6 then
    (((((de g.2.1++de g.2.2.1)++dY g.2.2.2.1)++dY g.2.2.2.2.1)++XZ 80 (ev g.2.2.2.2.2.1))++de g.2.2.2.2.2.2.1)++dY 0++g.2.2.2.2.2.2.2
 else(((de g.2.1++de g.2.2.1)++de (8+(g.2.2.2.2.2.2.2.length:Int)))++de 0)++g.2.2.2.2.2.2.2
theorem Fk (g:cD):(bare g).length≤20+g.2.2.2.2.2.2.2.length:=by have:=bG g.2.1;have:=bG g.2.2.1;have:=c7 g.2.2.2.1;have:=c7 g.2.2.2.2.1;have:=bG g.2.2.2.2.2.2.1;have:=c7 0;have:=bG 0;have:=bG (8+(g.2.2.2.2.2.2.2.length:Int));unfold bare;cases g.1==6<;>simp only[ah,ai,ak,Fo]<;>omega
theorem Pv:de 0++de 0=dY 0:=by rfl
theorem Qs (g:cD)(h:g.2.2.2.2.2.2.2.length≤1000000):lx g=some (bare g):=by have:=bG g.2.1;have:=bG g.2.2.1;have:=c7 g.2.2.2.1;have:=c7 g.2.2.2.2.1;have:=bG g.2.2.2.2.2.2.1;have:=bG 0;have:=bG (8+(g.2.2.2.2.2.2.2.length:Int));have e:∀x,(bytesOf [80,ev x]).length=2:=λ_=>rfl;unfold lx bare;rw[wrap64 (n:=8+(g.2.2.2.2.2.2.2.length:Int)) (by omega) (by omega)];simp only[pc,xi,ae];rw[aK (by omega)];cases g.1==6 with|true=>simp only[ah];rw[aK (by simp only[ak,e];omega),aK (by simp only[ak,e];omega),aK (by simp only[ak,e];omega),aK (by simp only[ak,e];omega),aK (by simp only[ak,e];omega),aK (by simp only[ak,e];omega),aK (by simp only[ak,e];omega)];rw[←Pv];simp only[XZ,aC]|false=>simp only[ai];rw[aK (by simp only[ak];omega),aK (by simp only[ak];omega),aK (by simp only[ak];omega)]
def Nk (a b:Int)(g:cD):Int:=bif (Kx (se a b g.1 ((bare g).length:Int)++bare g)==0)&&(g.1==17) then 65535 else Kx (se a b g.1 ((bare g).length:Int)++bare g)
def M9 (a b:Int)(g:cD):Bytes:=yw (bare g) (bif g.1==6 then 16 else 6) (de (Nk a b g))
def C3 (a b:Int)(g:cD):Bool:=mx g&&uB a b g.1 ((bare g).length:Int)
def tw (a b:Int)(g:cD):Bytes×Bool:=bif C3 a b g then(M9 a b g,true) else([],false)
theorem vK {g:cD}(h:mx g=true):g.2.2.2.2.2.2.2.length≤320:=by simp only[mx,ab,aB,dy]at h;omega
theorem vO (a b:Int)(g:cD):fJ a b g=some (tw a b g):=by
 unfold fJ tw C3;rw[Nf,ae];cases hg:mx g with|false=>rfl|true=>?_
 have hb:=vK hg;have hl:=Fk g;have hp:=EV a b g.1 ((bare g).length:Int);have:=bG g.2.1;have:=bG g.2.2.1;have:=c7 g.2.2.2.1;have:=c7 g.2.2.2.2.1;have:=bG g.2.2.2.2.2.2.1;have:=c7 0;have:=bG 0;have:=bG (8+(g.2.2.2.2.2.2.2.length:Int));have e:∀x,(bytesOf [80,ev x]).length=2:=λ_=>rfl;rw[wrap64 (n:=8+(g.2.2.2.2.2.2.2.length:Int)) (by omega) (by omega)];simp only[kY,jt,ae,ar,ai,bg];rw[aK (by omega)];cases h6:g.1==6 with
 |true=>
  have hbare:bare g=(((((de g.2.1++de g.2.2.1)++dY g.2.2.2.1)++dY g.2.2.2.2.1)++bytesOf [80,ev g.2.2.2.2.2.1])++de g.2.2.2.2.2.2.1)++dY 0++g.2.2.2.2.2.2.2:=by unfold bare;rw[h6];rfl
  simp only[ah];rw[aK (by simp only[ak,e];omega),aK (by simp only[ak,e];omega),aK (by simp only[ak,e];omega),aK (by simp only[ak,e];omega),aK (by simp only[ak,e];omega),aK (by simp only[ak,e];omega),←hbare,xt,ae];cases uB a b g.1 ((bare g).length:Int)with|false=>rfl|true=>?_
  simp only[ah,ar,ai];rw[aK (by omega),GN _ (by simp only[ak];omega)];simp only[ae,bh,Bn _ _ _ (show(bare g).length≤1000000000 by omega),M9,Nk,h6,ah,cF];cases (Kx (se a b g.1 ((bare g).length:Int)++bare g)==0)&&(g.1==17)<;>rfl
 |false=>
  have hbare:bare g=(((de g.2.1++de g.2.2.1)++de (8+(g.2.2.2.2.2.2.2.length:Int)))++de 0)++g.2.2.2.2.2.2.2:=by unfold bare;rw[h6];rfl
  simp only[ai];rw[aK (by simp only[ak];omega),aK (by simp only[ak];omega),aK (by simp only[ak];omega),←hbare,xt,ae];cases uB a b g.1 ((bare g).length:Int)with|false=>rfl|true=>?_
  simp only[ah,ar,ai];rw[aK (by omega),GN _ (by simp only[ak];omega)];simp only[ae,bh,Bn _ _ _ (show(bare g).length≤1000000000 by omega),M9,Nk,h6,ai,cF];cases (Kx (se a b g.1 ((bare g).length:Int)++bare g)==0)&&(g.1==17)<;>rfl
theorem vD (a b:Int)(g:cD):fI a b g=some (tw a b g):=by
 unfold fI tw C3;rw[MM,ae];cases hg:mx g with|false=>rfl|true=>?_
 have hb:=vK hg;have hl:=Fk g;have hp:=EV a b g.1 ((bare g).length:Int);have hsp:mn g.1=some (bif g.1==6 then 16 else 6):=by unfold mn;rw[bh]
 have w1:=bG 65535;have w2:=bG (Kx (se a b g.1 ((bare g).length:Int)++bare g));simp only[Qs g (by omega),KU,ae,ar,ai,bg];cases uB a b g.1 ((bare g).length:Int)with|false=>rfl|true=>?_
 simp only[ah,ar,ai];rw[aK (by omega),MK _ (by simp only[ak];omega)];simp only[ae,bh,hsp,pc,Gj _ _ _ (show(bare g).length≤1000000000 by omega) (show(de 65535).length≤1000000000 by omega),Gj _ _ _ (show(bare g).length≤1000000000 by omega) (show(de (Kx (se a b g.1 ((bare g).length:Int)++bare g))).length≤1000000000 by omega),M9,Nk,cF];rw[Bool.and_comm];cases (Kx (se a b g.1 ((bare g).length:Int)++bare g)==0)&&(g.1==17)<;>rfl
theorem TU (a b:Int)(g:cD):(tw a b g).1.length≤340:=by unfold tw;cases h:C3 a b g with|false=>exact bt _|true=>simp only[C3,ab]at h;have:=vK h.1;have:=Fk g;show(yw _ _ _).length≤340;rw[Jv];omega
def K0 (d:Ip):Bool:=cM d.1 0 255&&(cM d.2.2.1 0 255&&(cM d.2.2.2.1 0 255&&(cM d.2.1 0 65535&&(cM d.2.2.2.2.1 0 4294967295&&(cM d.2.2.2.2.2.1 0 4294967295&&decide ((d.2.2.2.2.2.2.length:Int)≤380))))))
theorem JP (d:Ip):wz d=some (K0 d):=by simp only[wz,bV,ae,bh,cF,K0]
theorem Qy (d:Ip):zm d=some (K0 d):=JP d
def Cy (d:Ip):Bytes:=((((((XZ 69 (ev d.1)++de (20+(d.2.2.2.2.2.2.length:Int)))++de d.2.1)++de 16384)++XZ (ev d.2.2.1) (ev d.2.2.2.1))++de 0)++dY d.2.2.2.2.1)++dY d.2.2.2.2.2.1
theorem Cz (d:Ip):(Cy d).length≤20:=by have:=bG (20+(d.2.2.2.2.2.2.length:Int));have:=bG d.2.1;have:=bG 16384;have:=bG 0;have:=c7 d.2.2.2.2.1;have:=c7 d.2.2.2.2.2.1;simp only[Cy,ak,Fo];omega
def Cx (d:Ip):Bytes:=yw (Cy d) 10 (de (Kx (Cy d)))
theorem LP (d:Ip):pT d=some (bif K0 d then(Cx d,true) else([],false)):=by
 unfold pT;rw[JP,ae];cases hd:K0 d with|false=>rfl|true=>?_
 have hn:(d.2.2.2.2.2.2.length:Int)≤380:=by simp only[K0,ab,aD]at hd;omega
 have:=bG (20+(d.2.2.2.2.2.2.length:Int));have:=bG d.2.1;have:=bG 16384;have:=bG 0;have:=c7 d.2.2.2.2.1;have:=c7 d.2.2.2.2.2.1;have hl:=Cz d;have e:∀x y,(bytesOf [x,y]).length=2:=λ_ _=>rfl;rw[wrap64 (n:=20+(d.2.2.2.2.2.2.length:Int)) (by omega) (by omega)];simp only[kY,jt,ae,ar,ai,ah];rw[aK (by simp only[ak,e];omega),aK (by simp only[ak,e];omega),aK (by simp only[ak,e];omega),aK (by simp only[ak,e];omega),aK (by simp only[ak,e];omega),aK (by simp only[ak,e];omega),aK (by simp only[ak,e];omega)];have hp:((((((bytesOf [69,ev d.1]++de (20+(d.2.2.2.2.2.2.length:Int)))++de d.2.1)++de 16384)++bytesOf [ev d.2.2.1,ev d.2.2.2.1])++de 0)++dY d.2.2.2.2.1)++dY d.2.2.2.2.2.1=Cy d:=rfl;rw[hp,GN _ (by omega),ae,Bn _ _ _ (by omega)];rfl
theorem KS (d:Ip):pJ d=some (bif K0 d then(Cx d,true) else([],false)):=by
 unfold pJ;rw[Qy,ae];cases hd:K0 d with|false=>rfl|true=>?_
 have hn:(d.2.2.2.2.2.2.length:Int)≤380:=by simp only[K0,ab,aD]at hd;omega
 have:=bG (20+(d.2.2.2.2.2.2.length:Int));have:=bG d.2.1;have:=bG 16384;have:=bG 0;have:=c7 d.2.2.2.2.1;have:=c7 d.2.2.2.2.2.1;have hl:=Cz d;have hw:=bG (Kx (Cy d));have e:∀x y,(bytesOf [x,y]).length=2:=λ_ _=>rfl;rw[wrap64 (n:=20+(d.2.2.2.2.2.2.length:Int)) (by omega) (by omega)];simp only[pc,xi,ae,ar,ai,ah];rw[aK (by simp only[ak,e];omega),aK (by simp only[ak,e];omega),aK (by simp only[ak,e];omega),aK (by simp only[ak,e];omega),aK (by simp only[ak,e];omega),aK (by simp only[ak,e];omega),aK (by simp only[ak,e];omega)];have hp:((((((bytesOf [69,ev d.1]++de (20+(d.2.2.2.2.2.2.length:Int)))++de d.2.1)++de 16384)++bytesOf [ev d.2.2.1,ev d.2.2.2.1])++de 0)++dY d.2.2.2.2.1)++dY d.2.2.2.2.2.1=Cy d:=rfl;rw[hp,MK _ (by omega),ae,Gj _ _ _ (by omega) (by omega)];rfl
def J8 (d:Ip):Bytes×Bool:=bif K0 d then(Cx d++d.2.2.2.2.2.2,true) else([],false)
theorem zo (d:Ip):(Cx d).length≤20:=by unfold Cx;rw[Jv];exact Cz d
theorem RA (d:Ip):ox d=some (J8 d):=by
 unfold ox J8;rw[LP,ae];cases hd:K0 d with|false=>rfl|true=>?_
 have hn:(d.2.2.2.2.2.2.length:Int)≤380:=by simp only[K0,ab,aD]at hd;omega
 have:=zo d;simp only[ah,ar,ai];rw[aK (by omega)]
theorem Qx (d:Ip):nO d=some (J8 d):=by
 unfold nO J8;rw[KS,ae];cases hd:K0 d with|false=>rfl|true=>?_
 have hn:(d.2.2.2.2.2.2.length:Int)≤380:=by simp only[K0,ab,aD]at hd;omega
 have:=zo d;simp only[ah,ar,ai];rw[aK (by omega)]
def ti (n:Nat):Bytes:=bytesOf (List.replicate n (0:Int))
theorem wF (n:Nat):(ti n).length=n:=by simp[ti,bytesOf]
theorem C7 (n:Nat)(h:n≤1000000000):dI (n:Int) 0=some (ti n):=by unfold dI;rw[au (by omega),aK (by rw[aH];omega),aH];refine dT (λi=>(List.replicate n (0:Int),(i:Int))) n (by omega) (λi nx hi=>?_) (λnx=>?_);simp only[jL];rw[aj (by omega),bm (by simpa using hi),wrap64 (by omega) (by omega)];simp only[ah,ae,aH,List.set_replicate_self];rfl;simp only[jL];rw[af (by omega)];rfl
theorem Tm (n:Nat)(h:n≤1000000000):sS 0 (n:Int)=some (ti n):=by unfold sS;rw[au (by omega),aK (by rw[aH];omega),aH];refine dT (λi=>(List.replicate n (0:Int),(i:Int))) n (by omega) (λi nx hi=>?_) (λnx=>?_);simp only[od];rw[aj (by simp;omega),bm (by simpa using hi),wrap64 (by omega) (by omega)];simp only[ah,ae,aH,List.set_replicate_self];rfl;simp only[od];rw[af (by simp)];rfl
def pad (s:Bytes):Bytes:=if s.length<46 then s++ti (46-s.length) else s
theorem M0 (s:Bytes):(pad s).length=max 46 s.length:=by unfold pad;split;simp only[ak,wF];omega;omega
theorem TY (s:Bytes)(h:s.length≤1000000000):qZ s=some (pad s):=by unfold qZ pad;by_cases hc:s.length<46;rw[aj (by omega),au hc,wrap64 (by omega) (by omega),show(46:Int)-(s.length:Int)=((46-s.length:Nat):Int) by omega,C7 _ (by omega)];simp only[ah,ae];rw[aK (by rw[wF];omega)];rw[af (by omega),aq hc];rfl
theorem Tk (s:Bytes)(h:s.length≤1000000000):qQ s=some (pad s):=by unfold qQ pad;by_cases hc:s.length<46;rw[af (by omega),au hc,wrap64 (by omega) (by omega),show(46:Int)-(s.length:Int)=((46-s.length:Nat):Int) by omega,Tm _ (by omega)];simp only[ai,ae];rw[aK (by rw[wF];omega)];rw[aj (by omega),aq hc];rfl
def tn (e:DD):Bool:=cM e.1 0 281474976710655&&(cM e.2.1 0 281474976710655&&(cM e.2.2.1 (-1) 4095&&(cM e.2.2.2.1 1536 65535&&((e.2.2.2.1 !=33024)&&cM (e.2.2.2.2.length:Int) 46 400))))
theorem zK (e:DD):pj e=some (tn e):=by simp only[pj,bV,ae,bh,cF,tn]
theorem Ez (e:DD):rT e=some (tn e):=zK e
def TB (a:Int):Bytes:=(fT a).getD []
theorem s5 (a:Int):fT a=some (TB a)∧(TB a).length≤6:=by
 have h:∃x,fT a=some x∧x.length≤6:=by unfold fT;rw[aq (by omega)];simp only[kY,jt,ae];have h1:=bG (Int.fdiv a (2^(min (Int.toNat 32) (IntKind.bits .i64))));have h2:=c7 (aw (BitVec.toNat (BitVec.ofInt (IntKind.bits .i64) a&&&BitVec.ofInt (IntKind.bits .i64) 4294967295)));rw[aK (by omega)];exact⟨_,rfl,by simp only[ak];omega⟩
 obtain⟨x,hx,hl⟩:=h;unfold TB;rw[hx];exact⟨rfl,hl⟩
theorem Tj (a:Int):pN a=some (TB a):=(s5 a).1
def HM (e:DD):Bytes:=(bif decide (e.2.2.1≥0) then(((TB e.1++TB e.2.1)++de 33024)++de e.2.2.1) else TB e.1++TB e.2.1)++de e.2.2.2.1++e.2.2.2.2
theorem Qd (e:DD):(HM e).length≤18+e.2.2.2.2.length:=by have:=(s5 e.1).2;have:=(s5 e.2.1).2;have:=bG 33024;have:=bG e.2.2.1;have:=bG e.2.2.2.1;unfold HM;cases decide (e.2.2.1≥0)<;>simp only[ah,ai,ak]<;>omega
def KE (e:DD):Bytes×Bool:=bif tn e then(HM e,true) else([],false)
theorem TX (e:DD):pP e=some (KE e):=by
 unfold pP KE;rw[zK,ae];cases he:tn e with|false=>rfl|true=>?_
 have hn:(e.2.2.2.2.length:Int)≤400:=by simp only[tn,ab,br]at he;omega
 have:=(s5 e.1).2;have:=(s5 e.2.1).2;have:=bG 33024;have:=bG e.2.2.1;have:=bG e.2.2.2.1;simp only[(s5 _).1,kY,ae,ar,ai,ah,HM];rw[aK (by omega)];cases decide (e.2.2.1≥0)with|true=>simp only[ah];rw[aK (by simp only[ak];omega),aK (by simp only[ak];omega),aK (by simp only[ak];omega),aK (by simp only[ak];omega)]|false=>simp only[ai];rw[aK (by simp only[ak];omega),aK (by simp only[ak];omega)]
theorem Ti (e:DD):pC e=some (KE e):=by
 unfold pC KE;rw[Ez,ae];cases he:tn e with|false=>rfl|true=>?_
 have hn:(e.2.2.2.2.length:Int)≤400:=by simp only[tn,ab,br]at he;omega
 have:=(s5 e.1).2;have:=(s5 e.2.1).2;have:=bG 33024;have:=bG e.2.2.1;have:=bG e.2.2.2.1;simp only[Tj,pc,ae,ar,ai,ah,HM];rw[aK (by omega)];cases decide (e.2.2.1≥0)with|true=>simp only[ah];rw[aK (by omega),aK (by simp only[ak];omega),aK (by simp only[ak];omega),aK (by simp only[ak];omega)];simp only[aC]|false=>simp only[ai];rw[aK (by simp only[ak];omega),aK (by simp only[ak];omega)]
def TT (p:ax):Bytes×Bool:=tw p.2.2.2.2.2.2.1 p.2.2.2.2.2.2.2.1 p.2.2.2.2.2.2.2.2
def SM (p:ax):Bytes×Bool:=J8 (p.2.2.2.1,p.2.2.2.2.1,p.2.2.2.2.2.1,p.2.2.2.2.2.2.2.2.1,p.2.2.2.2.2.2.1,p.2.2.2.2.2.2.2.1,(TT p).1)
def VJ (p:ax):Bytes×Bool:=KE (p.1,p.2.1,p.2.2.1,2048,pad (SM p).1)
def rR (p:ax):Bytes×Bool:=bif dC p then VJ p else([],false)
theorem Gk (p:ax):(SM p).1.length≤360:=by have h1:=TU p.2.2.2.2.2.2.1 p.2.2.2.2.2.2.2.1 p.2.2.2.2.2.2.2.2;unfold SM J8;cases K0 (p.2.2.2.1,p.2.2.2.2.1,p.2.2.2.2.2.1,p.2.2.2.2.2.2.2.2.1,p.2.2.2.2.2.2.1,p.2.2.2.2.2.2.2.1,(TT p).1)with|false=>exact bt _|true=>have h2:=zo (p.2.2.2.1,p.2.2.2.2.1,p.2.2.2.2.2.1,p.2.2.2.2.2.2.2.2.1,p.2.2.2.2.2.2.1,p.2.2.2.2.2.2.2.1,(TT p).1);have h3:(TT p).1.length≤340:=h1;simp only[ah,ak];omega
theorem Pe (p:ax):mS p=some (rR p):=by have hl:=Gk p;unfold mS rR;simp only[tT,vO,RA,ae];rw[show(J8 (p.2.2.2.1,p.2.2.2.2.1,p.2.2.2.2.2.1,p.2.2.2.2.2.2.2.2.1,p.2.2.2.2.2.2.1,p.2.2.2.2.2.2.2.1,(tw p.2.2.2.2.2.2.1 p.2.2.2.2.2.2.2.1 p.2.2.2.2.2.2.2.2).1))=SM p from rfl,TY _ (by omega),ae,TX];cases dC p<;>rfl
theorem N6 (p:ax):mL p=some (rR p):=by have hl:=Gk p;unfold mL rR;simp only[nz,vD,Qx,ae];rw[show(J8 (p.2.2.2.1,p.2.2.2.2.1,p.2.2.2.2.2.1,p.2.2.2.2.2.2.2.2.1,p.2.2.2.2.2.2.1,p.2.2.2.2.2.2.2.1,(tw p.2.2.2.2.2.2.1 p.2.2.2.2.2.2.2.1 p.2.2.2.2.2.2.2.2).1))=SM p from rfl,Tk _ (by omega),ae,Ti];cases dC p<;>rfl
theorem N0 {p:ax}(h:dC p=true):(rR p).2=true:=by
 have hl:=Gk p;have hh:lW p=true:=by simp only[dC,ab]at h;exact h.1
 have hp:=M0 (SM p).1;unfold rR VJ KE;rw[h,ah];have:tn (p.1,p.2.1,p.2.2.1,2048,pad (SM p).1)=true:=by simp only[lW,ab]at hh;simp only[tn,ab];refine⟨hh.1,hh.2.1,hh.2.2.1,by decide,by decide,br.2 ?_⟩;omega
 rw[this];rfl
theorem zi (p:ax):(rR p).1.length≤378:=by have hl:=Gk p;have hp:=M0 (SM p).1;unfold rR VJ KE;cases dC p with|false=>exact bt _|true=>cases tn (p.1,p.2.1,p.2.2.1,2048,pad (SM p).1)with|false=>exact bt _|true=>have:=Qd (p.1,p.2.1,p.2.2.1,2048,pad (SM p).1);simp only[ah]at this⊢;omega
def fcs (c:Int):Bytes:=bytesOf [ev c,ev (Int.fdiv c (2^(min (Int.toNat 8) (IntKind.bits .i64)))),ev (Int.fdiv c (2^(min (Int.toNat 16) (IntKind.bits .i64)))),ev (Int.fdiv c (2^(min (Int.toNat 24) (IntKind.bits .i64))))]
def th (s:Bytes):Bytes:=s++fcs (BE s)
theorem Tc (c:Int):(fcs c).length=4:=rfl
theorem Nd (s:Bytes)(h:s.length≤1000000000):oN s=some (th s):=by unfold oN;rw[Nc s h,ae,aq (by omega),aq (by omega),aq (by omega)];exact aK (by show s.length+4≤_;omega)
theorem ML (s:Bytes)(h:s.length≤1000000000):nZ s=some (th s):=by unfold nZ;rw[Th s h,ae,aq (by omega),aq (by omega),aq (by omega)];exact aK (by show s.length+4≤_;omega)
def eS (p:ax):Bool:=dC p&&decide ((p.2.2.2.2.2.2.2.2.2.2.2.2.2.2.2.length:Int)≤128)
theorem Db (p:ax):mD p=some (eS p):=by simp only[mD,tT,ae,bh,cF,eS]
theorem xh (p:ax):jW p=some (eS p):=by simp only[jW,nz,ae,bh,cF,eS]
def uj (p:ax):Bytes×Bool:=bif eS p then(th (rR p).1,true) else([],false)
theorem Pd (p:ax):mR p=some (uj p):=by have hl:=zi p;simp only[mR,Db,Pe,Nd _ (show(rR p).1.length≤1000000000 by omega),ae,uj];cases eS p<;>rfl
theorem N5 (p:ax):mK p=some (uj p):=by
 have hl:=zi p;simp only[mK,xh,N6,ML _ (show(rR p).1.length≤1000000000 by omega),ae,uj];cases hp:eS p with
 |false=>rfl
 |true=>
  have:dC p=true:=by simp only[eS,ab]at hp;exact hp.1
  rw[N0 this];rfl
theorem zh (p:ax):(uj p).1.length≤382:=by have hl:=zi p;unfold uj;cases eS p with|false=>exact bt _|true=>simp only[ah,th,ak,Tc];omega
theorem L2 {p:ax}(h:dC p=true):p.2.2.2.2.2.2.2.2.2.2.2.2.2.2.2.length≤320:=by
 have hh:lW p=true:=by simp only[dC,ab]at h;exact h.1
 exact vK (vA hh)
theorem xQ {s:Bytes}{a:Int}(h0:0≤a)(h:a+2≤(s.length:Int)):0≤cy s a∧cy s a≤65535:=by have h1:=cV s a.toNat;have h2:=cV s (a.toNat+1);unfold cy dn;rw[aj ⟨h0,h⟩];simp only[ah];omega
theorem xR {s:Bytes}{a:Int}(h0:0≤a)(h:a+4≤(s.length:Int)):0≤dK s a∧dK s a≤4294967295:=by have h1:=cV s a.toNat;have h2:=cV s (a.toNat+1);have h3:=cV s (a.toNat+2);have h4:=cV s (a.toNat+3);unfold dK dn;rw[aj ⟨h0,h⟩];simp only[ah];omega
theorem QL {x y:Int}(hx:0≤x∧x≤65535)(hy:0≤y∧y≤4294967295):aw (BitVec.toNat (BitVec.ofInt (IntKind.bits .i64) (aw (x*2^(min (Int.toNat 32) (IntKind.bits .i64))))|||BitVec.ofInt (IntKind.bits .i64) y))=x*4294967296+y:=by have e:(2:Int)^(min (Int.toNat 32) (IntKind.bits .i64))=4294967296:=rfl;obtain⟨x,rfl⟩:=bd hx.1;obtain⟨y,rfl⟩:=bd hy.1;rw[e,wrap64 (n:=(x:Int)*4294967296) (by omega) (by omega),show(x:Int)*4294967296=((2^32*x:Nat):Int) by omega,xo x 32 y (by omega) (by omega)];omega
theorem MS {x y:Int}(hx:0≤x∧x≤65535)(hy:0≤y∧y≤4294967295):aw (aw (x*2^(min (Int.toNat 32) (IntKind.bits .i64)))+y)=x*4294967296+y:=by have e:(2:Int)^(min (Int.toNat 32) (IntKind.bits .i64))=4294967296:=rfl;rw[e,wrap64 (n:=x*4294967296) (by omega) (by omega),wrap64 (by omega) (by omega)]
theorem Bo {α:Type}{l:List α}{n:Int}(h0:0≤n)(h1:n≤(l.length:Int)):sub l 0 n=some (l.take n.toNat):=by unfold sub;rw[au (by omega)];simp
theorem rr {α:Type}{l:List α}(k:Nat)(h:k≤l.length){a:Int}(ha:a=(k:Int)):sub l a (l.length:Int)=some (l.drop k):=by unfold sub;rw[au (by omega)];subst ha;simp
theorem Nj {α:Type}{l:List α}(k:Nat){a n:Int}(ha:a=(k:Int))(h0:a≤n)(h1:n≤(l.length:Int)):sub l a n=some ((l.take n.toNat).drop k):=by unfold sub;rw[au (by omega)];subst ha;simp
def ub (s:Bytes):Bytes×Bool:=bif decide ((s.length:Int)<4) then([],false) else bif th (s.take ((s.length:Int)-4).toNat)==s then(s.take ((s.length:Int)-4).toNat,true) else([],false)
theorem LN (s:Bytes)(h:s.length≤1000000000):pQ s=some (ub s):=by unfold pQ ub;rw[wrap64 (n:=(s.length:Int)-4) (by omega) (by omega)];by_cases h4:(s.length:Int)<4;rw[aj h4];rfl;rw[af h4,Bo (by omega) (by omega)];simp only[ai,ae,Nd _ (show(s.take ((s.length:Int)-4).toNat).length≤1000000000 by rw[bn];omega)];cases th (s.take ((s.length:Int)-4).toNat)==s<;>rfl
theorem KQ (s:Bytes)(h:s.length≤1000000000):pD s=some (ub s):=by unfold pD ub;rw[wrap64 (n:=(s.length:Int)-4) (by omega) (by omega)];by_cases h4:(s.length:Int)<4;rw[aj (show(s.length:Int)-4<0 by omega),aj h4];rfl;rw[af (show¬(s.length:Int)-4<0 by omega),af h4,Bo (by omega) (by omega)];simp only[ai,ae,ML _ (show(s.take ((s.length:Int)-4).toNat).length≤1000000000 by rw[bn];omega)];cases th (s.take ((s.length:Int)-4).toNat)==s<;>rfl
def Qc:DD:=(0,0,0,0,([]:Bytes))
def MR (s:Bytes)(a:Int):Int:=cy s a*4294967296+dK s (a+2)
def HK (s:Bytes):DD:=(MR s 0,MR s 6,cy s 14,cy s 16,s.drop 18)
def wN (s:Bytes):DD:=(MR s 0,MR s 6, -1,cy s 12,s.drop 14)
def ot (s:Bytes):DD×Bool:=bif decide ((s.length:Int)<18) then(Qc,false) else
 bif cy s 12==33024 then(bif tn (HK s) then(HK s,true) else(Qc,false)) else bif tn (wN s) then(wN s,true) else(Qc,false)
theorem GP (s:Bytes)(h:s.length≤1000000000):pU s=some (ot s):=by unfold pU ot;by_cases h8:(s.length:Int)<18;rw[aj h8];rfl;rw[af h8];simp only[ai,tS s _ h,wy s _ h,ae];rw[aq (by omega),aq (by omega),rr (l:=s) 14 (by omega) (show(14:Int)=((14:Nat):Int) from rfl),ae,rr (l:=s) 18 (by omega) (show(18:Int)=((18:Nat):Int) from rfl)];rw[MS (xQ (s:=s) (a:=0) (by omega) (by omega)) (xR (s:=s) (a:=2) (by omega) (by omega)),MS (xQ (s:=s) (a:=6) (by omega) (by omega)) (xR (s:=s) (a:=8) (by omega) (by omega))];simp only[ae,zK];rw[show((cy s 0*4294967296+dK s 2,cy s 6*4294967296+dK s 8,cy s 14,cy s 16,s.drop 18):DD)=HK s from rfl,show((cy s 0*4294967296+dK s 2,cy s 6*4294967296+dK s 8, -1,cy s 12,s.drop 14):DD)=wN s from rfl];cases cy s 12==33024<;>cases tn (HK s)<;>cases tn (wN s)<;>rfl
theorem Gg (s:Bytes)(h:s.length≤1000000000):pK s=some (ot s):=by
 unfold pK ot;by_cases h4:(s.length:Int)<14;rw[aj h4,aj (show(s.length:Int)<18 by omega)];rfl;rw[af h4];simp only[ai,zj s _ h,zk s _ h,ae];rw[aq (by omega),aq (by omega),rr (l:=s) 14 (by omega) (show(14:Int)=((14:Nat):Int) from rfl),ae];rw[QL (xQ (s:=s) (a:=0) (by omega) (by omega)) (xR (s:=s) (a:=2) (by omega) (by omega)),QL (xQ (s:=s) (a:=6) (by omega) (by omega)) (xR (s:=s) (a:=8) (by omega) (by omega))];simp only[ae,Ez];rw[show((cy s 0*4294967296+dK s 2,cy s 6*4294967296+dK s 8, -1,cy s 12,s.drop 14):DD)=wN s from rfl];by_cases h8:(s.length:Int)<18;have hB:tn (wN s)=false:=by
  unfold tn wN;have:cM ((s.drop 14).length:Int) 46 400=false:=by rw[Bool.eq_false_iff,ne_eq,br,bc];omega
  simp only[this,eG]
 rw[aj h8,af (show¬(s.length:Int)≥18 by omega),hB];cases cy s 12==33024<;>rfl;rw[af h8,aj (show(s.length:Int)≥18 by omega),rr (l:=s) 18 (by omega) (show(18:Int)=((18:Nat):Int) from rfl)];simp only[ae];rw[show((cy s 0*4294967296+dK s 2,cy s 6*4294967296+dK s 8,cy s 14,cy s 16,s.drop 18):DD)=HK s from rfl];cases cy s 12==33024<;>cases tn (HK s)<;>cases tn (wN s)<;>rfl
def ip0:Ip:=(0,0,0,0,0,0,([]:Bytes))
def yf (s:Bytes):Ip:=((bZ s 1:Int),cy s 4,(bZ s 8:Int),(bZ s 9:Int),dK s 12,dK s 16,(s.take (cy s 2).toNat).drop 20)
def qV (s:Bytes):Ip×Bool:=bif decide ((s.length:Int)<20)||(decide (cy s 2<20)||decide (cy s 2>(s.length:Int))) then(ip0,false) else
 bif (J8 (yf s)).2&&((J8 (yf s)).1==s.take (cy s 2).toNat) then(yf s,true) else(ip0,false)
theorem JS (s:Bytes)(h:s.length≤1000000000):ra s=some (qV s):=by
 unfold ra qV;simp only[tS s _ h,wy s _ h,ae];by_cases h1:(s.length:Int)<20;rw[aj h1];rfl;by_cases h2:cy s 2<20;rw[af h1,aj h2];rfl;by_cases h3:cy s 2>(s.length:Int);rw[af h1,af h2,aj h3];rfl;rw[af h1,af h2,af h3];have b1:=ko (s[1]'(by omega));have b8:=ko (s[8]'(by omega));have b9:=ko (s[9]'(by omega));have i1:idx s 1=some (s[1]'(by omega)):=bm (i:=1) (by omega);have i8:idx s 8=some (s[8]'(by omega)):=bm (i:=8) (by omega);have i9:idx s 9=some (s[9]'(by omega)):=bm (i:=9) (by omega);simp only[ai,ae,c9,i1,i8,i9];rw[Nj (l:=s) 20 (show(20:Int)=((20:Nat):Int) from rfl) (by omega) (by omega),Bo (by omega) (by omega),fL (n:=(s[1]'(by omega)).toNat) (by omega),fL (n:=(s[8]'(by omega)).toNat) (by omega),fL (n:=(s[9]'(by omega)).toNat) (by omega)];have e:(((s[1]'(by omega)).toNat:Int),cy s 4,((s[8]'(by omega)).toNat:Int),((s[9]'(by omega)).toNat:Int),dK s 12,dK s 16,(s.take (cy s 2).toNat).drop 20)=yf s:=by simp only[yf,bZ,bT (show 1<s.length by omega),bT (show 8<s.length by omega),bT (show 9<s.length by omega)]
 simp only[ae,e,RA];cases (J8 (yf s)).2<;>cases (J8 (yf s)).1==s.take (cy s 2).toNat<;>rfl
theorem Ia (s:Bytes)(h:s.length≤1000000000):qR s=some (qV s):=by
 unfold qR qV;simp only[zj s _ h,zk s _ h,ae];by_cases h1:(s.length:Int)<20;rw[aj h1];rfl;by_cases h2:cy s 2<20;rw[af h1,aj h2];rfl;by_cases h3:cy s 2>(s.length:Int);rw[af h1,af h2,aj h3];rfl;rw[af h1,af h2,af h3];have b1:=ko (s[1]'(by omega));have b8:=ko (s[8]'(by omega));have b9:=ko (s[9]'(by omega));have i1:idx s 1=some (s[1]'(by omega)):=bm (i:=1) (by omega);have i8:idx s 8=some (s[8]'(by omega)):=bm (i:=8) (by omega);have i9:idx s 9=some (s[9]'(by omega)):=bm (i:=9) (by omega);simp only[ai,ae,c9,i1,i8,i9];rw[Nj (l:=s) 20 (show(20:Int)=((20:Nat):Int) from rfl) (by omega) (by omega),Bo (by omega) (by omega),fL (n:=(s[1]'(by omega)).toNat) (by omega),fL (n:=(s[8]'(by omega)).toNat) (by omega),fL (n:=(s[9]'(by omega)).toNat) (by omega)];have e:(((s[1]'(by omega)).toNat:Int),cy s 4,((s[8]'(by omega)).toNat:Int),((s[9]'(by omega)).toNat:Int),dK s 12,dK s 16,(s.take (cy s 2).toNat).drop 20)=yf s:=by simp only[yf,bZ,bT (show 1<s.length by omega),bT (show 8<s.length by omega),bT (show 9<s.length by omega)]
 simp only[ae,e,Qx];cases (J8 (yf s)).2<;>cases (J8 (yf s)).1==s.take (cy s 2).toNat<;>rfl
def XN:cD:=(0,0,0,0,0,0,0,([]:Bytes))
def C4 (k:Int)(s:Bytes):cD:=(k,cy s 0,cy s 2,dK s 4,dK s 8,(bZ s 13:Int),cy s 14,s.drop 20)
def GK (k:Int)(s:Bytes):cD:=(k,cy s 0,cy s 2,0,0,0,0,s.drop 8)
def sc (a b k:Int)(s:Bytes):cD×Bool:=
 bif (k==6)&&decide ((s.length:Int)≥20) then(bif (tw a b (C4 k s)).2&&((tw a b (C4 k s)).1==s) then(C4 k s,true) else(XN,false)) else
 bif (k==17)&&decide ((s.length:Int)≥8) then(bif (tw a b (GK k s)).2&&((tw a b (GK k s)).1==s) then(GK k s,true) else(XN,false)) else(XN,false)
theorem GQ (a b k:Int)(s:Bytes)(h:s.length≤1000000000):kG a b k s=some (sc a b k s):=by
 unfold kG sc;simp only[tS s _ h,wy s _ h,ae];rw[show(aa (cond (k==6) (some (decide ((s.length:Int)≥20))) (some false)):(Bool→Option (cD×Bool))→Option (cD×Bool))=λK=>K ((k==6)&&decide ((s.length:Int)≥20)) from by funext K;cases k==6<;>rfl];rw[show(aa (cond (k==17) (some (decide ((s.length:Int)≥8))) (some false)):(Bool→Option (cD×Bool))→Option (cD×Bool))=λK=>K ((k==17)&&decide ((s.length:Int)≥8)) from by funext K;cases k==17<;>rfl];simp only;cases h1:(k==6)&&decide ((s.length:Int)≥20)with
 |true=>
  simp only[ab,aD]at h1;have bb:=ko (s[13]'(by omega));have i:idx s 13=some (s[13]'(by omega)):=bm (i:=13) (by omega);have e:(k,cy s 0,cy s 2,dK s 4,dK s 8,((s[13]'(by omega)).toNat:Int),cy s 14,s.drop 20)=C4 k s:=by simp only[C4,bZ,bT (show 13<s.length by omega)]
  simp only[ah,i,ae];rw[rr (l:=s) 20 (by omega) (show(20:Int)=((20:Nat):Int) from rfl),fL (n:=(s[13]'(by omega)).toNat) (by omega)];simp only[ae,e,vO];cases (tw a b (C4 k s)).2<;>cases (tw a b (C4 k s)).1==s<;>rfl
 |false=>simp only[ai];cases h2:(k==17)&&decide ((s.length:Int)≥8)with|false=>rfl|true=>simp only[ab,aD]at h2;rw[rr (l:=s) 8 (by omega) (show(8:Int)=((8:Nat):Int) from rfl)];simp only[ah,ae,show((k,cy s 0,cy s 2,0,0,0,0,s.drop 8):cD)=GK k s from rfl,vO];cases (tw a b (GK k s)).2<;>cases (tw a b (GK k s)).1==s<;>rfl
theorem Gi (a b k:Int)(s:Bytes)(h:s.length≤1000000000):kt a b k s=some (sc a b k s):=by
 unfold kt sc;simp only[zj s _ h,zk s _ h,ae];rw[show(aa (cond (k==6) (some (decide ((s.length:Int)≥20))) (some false)):(Bool→Option (cD×Bool))→Option (cD×Bool))=λK=>K ((k==6)&&decide ((s.length:Int)≥20)) from by funext K;cases k==6<;>rfl];rw[show(aa (cond (k==17) (some (decide ((s.length:Int)≥8))) (some false)):(Bool→Option (cD×Bool))→Option (cD×Bool))=λK=>K ((k==17)&&decide ((s.length:Int)≥8)) from by funext K;cases k==17<;>rfl];simp only;cases h1:(k==6)&&decide ((s.length:Int)≥20)with
 |true=>
  simp only[ab,aD]at h1;have bb:=ko (s[13]'(by omega));have i:idx s 13=some (s[13]'(by omega)):=bm (i:=13) (by omega);have e:(k,cy s 0,cy s 2,dK s 4,dK s 8,((s[13]'(by omega)).toNat:Int),cy s 14,s.drop 20)=C4 k s:=by simp only[C4,bZ,bT (show 13<s.length by omega)]
  simp only[ah,i,ae];rw[rr (l:=s) 20 (by omega) (show(20:Int)=((20:Nat):Int) from rfl),fL (n:=(s[13]'(by omega)).toNat) (by omega)];simp only[ae,e,vD];cases (tw a b (C4 k s)).2<;>cases (tw a b (C4 k s)).1==s<;>rfl
 |false=>simp only[ai];cases h2:(k==17)&&decide ((s.length:Int)≥8)with|false=>rfl|true=>simp only[ab,aD]at h2;rw[rr (l:=s) 8 (by omega) (show(8:Int)=((8:Nat):Int) from rfl)];simp only[ah,ae,show((k,cy s 0,cy s 2,0,0,0,0,s.drop 8):cD)=GK k s from rfl,vD];cases (tw a b (GK k s)).2<;>cases (tw a b (GK k s)).1==s<;>rfl
def Uv:ax:=(0,0,0,0,0,0,0,0,0,0,0,0,0,0,0,([]:Bytes))
def yy (s:Bytes):ax×Int:=
 let e:=ot s
 bif !e.2||(e.1.2.2.2.1 !=2048) then(Uv,2) else
 let i:=qV e.1.2.2.2.2
 bif !i.2 then(Uv,3) else
 let g:=sc i.1.2.2.2.2.1 i.1.2.2.2.2.2.1 i.1.2.2.2.1 i.1.2.2.2.2.2.2
 bif !g.2 then(Uv,4) else
 bif !dC (e.1.1,e.1.2.1,e.1.2.2.1,i.1.1,i.1.2.1,i.1.2.2.1,i.1.2.2.2.2.1,i.1.2.2.2.2.2.1,g.1) then(Uv,5) else
 ((e.1.1,e.1.2.1,e.1.2.2.1,i.1.1,i.1.2.1,i.1.2.2.1,i.1.2.2.2.2.1,i.1.2.2.2.2.2.1,g.1),0)
theorem yr (s:Bytes):(ot s).1.2.2.2.2.length≤s.length:=by
 unfold ot;cases decide ((s.length:Int)<18)with|true=>simp[Qc]|false=>?_
 cases cy s 12==33024<;>cases tn (HK s)<;>cases tn (wN s)<;>simp[Qc,HK,wN]
theorem Aj (s:Bytes):(qV s).1.2.2.2.2.2.2.length≤s.length:=by
 unfold qV;cases decide ((s.length:Int)<20)||(decide (cy s 2<20)||decide (cy s 2>(s.length:Int)))with|true=>simp[ip0]|false=>?_
 cases (J8 (yf s)).2&&((J8 (yf s)).1==s.take (cy s 2).toNat)with|false=>simp[ip0]|true=>simp[yf];omega
theorem Ph (s:Bytes)(h:s.length≤1000000000):oL s=some (yy s):=by
 have h1:=yr s;unfold oL yy;rw[GP s h,ae];generalize ot s=e at h1⊢;have h2:=Aj e.1.2.2.2.2;simp only;cases e.2 with|false=>rfl|true=>?_
 cases e.1.2.2.2.1 !=2048 with|true=>rfl|false=>?_
 simp only[ar,ai,ae,c9,JS _ (show e.1.2.2.2.2.length≤1000000000 by omega)];generalize qV e.1.2.2.2.2=i at h2⊢;cases i.2 with|false=>rfl|true=>?_
 simp only[ar,ai,ae,GQ _ _ _ _ (show i.1.2.2.2.2.2.2.length≤1000000000 by omega)];generalize sc i.1.2.2.2.2.1 i.1.2.2.2.2.2.1 i.1.2.2.2.1 i.1.2.2.2.2.2.2=g;cases g.2 with|false=>rfl|true=>?_
 simp only[ar,ai,ae,tT];cases dC (e.1.1,e.1.2.1,e.1.2.2.1,i.1.1,i.1.2.1,i.1.2.2.1,i.1.2.2.2.2.1,i.1.2.2.2.2.2.1,g.1)<;>rfl
theorem Ob (s:Bytes)(h:s.length≤1000000000):nY s=some (yy s):=by
 have h1:=yr s;unfold nY yy;rw[Gg s h,ae];generalize ot s=e at h1⊢;have h2:=Aj e.1.2.2.2.2;simp only;cases e.2 with|false=>rfl|true=>?_
 cases e.1.2.2.2.1 !=2048 with|true=>rfl|false=>?_
 simp only[ar,ai,ae,c9,Ia _ (show e.1.2.2.2.2.length≤1000000000 by omega)];generalize qV e.1.2.2.2.2=i at h2⊢;cases i.2 with|false=>rfl|true=>?_
 simp only[ar,ai,ae,Gi _ _ _ _ (show i.1.2.2.2.2.2.2.length≤1000000000 by omega)];generalize sc i.1.2.2.2.2.1 i.1.2.2.2.2.2.1 i.1.2.2.2.1 i.1.2.2.2.2.2.2=g;cases g.2 with|false=>rfl|true=>?_
 simp only[ar,ai,ae,nz];cases dC (e.1.1,e.1.2.1,e.1.2.2.1,i.1.1,i.1.2.1,i.1.2.2.1,i.1.2.2.2.2.1,i.1.2.2.2.2.2.1,g.1)<;>rfl
def u4 (s:Bytes):ax×Int:=
 let c:=ub s
 bif !c.2 then(Uv,1) else
 let r:=yy c.1
 bif r.2 !=0 then(Uv,r.2) else
 bif !eS r.1 then(Uv,5) else(r.1,0)
theorem BD (s:Bytes):(ub s).1.length≤s.length:=by
 unfold ub;cases decide ((s.length:Int)<4)with|true=>simp|false=>?_
 cases th (s.take ((s.length:Int)-4).toNat)==s with|false=>simp|true=>simp;omega
theorem E1 (s:Bytes)(h:s.length≤1000000000):kZ s=some (u4 s):=by
 have h1:=BD s;unfold kZ u4;rw[LN s h,ae];generalize ub s=c at h1⊢;simp only;cases c.2 with|false=>rfl|true=>?_
 simp only[ar,ai,ae,Ph _ (show c.1.length≤1000000000 by omega)];generalize yy c.1=r;cases r.2 !=0 with|true=>rfl|false=>?_
 simp only[ai,ae,Db];cases eS r.1<;>rfl
theorem Oa (s:Bytes)(h:s.length≤1000000000):nX s=some (u4 s):=by
 have h1:=BD s;unfold nX u4;rw[KQ s h,ae];generalize ub s=c at h1⊢;simp only;cases c.2 with|false=>rfl|true=>?_
 simp only[ar,ai,ae,Ob _ (show c.1.length≤1000000000 by omega)];generalize yy c.1=r;cases r.2 !=0 with|true=>rfl|false=>?_
 simp only[ai,ae,xh];cases eS r.1<;>rfl
theorem ux (a:List Bytes)(h:a.length≤1073741824):hH a=some a:=by simp only[hH];rw[aK (by simpa using h)];rfl
def zU {α:Type}(a b:α):Bool:= @decide (a=b) (Classical.propDecidable _)
theorem uh {α:Type}{a b:α}:zU a b=true↔a=b:=by unfold zU;exact @decide_eq_true_iff _ (Classical.propDecidable _)
theorem B8 {α:Type}{a b:α}{x:Bool}(h:x=true↔a=b):x=zU a b:=by rw[bO,uh];exact h
theorem acy {α:Type}[BEq α][LawfulBEq α](a b:α):(a==b)=zU a b:=B8 aL
theorem Qa {α β:Type}(a b:α)(c d:β):zU (a,c) (b,d)=(zU a b&&zU c d):=by rw[bO];simp only[ab,uh,Prod.mk.injEq]
theorem HL {α β:Type}(a b:α×β):zU a b=(zU a.1 b.1&&zU a.2 b.2):=Qa a.1 b.1 a.2 b.2
theorem B9 {α:Type}{a b:α}(h:a=b):zU a b=true:=uh.2 h
theorem NP {α:Type}{a b:α}(h:¬a=b):zU a b=false:=by rw[Bool.eq_false_iff,ne_eq,uh];exact h
theorem Qb {α R:Type}{T:(Int→Option R)→Int→Option R}{fin hit:Option R}(p:α→α→Bool)(hp:∀x y,p x y=true↔x=y)(a b:List α)(hl:a.length=b.length)(h:a.length≤1000000000)(hs:∀i (hi:i<a.length) nx,T nx (i:Int)=cond (!(p a[i] (b[i]'(hl▸hi)))) hit (nx ((i+1:Nat):Int)))(hf:∀nx,T nx (a.length:Int)=fin): aZ T fuel 0=cond (zU a b) fin hit:=by
 have hq:∀i,i<a.length→i<b.length:=λi hi=>hl▸hi;rw[eC (fin:=fin) (hit:=hit) (λi=>zU a[i]? b[i]?) a.length (by omega) ?hs hf]
 case hs=>
  intro i nx hi
  rw[hs i hi,List.getElem?_eq_getElem hi,List.getElem?_eq_getElem (hq i hi)]
  have:p a[i] (b[i]'(hq i hi))=zU (some a[i]) (some (b[i]'(hq i hi))):=B8 (by rw[hp,aO])
  rw[this]
 congr 1;apply B8;rw[az];constructor;intro k;apply List.ext_getElem?;intro i;by_cases hi:i<a.length;exact uh.1 (k i (bf.2 hi));rw[List.getElem?_eq_none (by omega),List.getElem?_eq_none (by omega)];rintro rfl i _;exact B9 rfl
theorem Tb {α:Type}{T:(Int→Option Bool)→Int→Option Bool}(p:α→α→Bool)(hp:∀x y,p x y=true↔x=y)(a b:List α)(h:a.length≤1000000000)(hs:a.length=b.length→∀i (hi:i<a.length)(hi':i<b.length) nx,T nx (i:Int)=cond (!(p a[i] b[i])) (some false) (nx ((i+1:Nat):Int)))(hf:∀nx,T nx (a.length:Int)=some true): cond ((a.length:Int) !=(b.length:Int)) (some false) (aZ T fuel 0)=some (zU a b):=by by_cases hl:a.length=b.length;rw[Qb p hp a b hl h (λi hi nx=>hs hl i hi (hl▸hi) nx) hf];rw[show((a.length:Int) !=(b.length:Int))=false by simp[hl]];cases zU a b<;>rfl;rw[NP (λe=>hl (by rw[e]))];rw[show((a.length:Int) !=(b.length:Int))=true by simp;omega];rfl
theorem Qw (a b:List Int)(h:a.length≤1000000000):lC a b=some (zU a b):=by unfold lC;refine Tb (λx y=>x==y) (λx y=>aL) a b h (λhl i hi hi' nx=>?_) (λnx=>?_);simp only[iy];rw[aj (by omega),bm hi,bm hi',wrap64 (by omega) (by omega)];rfl;simp only[iy];rw[af (by omega)];rfl
theorem xZ (a b:Filter)(h:a.2.2.length≤1000000000):mQ a b=some (zU a b):=by simp only[mQ,Qw _ _ h,ae,bh,cF,HL a b,HL a.2 b.2,acy]
theorem qD (l:List Bytes)(h:l.length≤1000000000):gr l=some l:=by simp only[gr,gW h,bu]
theorem vC (f:Filter)(h:f.2.2.length≤1000000000):jD f=some f:=by simp only[jD,zT _ h,ae]
theorem ow (f:Filter)(h:f.2.2.length≤1000000000):lQ f=some f:=by simp only[lQ,gW h,bu]
theorem uY (l:List Stream)(h:l.length≤1000000000):iK l=some l:=by simp only[iK,gW h,bu]
theorem DP (t:List Slot)(h:t.length≤1000000000):n8 t=some t:=by simp only[n8,gW h,bu]
theorem Cq (s:l6)(h:s.2.length≤1000000000):mP s=some s:=by simp only[mP,zT _ h,ae]
theorem DN (s:cj)(h1:s.1.length≤1000000000)(h2:s.2.1.length≤1000000000)(h3:s.2.2.2.length≤1000000000):kz s=some s:=by simp only[kz,gW h1,DP _ h2,Cq _ h3,ae,bu]
theorem D5 (t:List Slot)(h:t.length≤1000000000):rl t=some t:=by simp only[rl,gW h,bu]
theorem tz (s:cj)(h1:s.1.length≤1000000000)(h2:s.2.1.length≤1000000000)(h3:s.2.2.2.length≤1000000000):oO s=some s:=by simp only[oO,gW h1,D5 _ h2,gW h3,ae,bu]
structure acw (t:nI):Prop where
 p:t.2.1.2.2.2.length≤1000000000
 w:t.2.2.1.length≤1000000000
 x:∀x∈t.2.2.1,x.2.2.length≤1000000000
theorem Mm:∀l:List w6,(eZ l).length≤Ec (.sl uR) l
 |[]=>by simp[eZ]
 |x::l=>by have:=Mm l;simp only[eZ,Ec,List.flatMap_cons,ak,cP,List.sum_cons,bD]at this⊢;omega
theorem xY (s:l5)(z:fB 1000000000 km s):mj s=some s:=by simp only[mj,vC _ z.1.2.2.1,DN _ z.2.1.1.1 z.2.1.2.1.1 z.2.1.2.2.2.1,uY _ z.2.2.2.1.1,qD _ z.2.2.2.2.1,ae]
def UA:l5:=((0,false,([]:List Int)),(([]:List fY),([]:List Slot),([]:Bytes),([]:List Int)),0,([]:List Stream),([]:List Bytes))
def sm (h:Host):l5:=bif vB h then(h.2.2.2.2.2.2.2.1,h.2.2.2.2.2.2.2.2.1,(h.2.2.2.1.length:Int),h.2.2.2.2.2.2.2.2.2.1,([]:List Bytes)) else UA
theorem LQ (h:Host)(z:fB 1000000000 kN h)(k:Ff h):s8 h=some (sm h):=by simp only[s8,JN h k,ae,sm];cases vB h with|false=>rfl|true=>simp only[ar,ai,ah,ow _ z.2.2.2.2.2.2.2.1.2.2.1,tz _ z.2.2.2.2.2.2.2.2.1.1.1 z.2.2.2.2.2.2.2.2.1.2.1.1 z.2.2.2.2.2.2.2.2.1.2.2.2.1,gW z.2.2.2.2.2.2.2.2.2.1.1,ae,bu]
theorem Pb (h:Host){n:Nat}(z:fB n kN h):fB n km (sm h):=by unfold sm;cases vB h with|false=>exact⟨⟨trivial,trivial,bt _,λ_ h=>nomatch h⟩,⟨⟨bt _,λ_ h=>nomatch h⟩,⟨bt _,λ_ h=>nomatch h⟩,bt _,bt _,λ_ h=>nomatch h⟩,trivial,⟨bt _,λ_ h=>nomatch h⟩,bt _,λ_ h=>nomatch h⟩|true=>exact⟨z.2.2.2.2.2.2.2.1,z.2.2.2.2.2.2.2.2.1,trivial,z.2.2.2.2.2.2.2.2.2.1,bt _,λ_ h=>nomatch h⟩
noncomputable def sZ (s:l5):Bool:=eh s.1&&dF s.2.1 s.2.2.1
theorem Ie (s:l5)(h0:s.1.2.2.length≤1000000000)(h1:s.2.1.1.length≤1000000000)(h2:s.2.1.2.1.length≤1000000000)(h3:s.2.1.2.2.2.length≤1000000000):qj s=some (sZ s):=by unfold qj sZ;simp only[uo _ h0,ya _ _ h1 h2 h3,ae,bh];cases eh s.1<;>rfl
def SV (f:Int×Int×Int×Int×Int)(s:Stream):Bool:=decide (s.1=f)
def J1 (l:List Stream)(f:Int×Int×Int×Int×Int):Int:=match l.findIdx? (SV f)with|some i=>(i:Int)|none=> -1
theorem RE (l:List Stream)(f:Int×Int×Int×Int×Int)(h:l.length≤1000000000):lL l f=some (J1 l f):=by
 unfold lL J1;rw[wi (p:=SV f) (hit:=λi=>some i) (fin:=some (-1)) l (by omega) (λi hi nx=>?hs) (λnx=>?hf)]
 case hs=>
  simp only[iB]
  rw[aj (by omega),bm hi,wrap64 (by omega) (by omega)]
  simp only[ah,ae,xO,SV];rfl
 case hf=>
  simp only[iB]
  rw[af (by omega)];rfl
 cases l.findIdx? (SV f)<;>rfl
theorem QB (l:List Stream)(f:Int×Int×Int×Int×Int)(h:l.length≤1000000000):lr l f=some (J1 l f):=by
 unfold lr J1;rw[wi (p:=SV f) (hit:=λi=>some i) (fin:=some (-1)) l (by omega) (λi hi nx=>?hs) (λnx=>?hf)]
 case hs=>
  simp only[iv]
  rw[aj (by omega),bm hi,wrap64 (by omega) (by omega)]
  simp only[ah,ae,xO,SV];rfl
 case hf=>
  simp only[iv]
  rw[af (by omega)];rfl
 cases l.findIdx? (SV f)<;>rfl
def LY:Stream:=((0,0,0,0,0),0,([]:Bytes),false)
def body (p:ax):Bytes:=p.2.2.2.2.2.2.2.2.2.2.2.2.2.2.2
def udp (p:ax):Bytes:=de ((body p).length:Int)++body p
def wH (p:ax)(b:Int):Bool:=aw (BitVec.toNat (BitVec.ofInt (IntKind.bits .i64) p.2.2.2.2.2.2.2.2.2.2.2.2.2.1&&&BitVec.ofInt (IntKind.bits .i64) b)) !=0
def qB (s:Stream)(p:ax):Int:=(s.2.1-p.2.2.2.2.2.2.2.2.2.2.2.1)%4294967296
def XS (s:Stream)(p:ax):Stream:=(s.1,(s.2.1+((body p).length:Int)-qB s p)%4294967296,s.2.2.1++(body p).drop (qB s p).toNat,wH p 1)
def rH (l:List Stream)(p:ax):List Stream:=
 bif !dC p then l else
 match l.findIdx? (SV (pb p))with
 |none=>
  bif p.2.2.2.2.2.2.2.2.1==17 then l++[(pb p,0,udp p,false)] else
  bif wH p 2 then l++[(pb p,Int.tmod (aw (p.2.2.2.2.2.2.2.2.2.2.2.1+1)) 4294967296,([]:Bytes),false)] else l
 |some i=>
  bif p.2.2.2.2.2.2.2.2.1==17 then l.set i ((l.getD i LY).1,(l.getD i LY).2.1,(l.getD i LY).2.2.1++udp p,(l.getD i LY).2.2.2) else
  bif wH p 2 then l else
  bif (l.getD i LY).2.2.2||wH p 4 then l else
  bif decide (qB (l.getD i LY) p≤((body p).length:Int)) then l.set i (XS (l.getD i LY) p) else l
theorem PN (s:Stream)(p:ax):0≤qB s p∧qB s p<4294967296:=by unfold qB;omega
theorem Vf (x:Int):aw x%4294967296=x%4294967296:=by have:=tW x 32 (by omega);rwa[show((2:Int)^32)=4294967296 from rfl]at this
theorem GM {α:Type}(l:List α)(x y:α):(l++[x]).set l.length y=l++[y]:=by rw[List.set_append_right _ _ (aQ _),fP,List.set_cons_zero]
theorem Tg {α:Type}{l:List α}{i:Nat}(h:i<l.length)(x:α):idx (l.set i x) (i:Int)=some x:=by rw[xW,List.getElem?_set_self h]
theorem xV {α:Type}(l:List α)(x:α):idx (l++[x]) (l.length:Int)=some x:=by rw[xW,List.getElem?_append_right (aQ _),fP];rfl
theorem Hg {p:ax}(h:dC p=true):(body p).length≤320:=L2 h
theorem Gd (l:List Stream)(p:ax)(h:fB 900000000 (.sl dB) l):nP l p=some (rH l p):=by
 have hl:l.length≤900000000:=h.1;unfold nP rH;simp only[uY l (by omega),nz,ae,H9,QB l _ (show l.length≤1000000000 by omega),pc];cases hs:dC p with|false=>rfl|true=>?_
 have hb:=Hg hs;have hw:=bG ((body p).length:Int);simp only[ar,ai];rw[show p.2.2.2.2.2.2.2.2.2.2.2.2.2.2.2=body p from rfl];cases hf:l.findIdx? (SV (pb p))with
 |none=>
  have e1:J1 l (pb p)= -1:=by rw[J1,hf]
  simp only[e1,show decide ((-1:Int)<0)=true from rfl,ah];cases p.2.2.2.2.2.2.2.2.1==17 with|true=>simp only[ah];rw[aK (by simp;omega),xV,ae];simp only;rw[aK (by omega),aK (by simp only[ak,List.length_nil];omega),ae,aH];simp only[ae,xV,GM,bu];rfl|false=>simp only[ai];rw[show(aw (BitVec.toNat (BitVec.ofInt (IntKind.bits .i64) p.2.2.2.2.2.2.2.2.2.2.2.2.2.1&&&BitVec.ofInt (IntKind.bits .i64) 2)) !=0)=wH p 2 from rfl];cases wH p 2 with|true=>simp only[ah];rw[aq (by omega),aK (by simp;omega)]|false=>rfl
 |some i=>
  obtain⟨hi,_⟩:=List.findIdx?_eq_some_iff_getElem.1 hf;have hd:(l[i].2.2.1).length≤900000000:=(h.2 _ (aM hi)).2.2.1;have e1:J1 l (pb p)=(i:Int):=by rw[J1,hf]
  simp only[e1,af (show¬(i:Int)<0 by omega),ai,bm hi,ae,bT hi,aH];cases p.2.2.2.2.2.2.2.2.1==17 with
  |true=>simp only[ah];rw[aK (by omega),aK (by simp only[ak];omega)];rfl
  |false=>
   simp only[ai];rw[show(aw (BitVec.toNat (BitVec.ofInt (IntKind.bits .i64) p.2.2.2.2.2.2.2.2.2.2.2.2.2.1&&&BitVec.ofInt (IntKind.bits .i64) 2)) !=0)=wH p 2 from rfl,show(aw (BitVec.toNat (BitVec.ofInt (IntKind.bits .i64) p.2.2.2.2.2.2.2.2.2.2.2.2.2.1&&&BitVec.ofInt (IntKind.bits .i64) 4)) !=0)=wH p 4 from rfl,show(aw (BitVec.toNat (BitVec.ofInt (IntKind.bits .i64) p.2.2.2.2.2.2.2.2.2.2.2.2.2.1&&&BitVec.ofInt (IntKind.bits .i64) 1)) !=0)=wH p 1 from rfl];cases wH p 2 with|true=>rfl|false=>?_
   simp only[ai];rw[show(aa (cond l[i].2.2.2 (some true) (some (wH p 4))):(Bool→Option (List Stream))→Option (List Stream))=λK=>K (l[i].2.2.2||wH p 4) from by funext K;cases l[i].2.2.2<;>rfl];simp only;cases l[i].2.2.2||wH p 4 with|true=>rfl|false=>?_
   simp only[ai,Ot _ 4294967296 (by omega) (by omega),ae,Vf];rw[show(l[i].2.1-p.2.2.2.2.2.2.2.2.2.2.2.1)%4294967296=qB l[i] p from rfl];have ha:=PN l[i] p;by_cases hq:qB l[i] p≤((body p).length:Int);rw[aj hq,rr (l:=body p) (qB l[i] p).toNat (by omega) (by omega)];simp only[ah,ae];rw[aK (by rw[bc];omega)];simp only[Tg hi,ae,List.set_set];refine congrArg some (congrArg (l.set i) ?_);simp only[XS];rw[show(aw (l[i].2.1+((body p).length:Int))-qB l[i] p)%4294967296=(l[i].2.1+((body p).length:Int)-qB l[i] p)%4294967296 from by rw[Int.sub_emod,Vf,←Int.sub_emod]];rw[af hq];rfl
theorem H8 (l:List Stream)(p:ax)(h:fB 100000000 (.sl dB) l):nP l p=some (rH l p):=Gd l p (h.mono (by omega))
theorem F4 {l:List Stream}{p:ax}{n:Nat}(h:fB n (.sl dB) l):fB (n+322) (.sl dB) (rH l p):=by
 have h':fB (n+322) (.sl dB) l:=h.mono (by omega);unfold rH;cases hs:dC p with|false=>exact h'|true=>?_
 have hb:=Hg hs;have hw:=bG ((body p).length:Int);have hu:(udp p).length≤322:=by simp only[udp,ak];omega
 simp only[ar,ai];have app:∀x:Stream,x.2.2.1.length≤n+322→fB (n+322) (.sl dB) (l++[x]):=by intro x hx;refine⟨?_,λy hy=>?_⟩;have:l.length≤n:=h.1;simp only[ak,bR];omega;rcases al.1 hy with g|g;exact h'.2 y g;rw[bw.1 g];exact⟨⟨trivial,trivial,trivial,trivial,trivial⟩,trivial,hx,trivial⟩
 have put:∀(i:Nat)(x:Stream),x.2.2.1.length≤n+322→fB (n+322) (.sl dB) (l.set i x):=by intro i x hx;refine⟨?_,λy hy=>?_⟩;show(l.set i x).length≤_;rw[aP];exact h'.1;rcases List.mem_or_eq_of_mem_set hy with g|rfl;exact h'.2 y g;exact⟨⟨trivial,trivial,trivial,trivial,trivial⟩,trivial,hx,trivial⟩
 split;cases p.2.2.2.2.2.2.2.2.1==17 with|true=>exact app _ (show(udp p).length≤_ by omega)|false=>cases wH p 2 with|true=>exact app _ (bt _)|false=>exact h'
 rename_i i hf;obtain⟨hi,_⟩:=List.findIdx?_eq_some_iff_getElem.1 hf;have hd:(l[i].2.2.1).length≤n:=(h.2 _ (aM hi)).2.2.1;simp only[bT hi];cases p.2.2.2.2.2.2.2.2.1==17 with
 |true=>exact put _ _ (by simp only[ak];omega)
 |false=>
  cases wH p 2 with|true=>exact h'|false=>?_
  cases l[i].2.2.2||wH p 4 with|true=>exact h'|false=>?_
  cases decide (qB l[i] p≤((body p).length:Int))with|false=>exact h'|true=>exact put _ _ (by simp only[XS,ak,bc];omega)
def G3 (s:l5)(x:Bytes):Bool:=sZ s&&(((u4 x).2==0)&&(xy s.1 (u4 x).1&&(GU s.2.1 s.2.2.1 (u4 x).1 != -1)))
def qq (s:l5)(x:Bytes):l5:=bif G3 s x then(s.1,s.2.1,s.2.2.1,rH s.2.2.2.1 (u4 x).1,s.2.2.2.2) else s
theorem Ib (s:l5)(x:Bytes)(z:fB 100000000 km s)(h:x.length≤1000000000):ll s x=some (qq s x):=by have z9:fB 1000000000 km s:=z.mono (by omega);unfold ll qq G3;simp only[xY s z9,Oa x h,Ie s z9.1.2.2.1 z9.2.1.1.1 z9.2.1.2.1.1 z9.2.1.2.2.2.1,H6 s.1 _ z9.1.2.2.1,Oc s.2.1 _ _ z9.2.1.1.1 z9.2.1.2.1.1 z9.2.1.2.2.2.1,H8 s.2.2.2.1 _ z.2.2.2.1,ae];cases sZ s<;>cases (u4 x).2==0<;>cases xy s.1 (u4 x).1<;>cases GU s.2.1 s.2.2.1 (u4 x).1 != -1<;>rfl
theorem GF {s:l5}{x:Bytes}{n:Nat}(z:fB n km s):fB (n+322) km (qq s x):=by have z':fB (n+322) km s:=z.mono (by omega);unfold qq;cases G3 s x with|false=>exact z'|true=>exact⟨z'.1,z'.2.1,trivial,F4 z.2.2.2.1,z'.2.2.2.2⟩
theorem Et {s:Bytes}{a:Nat}:cy s (a:Int)=bif decide (a+2≤s.length) then((bZ s a*256+bZ s (a+1):Nat):Int) else-1:=by unfold cy dn;rw[aH,show decide ((0:Int)≤a∧(a:Int)+2≤(s.length:Int))=decide (a+2≤s.length) from decide_eq_decide.2 (by omega)]
theorem HX {s t:Bytes}{a:Nat}(hl:s.length=t.length)(h0:bZ s a=bZ t a)(h1:bZ s (a+1)=bZ t (a+1)):cy s (a:Int)=cy t (a:Int):=by rw[Et,Et,hl,h0,h1]
def qH (s:Bytes):Nat:=bif cy s 12==33024 then 18 else 14
def CA (s:Bytes):Nat:=bZ s (qH s+9)
def T0 (k:Nat):Nat:=bif (k:Int)==6 then 16 else 6
def L1 (s:Bytes):Nat:=qH s+10
def Eb (s:Bytes):Nat:=qH s+20+T0 (CA s)
theorem T1 (k:Nat):T0 k=16∧k=6∨T0 k=6∧k≠6:=by unfold T0;by_cases h:k=6;subst h;exact .inl ⟨rfl,rfl⟩;exact .inr ⟨by rw[show((k:Int)==6)=false from by rw[cJ];omega];rfl,h⟩
theorem PW (s:Bytes):qH s=18∧(cy s 12==33024)=true∨qH s=14∧(cy s 12==33024)=false:=by unfold qH;cases cy s 12==33024 with|true=>exact .inl ⟨rfl,rfl⟩|false=>exact .inr ⟨rfl,rfl⟩
def Eg (s t:Bytes):Prop:=s.length=t.length∧∀i,i<L1 t∨(L1 t+2≤i∧i<Eb t)∨Eb t+2≤i→bZ s i=bZ t i
theorem Jo (t:Bytes):(qH t=14∨qH t=18)∧L1 t=qH t+10∧qH t+26≤Eb t∧Eb t≤qH t+36∧(Eb t=qH t+36∧CA t=6∨Eb t=qH t+26∧CA t≠6):=by have h1:=PW t;have h2:=T1 (CA t);unfold L1 Eb;omega
theorem Eg.body {s t:Bytes}(h:Eg s t):qH s=qH t:=by have:=Jo t;unfold qH;have e:cy s ((12:Nat):Int)=cy t ((12:Nat):Int):=HX h.1 (h.2 _ (by omega)) (h.2 _ (by omega));rw[show(12:Int)=((12:Nat):Int) from rfl,e]
theorem Eg.kind {s t:Bytes}(h:Eg s t):CA s=CA t:=by have:=Jo t;unfold CA;rw[h.body,h.2 _ (by omega)]
theorem Eg.afY {s t:Bytes}(h:Eg s t):L1 s=L1 t∧Eb s=Eb t:=by unfold L1 Eb;rw[h.body,h.kind];exact⟨rfl,rfl⟩
theorem Vc (a k:Nat):Int.tdiv (a:Int) (k:Int)=((a/k:Nat):Int):=(Int.ofNat_tdiv a k).symm
theorem Vd (a k:Nat):Int.tmod (a:Int) (k:Int)=((a%k:Nat):Int):=(Int.ofNat_tmod a k).symm
theorem mem_iff {m:List Bytes}:dH m=true↔(∀x∈m,x.length=128)∧m.length≤64:=by simp only[dH,ab,az,aL,aD];constructor;rintro⟨h1,h2⟩;exact⟨λx hx=>by have:=h1 x hx;omega,by omega⟩;rintro⟨h1,h2⟩;exact⟨λx hx=>by have:=h1 x hx;omega,by omega⟩
def ack (m:List Bytes)(a n:Nat):Bytes:=(m.flatten.drop a).take n
def kK (m:List Bytes)(a n:Int):Bool:=dH m&&decide (0≤n∧0≤a∧a+n≤128*(m.length:Int))
theorem Aq (m:List Bytes)(a n:Int)(h:m.length≤1000000000):jc m a n=some (kK m a n):=by unfold jc kK;rw[xr m h,ae,wrap64 (n:=128*(m.length:Int)) (by omega) (by omega)];cases hm:dH m with|false=>rfl|true=>simp only[ah,bg];by_cases h1:n≥0;by_cases h3:a≥0;by_cases h2:a≤128*(m.length:Int);rw[wrap64 (n:=128*(m.length:Int)-a) (by omega) (by omega)];simp only[aj h1,aj h2,aj h3,ah,ae];exact congrArg some (decide_eq_decide.2 (by omega));simp only[aj h1,af h2,aj h3,ah,ai,ae];exact congrArg some (af (by omega)).symm;simp only[aj h1,af h3,ah,ai,ae];exact congrArg some (af (by omega)).symm;simp only[af h1,ai,ae];exact congrArg some (af (by omega)).symm
def DS (d p:Int)(w:Bool)(x:bq):Bool:=wS d p x&&(x.2.2.2|| !w)
def u3 (l:List bq)(d p:Int)(w:Bool):Int:=match l.findIdx? (DS d p w)with|some i=>(l.getD i Gq).2.2.1|none=> -1
theorem RD (l:List bq)(d p:Int)(w:Bool)(h:l.length≤1000000000):rn l d p w=some (u3 l d p w):=by unfold rn u3;refine Eq.trans (wi (p:=DS d p w) (hit:=λi=>aa (idx l i) λx=>some x.2.2.1) (fin:=some (-1)) l (by omega) (λi hi nx=>?_) (λnx=>?_)) ?_;simp only[nf];rw[aj (by omega),bm hi,wrap64 (by omega) (by omega)];simp only[ah,ae,DS,wS];cases l[i].1==d<;>cases l[i].2.1==p<;>cases l[i].2.2.2<;>cases w<;>rfl;simp only[nf];rw[af (by omega)];rfl;cases hf:l.findIdx? (DS d p w)with|none=>rfl|some i=>obtain⟨hi,_⟩:=List.findIdx?_eq_some_iff_getElem.1 hf;simp only[bm hi,ae,bT hi]
theorem QN {l:List bq}(h:eN l=true){i:Nat}(hi:i<l.length):Gp l[i]=true∧∀j (hj:j<i),wS l[i].1 l[i].2.1 (l[j]'(by omega))=false:=by simp only[eN,ab,az,bf]at h;have:=h.2 i hi;simp only[I6,ab,az,bf,bT hi,aB]at this;exact⟨this.1,λj hj=>by have:=this.2 j hj;rwa[bT (by omega)]at this⟩
theorem Ol {d p:Int}{m:bq}:wS d p m=true↔m.1=d∧m.2.1=p:=by simp[wS]
theorem Q5 {l:List bq}(h:eN l=true)(d p:Int)(w:Bool)(h1:0≤u3 l d p w):u3 l d p w≤63∧0≤p∧p≤1023:=by unfold u3 at h1⊢;cases hf:l.findIdx? (DS d p w)with|none=>rw[hf]at h1;simp at h1|some i=>obtain⟨hi,h2,_⟩:=List.findIdx?_eq_some_iff_getElem.1 hf;have h3:=(QN h hi).1;simp only[DS,ab,Ol]at h2;simp only[Gp,ab,br]at h3;simp only[bT hi];omega
def ou (l:List bq)(m:List Bytes)(d:Int)(w:Bool):Nat→Nat→Nat→Option (List (Int×Int))
 |0,_,_=>some []
 |n+1,a,r=>if r=0 then some [] else
  if 0≤u3 l d ((a/128:Nat):Int) w∧u3 l d ((a/128:Nat):Int) w<(m.length:Int) then
   (ou l m d w n (a+min (128-a%128) r) (r-min (128-a%128) r)).map (λq=>(u3 l d ((a/128:Nat):Int) w*128+((a%128:Nat):Int),((min (128-a%128) r:Nat):Int))::q)
  else none
theorem J6 {m:List Bytes}(hm:dH m=true){f:Int}(h0:0≤f):kK m (f*128) 128=decide (f<(m.length:Int)):=by rw[kK,hm,bg];exact decide_eq_decide.2 (by omega)
theorem yG {l:List bq}{m:List Bytes}(hl:eN l=true)(hL:l.length≤1000000000)(hm:dH m=true)(d:Int)(w:Bool):∀(n a r f:Nat)(acc:List (Int×Int)),r≤n→n<f→acc.length+n≤1000000→a≤9223372036854775807→
 aZ (gv (λ(y10:Int) (y11:Int) (y12:List Int) (y13:List Int)=>some (y12,y13,true)) (λ(y14:Int) (y15:Int) (y16:List Int) (y17:List Int) (y18:Bool) (y19:List Int) (y20:List Int)=>some (y16,y17,y18)) l d w ([]:List Int) ([]:List Int) false m) f ((a:Int),(r:Int),acc.map (·.1),acc.map (·.2))
  =match ou l m d w n a r with|some q=>some ((acc++q).map (·.1),(acc++q).map (·.2),true)|none=>some ([],[],false)
 |n,a,r,0,acc,_,hf,_,_=>by omega
 |0,a,r,f+1,acc,hr,hf,hA,ha=>by rw[aZ];simp only[gv];rw[af (by omega)];simp[ou]
 |n+1,a,r,f+1,acc,hr,hf,hA,ha=>by
  have h64:=(mem_iff.1 hm).2;rw[aZ];simp only[gv,ou];by_cases h0:r=0;rw[af (by omega),au h0];simp;have e1:Int.tdiv (a:Int) 128=((a/128:Nat):Int):=Vc a 128;have e2:Int.tmod (a:Int) 128=((a%128:Nat):Int):=Vd a 128;have hin:=Q5 hl d ((a/128:Nat):Int) w;rw[aj (show(r:Int)>0 by omega),aj (show(a:Int)≥0 by omega),aq h0];simp only[ah];rw[aq (by omega),e1,e2,wrap64 (n:=((a/128:Nat):Int)) (by omega) (by omega),RD l _ _ w hL,ae,aq (by omega),wrap64 (n:=128-((a%128:Nat):Int)) (by omega) (by omega)];obtain⟨c,hc⟩:∃c,min (128-a%128) r=c:=⟨_,rfl⟩
  rw[hc,show(if 128-((a%128:Nat):Int)<(r:Int) then 128-((a%128:Nat):Int) else(r:Int))=(c:Int) by split<;>omega];generalize hP:u3 l d ((a/128:Nat):Int) w=P at hin⊢;by_cases hP0:0≤P;have hin:=hin hP0;rw[af (show¬P<0 by omega),wrap64 (n:=P*128) (by omega) (by omega),Aq m _ _ (by omega),J6 hm hP0];simp only[ai,ae];by_cases hP1:P<(m.length:Int);rw[aj hP1,au ⟨hP0,hP1⟩];simp only[ar,ai];rw[aK (by simp;omega),aK (by simp;omega),wrap64 (n:=P*128+((a%128:Nat):Int)) (by omega) (by omega),wrap64 (n:=(a:Int)+(c:Int)) (by omega) (by omega),wrap64 (n:=(r:Int)-(c:Int)) (by omega) (by omega)];have key:=yG hl hL hm d w n (a+c) (r-c) f (acc++[(P*128+((a%128:Nat):Int),(c:Int))]) (by omega) (by omega) (by simp;omega) (by omega);rw[show((a+c:Nat):Int)=(a:Int)+(c:Int) by omega,show((r-c:Nat):Int)=(r:Int)-(c:Int) by omega,List.map_append,List.map_append]at key;refine Eq.trans key ?_;cases ou l m d w n (a+c) (r-c)with|none=>rfl|some q=>simp
  rw[af hP1,aq (by omega)];rfl;rw[aq (by omega),aj (by omega)];rfl
def mw (l:List bq)(m:List Bytes)(d a n:Int)(w:Bool):List (Int×Int)×Bool:=
 bif eN l&&(dH m&&cM n 0 4096) then
  (bif n==0 then([],true) else bif decide (a<0) then([],false) else match ou l m d w n.toNat a.toNat n.toNat with|some q=>(q,true)|none=>([],false))
 else([],false)
theorem Pf (l:List bq)(m:List Bytes)(d a n:Int)(w:Bool)(hl:l.length≤1000000000)(hm:m.length≤1000000000)(ha:a≤9223372036854775807):pY l m d a n w=some ((mw l m d a n w).1.map (·.1),(mw l m d a n w).1.map (·.2),(mw l m d a n w).2):=by
 have hfu:=eF;unfold pY mw;simp only[yF l hl,xr m hm,bV,ae];cases hB:eN l with|false=>rfl|true=>?_
 cases hM:dH m with|false=>rfl|true=>?_
 cases hN:cM n 0 4096 with|false=>rfl|true=>?_
 have hn:=br.1 hN;simp only[ar,ai,ae,dj,ah];obtain⟨n,rfl⟩:=bd hn.1;cases h0:((n:Int)==0)with
 |true=>
  have:n=0:=by simpa using h0
  subst this;obtain⟨f,hf⟩:∃f,fuel=f+1:=⟨fuel-1,by omega⟩
  rw[hf,aZ];rfl
 |false=>
  have hn0:n≠0:=by simpa using h0
  by_cases hA:a<0;obtain⟨f,hf⟩:∃f,fuel=f+1:=⟨fuel-1,by omega⟩
  rw[aj hA,hf,aZ];simp only[gv];rw[aj (by omega),af (by omega)];rfl;rw[af hA];simp only[ai];obtain⟨a,rfl⟩:=bd (show 0≤a by omega);refine Eq.trans (yG hB hl hM d w n a n fuel [] (by omega) (by omega) (by simp;omega) (by omega)) ?_;simp only[aH];cases ou l m d w n a n<;>rfl
def wU (x:Bytes)(o:Nat)(t:Bytes):Bytes:=x.take o++(t++x.drop (o+t.length))
theorem ER {x:Bytes}{o:Nat}{t:Bytes}(h:o+t.length≤x.length):(wU x o t).length=x.length:=by simp only[wU,ak,bn,bc];omega
theorem Ra {x:Bytes}{o:Nat}{t:Bytes}(h:o+t.length≤x.length):yw x (o:Int) t=wU x o t:=by unfold yw dn;rw[aj ⟨by omega,by omega⟩];simp only[ah,aH,wU,aC]
def tD:Nat→List Bytes→Nat→Bytes→List Bytes
 |0,m,_,_=>m
 |n+1,m,a,s=>if s.length=0 then m else
  tD n (m.set (a/128) (wU (m.getD (a/128) []) (a%128) (s.take (128-a%128)))) (a+min (128-a%128) s.length) (s.drop (128-a%128))
def vG (m:List Bytes):Prop:=(∀x∈m,x.length=128)∧m.length≤64
theorem pg {m:List Bytes}:dH m=true↔vG m:=mem_iff
theorem ES {m:List Bytes}{p:Nat}{x:Bytes}(h:vG m)(hx:x.length=128):vG (m.set p x):=by refine⟨λy hy=>?_,by rw[aP];exact h.2⟩;rcases List.mem_or_eq_of_mem_set hy with g|g;exact h.1 y g;rw[g];exact hx
theorem xx {m:List Bytes}(h:vG m){a:Nat}{s:Bytes}(hs:s.length≠0)(ha:a+s.length≤128*m.length): ∃(hp:a/128<m.length),(m[a/128]'hp).length=128∧(wU (m[a/128]'hp) (a%128) (s.take (128-a%128))).length=128:=by
 have hp:a/128<m.length:=by omega
 have hl:=h.1 _ (aM hp);refine⟨hp,hl,?_⟩;rw[ER (by rw[bn,hl];omega),hl]
theorem uO:∀(n:Nat){m:List Bytes}{a:Nat}{s:Bytes},vG m→a+s.length≤128*m.length→vG (tD n m a s)∧(tD n m a s).length=m.length
 |0,m,a,s,h,_=>⟨h,rfl⟩
 |n+1,m,a,s,h,ha=>by rw[tD];split;exact⟨h,rfl⟩;rename_i hs;obtain⟨hp,hl,ho⟩:=xx h hs ha;rw[bT hp];have:=uO n (m:=m.set (a/128) (wU m[a/128] (a%128) (s.take (128-a%128)))) (a:=a+min (128-a%128) s.length) (s:=s.drop (128-a%128)) (ES h ho) (by rw[aP,bc];omega);rw[aP]at this;exact this
theorem wX {R:Type}(K:Int→Bytes→List Bytes→Option R)(K':List Bytes→Option R)(hK:∀a m,K a [] m=K' m):∀(n:Nat)(m:List Bytes)(a:Nat)(s:Bytes)(f:Nat),s.length≤n→n<f→vG m→a+s.length≤128*m.length→
 aZ (iC K ([]:List Bytes)) f ((a:Int),s,m)=K' (tD n m a s)
 |n,m,a,s,0,_,hf,_,_=>by omega
 |n,m,a,s,f+1,hs,hf,hm,ha=>by
  rw[aZ];simp only[iC];by_cases h0:s.length=0;have:s=[]:=bF h0;subst this;rw[af (by simp),ai,hK];cases n<;>simp[tD];cases n with
  |zero=>omega
  |succ n=>
   obtain⟨hp,hl,ho⟩:=xx hm h0 ha;have h64:=hm.2;have e1:Int.tdiv (a:Int) 128=((a/128:Nat):Int):=Vc a 128;have e2:Int.tmod (a:Int) 128=((a%128:Nat):Int):=Vd a 128;rw[aj (by omega),ah,aq (by omega),aq (by omega),aq (by omega),e1,e2,wrap64 (n:=((a/128:Nat):Int)) (by omega) (by omega),wrap64 (n:=128-((a%128:Nat):Int)) (by omega) (by omega),bm hp,ae];obtain⟨c,hc⟩:∃c,min (128-a%128) s.length=c:=⟨_,rfl⟩
   rw[show(if 128-((a%128:Nat):Int)<(s.length:Int) then 128-((a%128:Nat):Int) else(s.length:Int))=(c:Int) by split<;>omega];have ht:s.take c=s.take (128-a%128):=by by_cases h3:128-a%128≤s.length;rw[←hc,Nat.min_eq_left h3];rw[←hc,Nat.min_eq_right (by omega),bz (aQ _),bz (by omega)]
   have hdr:s.drop c=s.drop (128-a%128):=by by_cases h3:128-a%128≤s.length;rw[←hc,Nat.min_eq_left h3];rw[←hc,Nat.min_eq_right (by omega),cc (aQ _),cc (by omega)]
   have hs1:sub s 0 (c:Int)=some (s.take (128-a%128)):=by rw[←ht];unfold sub;rw[au (by omega)];simp
   have hs2:sub s (c:Int) (s.length:Int)=some (s.drop (128-a%128)):=by rw[←hdr];unfold sub;rw[au (by omega)];simp
   rw[hs1,ae,Bn _ _ _ (by omega),ae,ae,ae,hs2,ae,Ra (by rw[bn,hl];omega),wrap64 (n:=(a:Int)+(c:Int)) (by omega) (by omega),aH];rw[tD,aq h0,bT hp,hc,show(a:Int)+(c:Int)=((a+c:Nat):Int) by omega];exact wX K K' hK n _ _ _ f (by rw[bc];omega) (by omega) (ES hm ho) (by rw[aP,bc];omega)
def qe (m:List Bytes)(a:Int)(s:Bytes):List Bytes×Bool:=bif kK m a (s.length:Int) then(tD s.length m a.toNat s,true) else(m,false)
theorem LR (m:List Bytes)(a:Int)(s:Bytes)(h:m.length≤1000000000)(hs:s.length≤1000000000):lN m a s=some (qe m a s):=by
 have hfu:=eF;unfold lN qe;rw[ux m (by omega),ae,Aq m _ _ h,ae];cases hw:kK m a (s.length:Int)with|false=>rfl|true=>?_
 simp only[kK,ab,aD]at hw;obtain⟨a,rfl⟩:=bd hw.2.2.1;simp only[ar,ai,ah,aH];exact wX _ (λm=>some (m,true)) (λ_ _=>rfl) s.length m a s fuel (aQ _) (by omega) (pg.1 hw.1) (by omega)
theorem AO (m:List Bytes)(a:Int)(s:Bytes):(qe m a s).1.length=m.length:=by
 unfold qe;cases hw:kK m a (s.length:Int)with|false=>rfl|true=>?_
 simp only[kK,ab,aD]at hw;exact(uO s.length (pg.1 hw.1) (by omega)).2
def D3:List (Int×Int)→List Bytes→Bytes→List Bytes
 |[],m,_=>m
 |p::q,m,s=>D3 q (qe m p.1 (s.take p.2.toNat)).1 (s.drop p.2.toNat)
theorem Jw:∀(q:List (Int×Int))(m:List Bytes)(s:Bytes),(D3 q m s).length=m.length
 |[],m,s=>rfl
 |p::q,m,s=>by rw[D3,Jw q,AO]
def Dk (q:List (Int×Int)):Int:=(q.map (·.2)).sum
theorem Nl:∀(q:List (Int×Int)),(∀p∈q,0≤p.2)→0≤Dk q
 |[],_=>eH _
 |p::q,h=>by have:=Nl q (λx hx=>h x (by simp[hx]));have:=h p (by simp);simp only[Dk,cP,List.sum_cons]at*;omega
theorem Rb {p:Int×Int}{q:List (Int×Int)}(hc:∀x∈p::q,0≤x.2){s:Bytes}(hs:(s.length:Int)=Dk (p::q)):0≤p.2∧p.2≤(s.length:Int)∧((s.drop p.2.toNat).length:Int)=Dk q:=by
 have h1:=hc p (by simp);have h2:=Nl q (λx hx=>hc x (by simp[hx]));have h3:Dk (p::q)=p.2+Dk q:=by simp[Dk]
 rw[h3]at hs;refine⟨h1,by omega,?_⟩;rw[bc];omega
theorem Pp {s:Bytes}{c:Int}(h0:0≤c)(h1:c≤(s.length:Int)):sub s 0 c=some (s.take c.toNat):=by unfold sub;rw[au (by omega)];simp
theorem RH {s:Bytes}{c:Int}(h0:0≤c)(h1:c≤(s.length:Int)):sub s c (s.length:Int)=some (s.drop c.toNat):=by unfold sub;rw[au (by omega)];simp
theorem Ap (K:Bytes→Int→List Bytes→Option (List Bytes×Bool))(hK:∀s i m,K s i m=some (m,true)):∀(rest pre:List (Int×Int))(m:List Bytes)(s:Bytes)(f:Nat),rest.length<f→pre.length+rest.length≤1000000→(∀x∈rest,0≤x.2)→(s.length:Int)=Dk rest→m.length≤1000000000→s.length≤1000000→
 aZ (iS K ((pre++rest).map (·.1)) ((pre++rest).map (·.2)) ([]:List Bytes)) f (s,(pre.length:Int),m)=some (D3 rest m s,true)
 |rest,pre,m,s,0,hf,_,_,_,_,_=>by omega
 |[],pre,m,s,f+1,_,_,_,_,_,_=>by rw[aZ];simp only[iS];rw[af (by simp),ai,hK];rfl
 |p::q,pre,m,s,f+1,hf,hn,hc,hs,hm,hl=>by
  obtain⟨h1,h2,h3⟩:=Rb hc hs;simp only[bD]at hf hn;have hi:pre.length<(pre++p::q).length:=by simp
  have hp:(pre++p::q)[pre.length]=p:=by simp
  have i1:idx ((pre++p::q).map (·.1)) (pre.length:Int)=some p.1:=by rw[bm (by simp),List.getElem_map,hp]
  have i2:idx ((pre++p::q).map (·.2)) (pre.length:Int)=some p.2:=by rw[bm (by simp),List.getElem_map,hp]
  rw[aZ];simp only[iS];rw[aj (by simp;omega),i1,i2,wrap64 (by omega) (by omega)];simp only[ah,ae,Pp h1 h2,RH h1 h2,LR m _ _ hm (show(s.take p.2.toNat).length≤1000000000 by rw[bn];omega)];have key:=Ap K hK q (pre++[p]) (qe m p.1 (s.take p.2.toNat)).1 (s.drop p.2.toNat) f (by omega) (by simp;omega) (λx hx=>hc x (by simp[hx])) h3 (by rw[AO];exact hm) (by rw[bc];omega);have el:((pre++[p]).length:Int)=(pre.length:Int)+1:=by simp
  rw[aC,List.singleton_append,el]at key;rw[D3];exact key
theorem CQ (l:List bq)(m:List Bytes)(d:Int)(w:Bool):∀(n a r:Nat)(q:List (Int×Int)),r≤n→ou l m d w n a r=some q→Dk q=(r:Int)∧(∀p∈q,0≤p.2)∧q.length≤n
 |0,a,r,q,hr,h=>by simp only[ou,aO]at h;subst h;exact⟨by show(0:Int)=_;omega,by simp,by simp⟩
 |n+1,a,r,q,hr,h=>by simp only[ou]at h;split at h;simp only[aO]at h;subst h;exact⟨by show(0:Int)=_;omega,by simp,by simp⟩;split at h;simp only[Option.map_eq_some_iff]at h;obtain⟨q',h1,rfl⟩:=h;obtain⟨i1,i2,i3⟩:=CQ l m d w n _ _ q' (by omega) h1;refine⟨?_,?_,by simp only[bD];omega⟩;simp only[Dk,cP,List.sum_cons]at i1⊢;rw[i1];omega;intro p hp;rcases bl.1 hp with rfl|hp;show(0:Int)≤((min (128-a%128) r:Nat):Int);omega;exact i2 p hp;cases h
theorem O6 (l:List bq)(m:List Bytes)(d a n:Int)(w:Bool)(h:(mw l m d a n w).2=true):Dk (mw l m d a n w).1=n∧(∀p∈(mw l m d a n w).1,0≤p.2)∧(mw l m d a n w).1.length≤4096∧n≤4096:=by
 unfold mw at h⊢;cases hB:eN l&&(dH m&&cM n 0 4096)with|false=>rw[hB]at h;simp at h|true=>?_
 rw[hB]at h;simp only[ab,br]at hB;simp only[ah]at h⊢;cases h0:n==0 with
 |true=>
  have:n=0:=by simpa using h0
  subst this;exact⟨rfl,by simp,by simp,by omega⟩
 |false=>rw[h0]at h;simp only[ai]at h⊢;cases ha:decide (a<0)with|true=>rw[ha]at h;simp at h|false=>rw[ha]at h;simp only[ai]at h⊢;cases hq:ou l m d w n.toNat a.toNat n.toNat with|none=>rw[hq]at h;cases h|some q=>obtain⟨i1,i2,i3⟩:=CQ l m d w _ _ _ q (aQ _) hq;exact⟨by simp only;rw[i1];omega,i2,by simp only;omega,by omega⟩
def sf (l:List bq)(m:List Bytes)(d a:Int)(s:Bytes)(w:Bool):List Bytes×Bool:=
 bif (mw l m d a (s.length:Int) w).2 then(D3 (mw l m d a (s.length:Int) w).1 m s,true) else(m,false)
theorem CV (l:List bq)(m:List Bytes)(d a:Int)(s:Bytes)(w:Bool):(sf l m d a s w).1.length=m.length:=by unfold sf;cases (mw l m d a (s.length:Int) w).2 with|false=>rfl|true=>exact Jw _ _ _
theorem yD (l:List bq)(m:List Bytes)(d a:Int)(s:Bytes)(hl:l.length≤1000000000)(hm:m.length≤1000000000)(ha:a≤9223372036854775807):mB l m d a s=some (sf l m d a s true):=by
 have hfu:=eF;unfold mB sf;rw[Pf l m d a _ true hl hm ha,ae,ux m (by omega),ae];have hS:=O6 l m d a (s.length:Int) true;generalize mw l m d a (s.length:Int) true=r at hS⊢;cases hr:r.2 with|false=>rfl|true=>?_
 obtain⟨h1,h2,h3,h4⟩:=hS hr;simp only[ar,ai,ah];exact Ap _ (λ_ _ _=>rfl) r.1 [] m s fuel (by omega) (by simp;omega) h2 h1.symm hm (by omega)
def SI (x:bq):bq:=(x.1,x.2.1,x.2.2.1,true)
theorem getD_map {l:List bq}{i:Nat}(hi:i<l.length):(l.map SI).getD i Gq=SI (l.getD i Gq):=by rw[bT (by simpa using hi),bT hi,List.getElem_map]
theorem Gr (l:List bq):eN (l.map SI)=eN l:=by
 unfold eN;rw[cg];congr 1;rw[bO,az,az];have key:∀i,i<l.length→I6 (l.map SI) i=I6 l i:=by
  intro i hi;unfold I6;rw[getD_map hi];congr 1;rw[bO,az,az];constructor;intro h j hj;have hjl:j<l.length:=by have:=bf.1 hj;omega
  have:=h j hj;rw[getD_map hjl]at this;exact this;intro h j hj;have hjl:j<l.length:=by have:=bf.1 hj;omega
  rw[getD_map hjl];exact h j hj
 constructor;intro h i hi;rw[←key i (bf.1 hi)];exact h i hi;intro h i hi;rw[key i (bf.1 hi)];exact h i hi
theorem Q6 (l:List bq)(d p:Int):u3 (l.map SI) d p true=u3 l d p false:=by
 unfold u3;rw[List.findIdx?_map];have e:(DS d p true∘SI)=DS d p false:=by funext x;simp only[Function.comp,DS,wS,SI,cp,fN,fO]
 rw[e];cases hf:l.findIdx? (DS d p false)with|none=>rfl|some i=>obtain⟨hi,_⟩:=List.findIdx?_eq_some_iff_getElem.1 hf;simp only[getD_map hi];rfl
theorem EU (l:List bq)(m:List Bytes)(d:Int):∀n a r,ou (l.map SI) m d true n a r=ou l m d false n a r
 |0,a,r=>rfl
 |n+1,a,r=>by simp only[ou,Q6,EU l m d n]
theorem TP (l:List bq)(m:List Bytes)(d a:Int)(s:Bytes):sf (l.map SI) m d a s true=sf l m d a s false:=by
 have e:mw (l.map SI) m d a (s.length:Int) true=mw l m d a (s.length:Int) false:=by simp only[mw,Gr,EU]
 simp only[sf,e]
theorem D7 (l:List bq)(m:List Bytes)(d a:Int)(s:Bytes)(hl:l.length≤1000000000)(hm:m.length≤1000000000)(ha:a≤9223372036854775807):oF l m d a s=some (sf l m d a s false):=by unfold oF;refine dT (λi=>((l.take i).map SI,(i:Int))) l.length (by omega) (λi nx hi=>?_) (λnx=>?_);simp only[kE];rw[aj (by omega),bm hi,wrap64 (by omega) (by omega)];simp only[ah,ae];rw[aK (by simp;omega),bJ hi,List.map_append];rfl;simp only[kE];rw[af (by omega),ai,cS,yD _ m d a s (by rw[cg];exact hl) hm ha,TP];rfl
def MD (d:Int×Int×Int×Int×Int×Int):Bool:=cM d.1 0 3&&(cM d.2.1 0 3&&(cM d.2.2.1 0 65535&&(cM d.2.2.2.2.1 0 65535&&(cM d.2.2.2.2.2 0 65535&&cM d.2.2.2.1 0 4294967295))))
theorem Rt (d:Int×Int×Int×Int×Int×Int):s7 d=some (MD d):=by simp only[s7,bV,ae,MD];cases cM d.1 0 3<;>cases cM d.2.1 0 3<;>cases cM d.2.2.1 0 65535<;>cases cM d.2.2.2.2.1 0 65535<;>cases cM d.2.2.2.2.2 0 65535<;>rfl
def Ta (d:Int×Int×Int×Int×Int×Int):Bytes:=
 bif MD d then((((bytesOf [ev d.1,ev d.2.1]++de d.2.2.1)++dY d.2.2.2.1)++de d.2.2.2.2.1)++de d.2.2.2.2.2)++dY 0 else []
theorem TW (d:Int×Int×Int×Int×Int×Int):mT d=some (Ta d):=by
 have h1:=bG d.2.2.1;have h2:=c7 d.2.2.2.1;have h3:=bG d.2.2.2.2.1;have h4:=bG d.2.2.2.2.2;have h5:=c7 0;have h0:(bytesOf [ev d.1,ev d.2.1]).length=2:=rfl;unfold mT Ta;rw[Rt,ae];cases MD d with|false=>rfl|true=>?_
 simp only[ar,ai,ah,kY,jt,ae];rw[aK (by omega),aK (by simp only[ak];omega),aK (by simp only[ak];omega),aK (by simp only[ak];omega),aK (by simp only[ak];omega)]
def oZ (r:Int×Int×Int×Int):Int:=bif eO r then aw (r.2.1-eX r) else 0
def u7 (r:Int×Int×Int×Int)(c:Int):Int:=bif !eO r||decide (c<0) then-1 else r.1+Int.tmod c r.2.1*16
theorem uF {r:Int×Int×Int×Int}(h:eO r=true):0≤r.1∧r.1≤130944∧(r.2.1=2∨r.2.1=4∨r.2.1=8∨r.2.1=16)∧0≤r.2.2.1∧r.2.2.1≤2*r.2.1-1∧0≤r.2.2.2∧r.2.2.2≤2*r.2.1-1:=by simp only[eO,ab,br]at h;exact⟨h.1.1,h.1.2,gm.1 h.2.1,h.2.2.1.1,h.2.2.1.2,h.2.2.2.1.1,h.2.2.2.1.2⟩
theorem JK (r:Int×Int×Int×Int)(c:Int): -1≤u7 r c∧u7 r c≤200000:=by
 unfold u7;cases hc: !eO r||decide (c<0)with
 |true=>exact⟨eH _,by simp⟩
 |false=>
  simp only[Bool.or_eq_false_iff,Bool.not_eq_false',dy]at hc;have h:=uF hc.1;have h2:0≤Int.tmod c r.2.1∧Int.tmod c r.2.1<r.2.1:=by rw[dD (by omega)];exact⟨Int.emod_nonneg _ (by omega),Int.emod_lt_of_pos _ (by omega)⟩
  simp only[ai];omega
def dA (l:List bq)(m:List Bytes)(d:Int)(r:Int×Int×Int×Int)(s:Bytes):List Bytes×(Int×Int×Int×Int)×Bool:=
 bif (oZ r==0)||((s.length:Int) !=16) then(m,r,false) else
 bif !(sf l m d (u7 r r.2.2.2) s true).2 then(m,r,false) else
 ((sf l m d (u7 r r.2.2.2) s true).1,(r.1,r.2.1,r.2.2.1,Int.tmod (r.2.2.2+1) (2*r.2.1)),true)
theorem OZ {l:List bq}{m:List Bytes}{d a:Int}{s:Bytes}{w:Bool}(h:(sf l m d a s w).2=false):(sf l m d a s w).1=m:=by unfold sf at h⊢;cases hr:(mw l m d a (s.length:Int) w).2 with|false=>rfl|true=>rw[hr]at h;cases h
theorem zL (r:Int×Int×Int×Int):mE r=some (oZ r):=by
 unfold mE oZ;rw[vN,ae];cases eO r with|false=>rfl|true=>?_
 simp only[ar,ai,ah,JW,ae]
theorem Pj (r:Int×Int×Int×Int)(c:Int):lJ r c=some (u7 r c):=by
 have hin:=JK r c;unfold lJ;rw[vN,ae];unfold u7 at hin⊢;cases hb:eO r with|false=>rfl|true=>?_
 have h:=uF hb;by_cases hc:c<0;rw[aj hc];rfl;rw[hb,af hc]at hin;rw[af hc];have h2:0≤Int.tmod c r.2.1∧Int.tmod c r.2.1<r.2.1:=by rw[dD (by omega)];exact⟨Int.emod_nonneg _ (by omega),Int.emod_lt_of_pos _ (by omega)⟩
 simp only[ar,ai,ae,c9]at hin⊢;rw[aq (by omega),wrap64 (n:=16*Int.tmod c r.2.1) (by omega) (by omega),wrap64 (by omega) (by omega)];congr 1;omega
theorem JT (l:List bq)(m:List Bytes)(d:Int)(r:Int×Int×Int×Int)(s:Bytes)(hl:l.length≤1000000000)(hm:m.length≤1000000000):rb l m d r s=some (dA l m d r s):=by
 have hA:=JK r r.2.2.2;unfold rb dA;simp only[zL,ae,Pj,yD l m d _ s hl hm (show u7 r r.2.2.2≤9223372036854775807 by omega),ux m (show m.length≤1073741824 by omega)];cases hf:oZ r==0 with|true=>rfl|false=>?_
 cases (s.length:Int) !=16 with|true=>rfl|false=>?_
 have hb:eO r=true:=by cases hb:eO r with|true=>rfl|false=>unfold oZ at hf;rw[hb]at hf;cases hf
 have h:=uF hb;simp only[ai,ae,c9];cases hp:(sf l m d (u7 r r.2.2.2) s true).2 with|false=>simp only[cp,ah,OZ hp]|true=>simp only[ar,ai];rw[wrap64 (n:=2*r.2.1) (by omega) (by omega),aq (by omega),wrap64 (n:=r.2.2.2+1) (by omega) (by omega)]
theorem Gz {p:dZ}(h:dX p=true):0≤p.1∧p.1≤130944∧1≤p.2.1∧p.2.1≤512∧0≤p.2.2.1∧p.2.2.1≤16:=by simp only[dX,ab,br]at h;exact⟨h.1.1,h.1.2,h.2.1.1,h.2.1.2,h.2.2.1.1,h.2.2.1.2⟩
def NJ (p:dZ)(i:Int):Int:=bif !dX p|| !cM i 0 (p.2.2.1-1) then-1 else p.1+i*p.2.1
theorem SZ {p:dZ}{i:Int}(hp:dX p=true)(hi:cM i 0 (p.2.2.1-1)=true):aw (p.1+aw (i*p.2.1))=p.1+i*p.2.1:=by have h:=Gz hp;have h2:=br.1 hi;have h3:0≤i*p.2.1:=Int.mul_nonneg h2.1 (by omega);have h4:i*p.2.1≤16*512:=Int.mul_le_mul (by omega) (by omega) (by omega) (by omega);rw[wrap64 (n:=i*p.2.1) (by omega) (by omega),wrap64 (by omega) (by omega)]
theorem Rr (p:dZ)(i:Int)(h:p.2.2.2.length≤1000000000):ju p i=some (NJ p i):=by
 unfold ju NJ;rw[qt p h,ae];cases hp:dX p with|false=>rfl|true=>?_
 have hin:=Gz hp;rw[wrap64 (n:=p.2.2.1-1) (by omega) (by omega),bV];cases hi:cM i 0 (p.2.2.1-1)with|false=>rfl|true=>?_
 simp only[ar,ai,ae,c9,SZ hp hi]
def upto (n:Nat):List Int:=(List.range n).map Int.ofNat
theorem Ps (n:Nat):upto (n+1)=upto n++[(n:Int)]:=by simp[upto,List.range_succ]
theorem SC {n i:Nat}(h:i<n):(upto n).getD i 0=(i:Int):=by rw[bT (by simpa[upto]using h)];simp[upto]
theorem LD (a b:Int)(n:Nat)(hn:n≤16):dX (a,b,(n:Int),upto n)=dX (a,b,(n:Int),[]):=by
 unfold dX;congr 3;have h1:(List.range (upto n).length).all (wP (n:Int) (upto n))=true:=by
  rw[az];intro i hi;have hi:i<n:=by simpa[upto]using hi
  simp only[wP,SC hi,ab,br,aB];refine⟨by omega,?_⟩;rw[Bool.eq_false_iff,ne_eq,List.contains_iff_mem];intro hm;simp only[upto,←List.map_take,List.mem_map]at hm;obtain⟨j,hj,he⟩:=hm;rw[List.take_range]at hj;have:=bf.1 hj;have:(j:Int)=(i:Int):=he;omega
 rw[h1];rfl
def iR (a b n:Int):dZ×Bool:=bif dX (a,b,n,[]) then((a,b,n,upto n.toNat),true) else((0,0,0,[]),false)
theorem Ao (a b n:Int):oH a b n=some (iR a b n):=by
 have hfu:=eF;unfold oH iR;by_cases hn:0≤n∧n≤16;obtain⟨n,rfl⟩:=bd hn.1;have h16:n≤16:=by omega
 refine dT (λi=>((i:Int),a,b,(n:Int),upto i)) n (by omega) (λi nx hi=>?_) (λnx=>?_);simp only[jI];rw[aj (show(i:Int)<n by omega),aj (show(n:Int)≤16 by omega)];simp only[ah,ae];rw[aK (by simp[upto];omega),wrap64 (by omega) (by omega),Ps];rfl;simp only[jI];rw[af (show¬(n:Int)<n by omega)];simp only[ai,ae,qt (a,b,(n:Int),upto n) (show(upto n).length≤1000000000 by simp[upto];omega),LD a b n h16,aH];cases dX (a,b,(n:Int),[])<;>rfl;have hb:dX (a,b,n,[])=false:=by cases hp:dX (a,b,n,[])with|false=>rfl|true=>have:=Gz hp;exact absurd ⟨this.2.2.2.2.1,this.2.2.2.2.2⟩ hn
 obtain⟨f,hf⟩:∃f,fuel=f+1:=⟨fuel-1,by omega⟩
 rw[hf,aZ];simp only[jI];have hc:(cond (decide ((0:Int)<n)) (some (decide (n≤16))) (some false))=some false:=by by_cases h0:(0:Int)<n;rw[aj h0,af (by omega)];rfl;rw[af h0];rfl
 rw[hc];simp only[ae,ai,qt (a,b,n,[]) (show([]:List Int).length≤1000000000 by simp),hb];rfl
def descOf (p:dZ)(b:Int):Bytes:=Ta (3,0,p.2.1,NJ p b,0,b)
def nv (l:List bq)(d:Int)(p:dZ):List Int→List Bytes→(Int×Int×Int×Int)→Nat×List Bytes×(Int×Int×Int×Int)
 |[],m,r=>(0,m,r)
 |b::q,m,r=>bif (dA l m d r (descOf p b)).2.2 then
   ((nv l d p q (dA l m d r (descOf p b)).1 (dA l m d r (descOf p b)).2.1).1+1,(nv l d p q (dA l m d r (descOf p b)).1 (dA l m d r (descOf p b)).2.1).2)
  else(0,m,r)
theorem yx (l:List bq)(m:List Bytes)(d:Int)(r:Int×Int×Int×Int)(s:Bytes):(dA l m d r s).1.length=m.length:=by
 unfold dA;cases (oZ r==0)||((s.length:Int) !=16)with|true=>rfl|false=>?_
 cases (sf l m d (u7 r r.2.2.2) s true).2 with|false=>rfl|true=>exact CV ..
theorem Ep (l:List bq)(d:Int)(p:dZ):∀(q:List Int)(m:List Bytes)(r:Int×Int×Int×Int),(nv l d p q m r).2.1.length=m.length∧(nv l d p q m r).1≤q.length
 |[],m,r=>⟨rfl,aQ _⟩
 |b::q,m,r=>by rw[nv];cases (dA l m d r (descOf p b)).2.2 with|false=>exact⟨rfl,bt _⟩|true=>have:=Ep l d p q (dA l m d r (descOf p b)).1 (dA l m d r (descOf p b)).2.1;simp only[ah,bD];exact⟨by rw[this.1,yx],by omega⟩
theorem Qk (r:Int×Int×Int×Int):0≤oZ r:=by
 unfold oZ;cases hb:eO r with
 |false=>exact eH _
 |true=>
  have h:=uF hb;simp only[eO,ab,aD]at hb;have hu:=hb.2.2.2.2;have h0:0≤eX r:=by unfold eX;split;exact Int.emod_nonneg _ (by omega);exact eH _
  simp only[ah];rw[wrap64 (by omega) (by omega)];omega
theorem GC {l:List bq}{m:List Bytes}{d:Int}{r:Int×Int×Int×Int}{s:Bytes}(h:¬oZ r>0):dA l m d r s=(m,r,false):=by
 have h0:=Qk r;have:oZ r=0:=by omega
 unfold dA;rw[this];rfl
theorem yE {R:Type}(K:Int→(Int×Int×Int×Int)→List Bytes→dZ→Option R)(l:List bq)(d:Int)(p p2:dZ)(hp:p.2.2.2.length≤1000000000)(hl:l.length≤1000000000)(A B C:Int):∀(rest:List Int)(c:Nat)(m:List Bytes)(r:Int×Int×Int×Int)(f:Nat),rest.length<f→c+rest.length≤1000000000→m.length≤1000000000→
 aZ (iT K l d p ([]:List Bytes) (0,0,0,0) p2) f ((c:Int),r,m,A,B,C,rest)=K ((c+(nv l d p rest m r).1:Nat):Int) (nv l d p rest m r).2.2 (nv l d p rest m r).2.1 (A,B,C,rest.drop (nv l d p rest m r).1)
 |rest,c,m,r,0,hf,_,_=>by omega
 |[],c,m,r,f+1,_,_,_=>by
  rw[aZ];simp only[iT,zL,ae];have hc:(cond (decide (oZ r>0)) (some (decide ((([]:List Int).length:Int)>0))) (some false))=some false:=by cases decide (oZ r>0)<;>rfl
  rw[hc];rfl
 |b::q,c,m,r,f+1,hf,hn,hm=>by
  simp only[bD]at hf hn;rw[aZ];simp only[iT,zL,ae];by_cases hr:oZ r>0;rw[aj hr,aj (show(((b::q).length:Nat):Int)>0 by simp)];have hi:idx (b::q) 0=some b:=rfl;have hs:sub (b::q) 1 ((b::q).length:Int)=some q:=by unfold sub;rw[au (by simp;omega)];simp
  simp only[ah,ae,hi,Rr p b hp,TW,JT l m d r _ hl hm];rw[show Ta (3,0,p.2.1,NJ p b,0,b)=descOf p b from rfl,nv];cases hq:(dA l m d r (descOf p b)).2.2 with|false=>rfl|true=>simp only[ar,ai,ah,hs,ae];rw[gW (by omega),wrap64 (n:=(c:Int)+1) (by omega) (by omega),bu];have key:=yE K l d p p2 hp hl A B C q (c+1) (dA l m d r (descOf p b)).1 (dA l m d r (descOf p b)).2.1 f (by omega) (by omega) (by rw[yx];exact hm);rw[show((c+1:Nat):Int)=(c:Int)+1 by omega]at key;refine Eq.trans key ?_;rw[show c+1+(nv l d p q (dA l m d r (descOf p b)).1 (dA l m d r (descOf p b)).2.1).1=c+((nv l d p q (dA l m d r (descOf p b)).1 (dA l m d r (descOf p b)).2.1).1+1) by omega];rfl
  rw[af hr,nv,GC hr];rfl
def rM (l:List bq)(m:List Bytes)(d:Int)(r:Int×Int×Int×Int)(p:dZ):List Bytes×(Int×Int×Int×Int)×dZ×Int:=
 bif !eO r|| !dX p then(m,r,p,0) else
 ((nv l d p p.2.2.2 m r).2.1,(nv l d p p.2.2.2 m r).2.2,(p.1,p.2.1,p.2.2.1,p.2.2.2.drop (nv l d p p.2.2.2 m r).1),((nv l d p p.2.2.2 m r).1:Int))
theorem Ru (l:List bq)(m:List Bytes)(d:Int)(r:Int×Int×Int×Int)(p:dZ)(hl:l.length≤1000000000)(hm:m.length≤1000000000)(hp:p.2.2.2.length≤1000000000):pR l m d r p=some (rM l m d r p):=by
 have hfu:=eF;unfold pR rM;simp only[ux m (show m.length≤1073741824 by omega),CB p hp,vN,qt p hp,ae];cases eO r with|false=>rfl|true=>?_
 cases dX p with|false=>rfl|true=>?_
 simp only[ar,ai,ae,c9];refine(yE _ l d p _ hp hl p.1 p.2.1 p.2.2.1 p.2.2.2 0 m r fuel (by omega) (by omega) hm).trans ?_;rw[bM]
def O0 (m:List Bytes)(p:Int×Int):Bytes:=bif kK m p.1 p.2 then ack m p.1.toNat p.2.toNat else []
def KB (l:List bq)(m:List Bytes)(d a n:Int):Bytes×Bool:=
 bif (mw l m d a n false).2 then((mw l m d a n false).1.flatMap (O0 m),true) else([],false)
def F3 (s:Bytes):(Int×Int×Int×Int×Int)×Int×Bool:=
 bif ((s.length:Int) !=16)||decide (dK s 12>1) then((0,0,0,0,0),0,false) else((cy s 0,cy s 2,cy s 4,cy s 6,dK s 8),dK s 12,true)
def XI (q:Int×Int×Int):Int:=bif decide (q.2.2<q.2.1) then 1 else 0
def Nb (q:Int×Int×Int):Int:=q.1+Int.tmod q.2.2 q.2.1*16
def abD (q:Int×Int×Int):Int×Int×Int:=(q.1,q.2.1,Int.tmod (q.2.2+1) (2*q.2.1))
def TF (l:List bq)(m:List Bytes)(d:Int)(q:Int×Int×Int):Bool:=
 uD q&&((KB l m d (Nb q) 16).2&&((F3 (KB l m d (Nb q) 16).1).2.2&&((F3 (KB l m d (Nb q) 16).1).2.1==XI q)))
def CN (l:List bq)(m:List Bytes)(d:Int)(q:Int×Int×Int):(Int×Int×Int×Int×Int)×(Int×Int×Int)×Bool:=
 bif TF l m d q then((F3 (KB l m d (Nb q) 16).1).1,abD q,true) else((0,0,0,0,0),q,false)
def aer (l:List bq)(m:List Bytes)(d a n:Int):Bool:=(KB l m d a n).2&&((yy (KB l m d a n).1).2==0)
def Uw (l:List bq)(m:List Bytes)(d:Int)(s:List Stream×eE×dZ):List Stream×eE×dZ:=
 ((bif aer l m d (NJ s.2.2 (CN l m d s.2.1.2.2.1).1.1) (CN l m d s.2.1.2.2.1).1.2.1 then rH s.1 (yy (KB l m d (NJ s.2.2 (CN l m d s.2.1.2.2.1).1.1) (CN l m d s.2.1.2.2.1).1.2.1).1).1 else s.1),
   (s.2.1.1,s.2.1.2.1,(CN l m d s.2.1.2.2.1).2.1,s.2.1.2.2.2),(NX s.2.2 [(CN l m d s.2.1.2.2.1).1.1]).1)
def vJ (l:List bq)(m:List Bytes)(d:Int):Nat→List Stream×eE×dZ→Nat×(List Stream×eE×dZ)
 |0,s=>(0,s)
 |k+1,s=>bif !(CN l m d s.2.1.2.2.1).2.2 then(0,s) else((vJ l m d k (Uw l m d s)).1+1,(vJ l m d k (Uw l m d s)).2)
def Jp (l:List bq)(m:List Bytes)(d:Int)(rx:eE)(pl:dZ)(st:List Stream)(n:Int):List Bytes×eE×dZ×List Stream×Int:=
 bif !SO rx||(!dX pl|| !cM n 0 1000) then(m,rx,pl,st,0) else
 ((rM l m d (vJ l m d n.toNat (st,rx,pl)).2.2.1.1 (vJ l m d n.toNat (st,rx,pl)).2.2.2).1,
   ((rM l m d (vJ l m d n.toNat (st,rx,pl)).2.2.1.1 (vJ l m d n.toNat (st,rx,pl)).2.2.2).2.1,(vJ l m d n.toNat (st,rx,pl)).2.2.1.2),
   (rM l m d (vJ l m d n.toNat (st,rx,pl)).2.2.1.1 (vJ l m d n.toNat (st,rx,pl)).2.2.2).2.2.1,(vJ l m d n.toNat (st,rx,pl)).2.1,((vJ l m d n.toNat (st,rx,pl)).1:Int))
end
end Go.Pu
