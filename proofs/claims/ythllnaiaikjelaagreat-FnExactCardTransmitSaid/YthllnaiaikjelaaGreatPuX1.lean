import Derived.Test.YthllnaiaikjelaaGreatDnData
import Derived.Test.YthllnaiaikjelaaGreatPure
namespace Go.Pu
open Go.Dn
open List (range)
open BitVec (toNat)
open Int (tdiv fdiv tmod)
set_option linter.unusedSimpArgs false
set_option linter.unusedVariables false
noncomputable section
variable {s t x:Bytes} {f:Int->ar Int} {a c o:Nat} {p:aM} {R X α σ:Type} {l:aq aL} {m:cy}
/- Plain laws of the partial operations and of loops. -/
theorem ai {n:Int}(h1: -9223372036854775808<=n)(h2:n<=9223372036854775807):ak n=n:=by grind[IntKind.wrap,IntKind.bits,IntKind.signed]
@[simp] theorem ab (a:α)(k:α->ar R):aa (some a) k=k a:=rfl
@[simp] theorem agW (k:α->ar R):aa none k=none:=rfl
@[simp] theorem acp (c:Bool)(x y:α)(k:α->ar R):aa (cond c (some x) (some y)) k=k (cond c x y):=by cases c<;>rfl
theorem bM (c:Bool)(x y:α):cond c (some x) (some y)=some (cond c x y):=by cases c<;>rfl
theorem aP {n:Nat}{k:ar R}(h:n<=1073741824):room n k=k:=by simp[room,h]
theorem SK (xs:aq α)(i:Nat):idx xs (i:Int)=xs[i]?:=rfl
theorem aY {xs:aq α}{i:Nat}(h:i<xs.length):idx xs (i:Int)=some xs[i]:=by grind[SK]
def upK (step:Nat->σ->(σ->ar R)->ar R)(fin:σ->ar R)(N:Nat):Nat->Nat->σ->ar R
 |0,_,s=>fin s
 |n+1,i,s=>step i s (λs'=>upK step fin N n (i+1) s')
theorem Ho {T:(X->ar R)->X->ar R}(N:Nat)(e:σ->Nat->X)(step:Nat->σ->(σ->ar R)->ar R)(fin:σ->ar R)(hs:∀i s nx,i<N->T nx (e s i)=step i s (λs'=>nx (e s' (i+1))))(hf:∀s nx,T nx (e s N)=fin s): ∀n i s,i<=N->N-i<n->aJ T n (e s i)=upK step fin N (N-i) i s:=by
 intro n;induction n with
 |zero=>intro i s _ h;omega
 |succ n ih=>
  intro i s hi hn;rw[aJ];rcases bH i N with gM|Ad;rw[hs i s _ gM,show N-i=(N-(i+1))+1 by omega,upK];congr 1;funext s';exact ih (i+1) s' (by omega) (by omega);have:i=N:=by omega
  subst this;rw[hf,jw,upK]
def uA (step:α->σ->(σ->ar R)->ar R)(fin:σ->ar R):aq α->σ->ar R
 |[],s=>fin s
 |x::xs,s=>step x s (uA step fin xs)
theorem xp {T:(X->ar R)->X->ar R}(xs:aq α)(e:σ->Nat->X)(step:α->σ->(σ->ar R)->ar R)(fin:σ->ar R)(hs:∀i (h:i<xs.length) s nx,T nx (e s i)=step xs[i] s (λs'=>nx (e s' (i+1))))(hf:∀s nx,T nx (e s xs.length)=fin s): ∀n i s,i<=xs.length->xs.length-i<n->aJ T n (e s i)=uA step fin (xs.drop i) s:=by
 intro n;induction n with
 |zero=>intro i s _ h;omega
 |succ n ih=>
  intro i s hi hn;rw[aJ];rcases bH i xs.length with gM|Ad;rw[hs i gM s _,cc gM,uA];congr 1;funext s';exact ih (i+1) s' (by omega) (by omega);have:i=xs.length:=by omega
  subst this;rw[hf,List.drop_length,uA]
def kK:(t:CT)->t.D->Nat
 | .int _,_=>0
 | .bool,_=>0
 | .str,s=>s.length
 | .sl e,xs=>xs.length+(xs.map (kK e)).sum
 | .pair a b,x=>kK a x.1+kK b x.2
def cr (n:Nat):(t:CT)->t.D->Prop
 | .int _,_=>True
 | .bool,_=>True
 | .str,s=>s.length<=n
 | .sl e,xs=>xs.length<=n/\∀x∈xs,cr n e x
 | .pair a b,x=>cr n a x.1/\cr n b x.2
theorem I1 (f:α->Nat):∀(xs:aq α)(x:α),x∈xs->f x<=(xs.map f).sum
 |y::ys,x,h=>by rcases bU.1 h with rfl|h;simp;have:=I1 f ys x h;simp;omega
theorem HH {n:Nat}:∀{t:CT}{x:t.D},kK t x<=n->cr n t x
 | .int _,_,_=>trivial
 | .bool,_,_=>trivial
 | .str,_,h=>h
 | .sl e,xs,h=>by simp only[kK]at h;exact⟨by omega,λx hx=>HH (by have:=I1 (kK e) xs x hx;omega)⟩
 | .pair a b,x,h=>by simp only[kK]at h;exact⟨HH (by omega),HH (by omega)⟩
theorem cr.mono {n m:Nat}(h:n<=m:=by omega):∀{t:CT}{x:t.D},cr n t x->cr m t x
 | .int _,_,_=>trivial
 | .bool,_,_=>trivial
 | .str,_,k=>bf k h
 | .sl _,_,k=>⟨bf k.1 h,λx hx=>cr.mono h (k.2 x hx)⟩
 | .pair _ _,_,k=>⟨cr.mono h k.1,cr.mono h k.2⟩
def og:(t:CT)->t.D->Prop
 | .int k,n=>k.min<=n/\n<=k.max
 | .bool,_=>True
 | .str,s=>s.length<=9223372036854775807
 | .sl e,xs=>xs.length<=9223372036854775807/\∀x∈xs,og e x
 | .pair a b,x=>og a x.1/\og b x.2
def ky (l n:Int):Int:=if n<=l then l-n else-1
def Nf {β:Type}(f:α->ar β)(k0:aq β->Int->ar R)(v0:aq α)(nx:aq β×Int->ar R)(x:aq β×Int):ar R:=
 cond (decide (x.2<(List.length v0:Int))) (
  aa (idx v0 x.2) λx1=>
  aa (f x1) λr2=>
  aa (idx x.1 x.2) λ_=>
  aa (idx x.1 x.2) λ_=>
  nx (List.set x.1 (Int.toNat x.2) r2,ak (x.2+1))) (
  k0 x.1 x.2)
noncomputable def TE {β:Type}(f:α->ar β)(z:β)(a0:aq α):ar (aq β):=
 if 0<=((List.length a0:Int))/\((List.length a0:Int))<=((List.length a0:Int)) then(
 room (Int.toNat ((List.length a0:Int))) (
 aJ (Nf f (λy5 _=>some y5) a0) fuel (List.replicate (Int.toNat ((List.length a0:Int))) z,0))) else none
theorem jG {f:α->ar α}{z:α}{a:aq α}(hn:a.length<=1073741824)(hf:∀x∈a,f x=some x):TE f z a=some a:=by
 unfold TE;have Fq:=dX;rw[zip,aP (by omega)]
 have key:=Ho (T:=Nf f (λy5 _=>some y5) a) a.length (λ(_) i=>(a.take i++List.replicate (a.length-i) z,(i))) (λ_ s k=>k s) (λ_=>some a)
  (λi s nx hi=>by
   have h1:(a.take i).length=i:=by simp;omega
   have hl:i<(a.take i++List.replicate (a.length-i) z).length:=by simp;omega
   simp only[Nf];rw[jh];simp only[af,aY hi,ab,hf _ (aN hi),aY hl];congr 1;refine Prod.ext ?_ (ai (by omega) (by omega));simp only[aA];rw[List.set_append_right _ _ (by omega),h1,jw,aU hi,show a.length-i=(a.length-(i+1))+1 by omega,List.replicate_succ,List.set_cons_zero,aO,List.singleton_append])
  (λs nx=>by grind[Nf])
  fuel 0 () (by omega) (by omega)
 simp only[List.take_zero,cp,Nat.sub_zero,aA]at key⊢;have e:((0:Nat):Int)=0:=rfl;rw[e]at key;rw[key];have:∀n i,upK (λ_ (s) k=>k s) (λ_=>some a) a.length n i ()=some a:=by intro n;induction n with|zero=>intro i;rfl|succ n ih=>grind[upK]
 exact this _ _
def Nd (f:α->Int->ar Int)(k0:Int->Int->ar R)(k1:Int->Int->Int->ar R)(v0:aq α)(nx:Int×Int->ar R)(x:Int×Int):ar R:=
 cond (decide (x.2<((List.length v0:Int)))) (
  aa (idx v0 x.2) λx1=>
  aa (f x1 x.1) λr2=>
  cond (decide (r2<0)) (
   k1 r2 (-1) x.2) (
   nx (r2,ak (x.2+1)))) (
  k0 x.1 x.2)
noncomputable def Nc (f:α->Int->ar Int)(a0:aq α)(a1:Int):ar Int:=
 cond (decide ((ak (a1-((List.length a0:Int))))<0)) (
  some (-1)) (
  aJ (Nd f (λy3 _=>some y3) (λ_ y6 _=>some y6) a0) fuel (ak (a1-((List.length a0:Int))),0))
theorem Pm {f:α->Int->ar Int}{s:α->Nat}{a:aq α}{l:Int}(h0:0<=l)(h1:l<=1048576)(hm:a.length<=9223372036854775807)(hf:∀x∈a,∀l:Int,0<=l->l<=1048576->∃r,f x l=some r/\((s x:Int)<=l->r=l-s x)/\(¬(s x:Int)<=l->r<0)):Nc f a l=some (ky l ((a.length+(a.map s).sum:Nat):Int)):=by
 unfold Nc;have Fq:=dX;rw[ai (by omega) (by omega)];rcases Int.lt_or_le (l-a.length) 0 with apK|aaI;rw[aw apK];simp only[af,ky];rw[mL];rw[gZ];simp only[ae];have key:=xp (T:=Nd f (λy3 _=>some y3) (λ_ y6 _=>some y6) a) a (λ(q) i=>(q,(i))) (λx q k=>aa (f x q) λr=>cond (decide (r<0)) (some (-1)) (k r)) (λq=>some q) (λi hi q nx=>by simp only[Nd];rw[jh];simp only[af,aY hi,ab];rw[ai (by omega) (by omega)];rfl) (λq nx=>by simp only[Nd];rw[gZ];rfl) fuel 0 (l-a.length) (by omega) (by omega);have e:((0:Nat):Int)=0:=rfl;rw[e,fj]at key;rw[key];have main:∀(b:aq α)(q:Int),0<=q->q<=1048576->(∀x∈b,x∈a)->uA (λx q k=>aa (f x q) λr=>cond (decide (r<0)) (some (-1)) (k r)) (λq=>some q) b q=some (ky q ((b.map s).sum)):=by intro b;induction b with|nil=>intro q hq _ _;simp[uA,ky,hq]|cons x b ih=>intro q hq XE hb;obtain⟨r,hr,hr1,P0⟩:=hf x (hb x (by simp)) q hq XE;rw[uA,hr,ab];by_cases hle:(s x)<=q;rw[gZ];simp only[ae];rw[ih _ (by omega) (by omega) (λy hy=>hb y (by simp[hy]))];simp only[ky,dC,List.sum_cons];congr 1;split<;>split<;>omega;rw[aw (P0 hle)];simp only[af,ky,dC,List.sum_cons];rw[mL]
 rw[main a _ (by omega) (by omega) (λx h=>h)];simp only[ky];congr 1;split<;>split<;>omega
def MV (f:α->α->ar Bool)(k0:Int->ar R)(k1:Bool->Int->ar R)(v0 v1:aq α)(nx:Int->ar R)(x:Int):ar R:=
 cond (decide (x<((List.length v0:Int)))) (
  aa (idx v0 x) λx1=>
  aa (idx v1 x) λx2=>
  aa (f x1 x2) λr3=>
  cond (!r3) (
   k1 false x) (
   nx (ak (x+1)))) (
  k0 x)
noncomputable def Sl (f:α->α->ar Bool)(a0 a1:aq α):ar Bool:=
 cond (((List.length a0:Int)) !=((List.length a1:Int))) (
  some false) (
  aJ (MV f (λ_=>some true) (λy5 _=>some y5) a0 a1) fuel 0)
theorem gH {f:α->α->ar Bool}{a:aq α}(hm:a.length<=1000000000000)(hf:∀x∈a,f x x=some true):Sl f a a=some true:=by
 unfold Sl;have Fq:=dX;have key:=xp (T:=MV f (λ_=>some true) (λy5 _=>some y5) a a) a (λ(_) i=>(i)) (λx s k=>aa (f x x) λr=>cond (!r) (some false) (k s)) (λ_=>some true) (λi hi s nx=>by grind[MV,aY,ab,ai]) (λs nx=>by grind[MV]) fuel 0 () (by omega) (by omega);have main:∀(b:aq α),(∀x∈b,x∈a)->uA (λx s k=>aa (f x x) λr=>cond (!r) (some false) (k s)) (λ_=>some true) b ()=some true:=by intro b;induction b with|nil=>intro _;rfl|cons x b ih=>grind[uA,ab]
 grind
theorem Jf {z:α}{a:aq α}(hn:a.length<=1073741824):TE some z a=some a:=jG hn (λ_ _=>rfl)
theorem Ed [BEq α][LawfulBEq α]{a:aq α}(hm:a.length<=1000000000000):Sl (λx y:α=>some (x==y)) a a=some true:=gH hm (λx _=>by simp)
theorem zm {f:α->Nat}:∀{xs:aq α},(∀x∈xs,f x=0)->(xs.map f).sum=0
 |[],_=>rfl
 |x::xs,h=>by have:=zm (xs:=xs) (λy hy=>h y (by simp[hy]));grind
def cU (f:Int->ar Int)(n:Nat):Prop:=∀l:Int,0<=l->l<=1048576->f l=some (ky l n)
theorem cU.nil:cU (λl=>some l) 0:=λl h0 _=>by simp[ky,h0]
theorem cU.len {n m:Nat}(hn:n<=9223372036854775807){k:Int->ar Int}(h:cU k m): cU (λl=>cond (decide (ak (l-(n:Int))<0)) (some (-1)) (k (ak (l-(n:Int))))) (n+m):=by intro l h0 h1;simp only;rw[ai (by omega) (by omega)];by_cases hl:l-(n)<0;rw[aw hl];simp only[af,ky];rw[mL];rw[al hl];simp only[ae];rw[h _ (by omega) (by omega)];simp only[ky];congr 1;split<;>split<;>omega
theorem cU.sub {k:Int->ar Int}{n m:Nat}(hf:cU f n)(h:cU k m):cU (λl=>aa (f l) λr=>cond (decide (r<0)) (some (-1)) (k r)) (n+m):=by
 intro l h0 h1;simp only;rw[hf l h0 h1,ab];by_cases hl:(n)<=l;have e:ky l n=l-n:=by simp[ky,hl]
 rw[e,gZ];simp only[ae];rw[h _ (by omega) (by omega)];simp only[ky];congr 1;split<;>split<;>omega;have e:ky l n= -1:=by simp[ky,hl]
 rw[e];simp only[ky];rw[mL];rfl
theorem cU.cast {n m:Nat}(h:cU f n)(e:n=m):cU f m:=e▸h
theorem cU.list {f:α->Int->ar Int}{s:α->Nat}{a:aq α}(hm:a.length<=9223372036854775807)(hf:∀x∈a,cU (f x) (s x)):cU (Nc f a) (a.length+(a.map s).sum):=λ_ h0 h1=>Pm h0 h1 hm (λx hx l h0 h1=>⟨_,hf x hx l h0 h1,λh=>by simp[ky,h],λh=>by simp[ky,h]⟩)
theorem cU.flat {n:Nat}(hn:n<=9223372036854775807):cU (λl=>cond (decide (ak (l-(n:Int))<0)) (some (-1)) (some (ak (l-(n:Int))))) n:=(cU.len hn cU.nil).cast (by omega)
theorem cU.strs {a:aq (aq UInt8)}(hm:og (.sl .str) a):cU (Nc (λx l=>some (ak (l-(x.length:Int)))) a) (kK (.sl .str) a):=λ_ h0 h1=>Pm h0 h1 hm.1 (λx hx l h0 h1=>⟨l-x.length,by have:x.length<=9223372036854775807:=hm.2 x hx;grind[ai],λ_=>rfl,λh=>by grind[kK]⟩)
theorem cU.use {n:Nat}(hf:cU f n){l:Int}(h0:0<=l)(h1:l<=1048576){k:Int->ar Bool}(hk:(n:Int)<=l->k (l-n)=some true): (aa (f l) λr=>cond (decide (r<0)) (some true) (k r))=some true:=by
 rw[hf l h0 h1,ab];by_cases hl:(n)<=l;have e:ky l n=l-n:=by simp[ky,hl]
 rw[e,gZ];exact hk hl;have e:ky l n= -1:=by simp[ky,hl]
 rw[e];rfl
theorem F1 {T:(Int->ar R)->Int->ar R}{fin hit:ar R}(p:α->Bool)(a:aq α)(h:a.length<=1000000000000)(hs:∀i (hi:i<a.length) nx,T nx (i:Int)=cond (p a[i]) hit (nx ((i+1:Nat):Int)))(hf:∀nx,T nx (a.length:Int)=fin): aJ T fuel 0=cond (a.any p) hit fin:=by
 have Fq:=dX;have key:∀n i,i<=a.length->a.length-i<n->aJ T n (i)=cond ((a.drop i).any p) hit fin:=by
  intro n;induction n with
  |zero=>intro i _ h;omega
  |succ n ih=>
   intro i hi hn;rw[aJ];rcases bH i a.length with gM|Ad;rw[hs i gM,cc gM,List.any_cons];cases hq:p a[i]with|true=>rfl|false=>exact ih (i+1) (by omega) (by omega)
   have:i=a.length:=by omega
   subst this;rw[hf,List.drop_length];rfl
 exact key fuel 0 (by omega) (by omega)
theorem fQ {T:(Int->ar R)->Int->ar R}{fin hit:ar R}(p:Nat->Bool)(N:Nat)(h:N<=1000000000000)(hs:∀i nx,i<N->T nx (i:Int)=cond (!(p i)) hit (nx ((i+1:Nat):Int)))(hf:∀nx,T nx (N:Int)=fin): aJ T fuel 0=cond ((range N).all p) fin hit:=by
 have Fq:=dX;have key:∀n i,i<=N->N-i<n->aJ T n (i)=cond ((List.range' i (N-i)).all p) fin hit:=by
  intro n;induction n with
  |zero=>intro i _ h;omega
  |succ n ih=>
   intro i hi hn;rw[aJ];rcases bH i N with gM|Ad;rw[hs i _ gM,show N-i=(N-(i+1))+1 by omega,List.range'_succ,bC];cases hq:p i with|false=>rfl|true=>exact ih (i+1) (by omega) (by omega)
   have:i=N:=by omega
   subst this;rw[hf,jw];rfl
 have:=key fuel 0 (by omega) (by omega);rw[Nat.sub_zero,<-List.range_eq_range']at this;exact this
theorem qU {T:(Int->ar R)->Int->ar R}{fin hit:ar R}(p:α->Bool)(a:aq α)(h:a.length<=1000000000000)(hs:∀i (hi:i<a.length) nx,T nx (i:Int)=cond (!(p a[i])) hit (nx ((i+1:Nat):Int)))(hf:∀nx,T nx (a.length:Int)=fin): aJ T fuel 0=cond (a.all p) fin hit:=by have:=F1 (λx=> !(p x)) a h hs hf;grind
theorem G4 {T:(X->ar R)->X->ar R}{fin hit:ar R}(e:Nat->X)(p:Nat->Bool)(N:Nat)(h:N<=1000000000000)(hs:∀i nx,i<N->(∀j,j<i->p j=true)->T nx (e i)=cond (!(p i)) hit (nx (e (i+1))))(hf:(∀j,j<N->p j=true)->∀nx,T nx (e N)=fin): aJ T fuel (e 0)=cond ((range N).all p) fin hit:=by
 have Fq:=dX;have key:∀n i,i<=N->N-i<n->(∀j,j<i->p j=true)->aJ T n (e i)=cond ((List.range' i (N-i)).all p) fin hit:=by
  intro n;induction n with
  |zero=>intro i _ h;omega
  |succ n ih=>
   intro i hi hn hp;rw[aJ];rcases bH i N with gM|Ad;rw[hs i _ gM hp,show N-i=(N-(i+1))+1 by omega,List.range'_succ,bC];cases hq:p i with|false=>rfl|true=>refine ih (i+1) (by omega) (by omega) λj hj=>?_;by_cases hji:j=i;rw[hji];exact hq;exact hp j (by omega)
   have:i=N:=by omega
   subst this;rw[hf hp,jw];rfl
 have:=key fuel 0 (by omega) (by omega) (λj hj=>absurd hj (by omega));rw[Nat.sub_zero,<-List.range_eq_range']at this;exact this
theorem K3 {T:(Int->ar R)->Int->ar R}{fin:ar R}{hit:Int->ar R}(p:α->Bool)(a:aq α)(h:a.length<=1000000000000)(hs:∀i (hi:i<a.length) nx,T nx (i:Int)=cond (p a[i]) (hit (i:Int)) (nx ((i+1:Nat):Int)))(hf:∀nx,T nx (a.length:Int)=fin): aJ T fuel 0=(match a.findIdx? p with|some i=>hit (i:Int)|none=>fin):=by
 have Fq:=dX;have key:∀n i,i<=a.length->a.length-i<n->aJ T n (i)=(match (a.drop i).findIdx? p with|some j=>hit ((i+j:Nat))|none=>fin):=by
  intro n;induction n with
  |zero=>intro i _ h;omega
  |succ n ih=>
   intro i hi hn;rw[aJ];rcases bH i a.length with gM|Ad;rw[hs i gM,cc gM,List.findIdx?_cons];cases hq:p a[i]with|true=>rfl|false=>have:=ih (i+1) (by omega) (by omega);refine this.trans ?_;cases (a.drop (i+1)).findIdx? p with|none=>rfl|some j=>simp only[db,aW,bV];congr 2;omega
   have:i=a.length:=by omega
   subst this;rw[hf,List.drop_length];rfl
 have:=key fuel 0 (by omega) (by omega);refine this.trans ?_;rw[fj];cases a.findIdx? p with|none=>rfl|some j=>simp only[cj]
theorem cF (a b:Bool):(bif a then b else false)=(a&&b):=by cases a<;>rfl
theorem cT (a b:Bool):(bif a then true else b)=(a||b):=by cases a<;>rfl
theorem cN (a b:Bool):(bif a then false else b)=(!a&&b):=by cases a<;>rfl
def MK (g:α->σ->Except (ar R) σ)(fin:σ->ar R):aq α->σ->ar R
 |[],s=>fin s
 |x::xs,s=>match g x s with| .error r=>r| .ok s'=>MK g fin xs s'
theorem qJ {T:(X->ar R)->X->ar R}(xs:aq α)(e:σ->Nat->X)(Inv:Nat->σ->Prop)(g:α->σ->Except (ar R) σ)(fin:σ->ar R)(h:xs.length<=1000000000000)(hs:∀i (hi:i<xs.length) s nx,Inv i s->T nx (e s i)=match g xs[i] s with| .error r=>r| .ok s'=>nx (e s' (i+1)))(hn:∀i (hi:i<xs.length) s s',Inv i s->g xs[i] s=.ok s'->Inv (i+1) s')(hf:∀s nx,Inv xs.length s->T nx (e s xs.length)=fin s)(s:σ)(h0:Inv 0 s): aJ T fuel (e s 0)=MK g fin xs s:=by
 have key:∀n i s,i<=xs.length->xs.length-i<n->Inv i s->aJ T n (e s i)=MK g fin (xs.drop i) s:=by
  intro n;induction n with
  |zero=>intro i s _ h;omega
  |succ n ih=>
   intro i s hi Ae hI;rw[aJ];rcases bH i xs.length with gM|Ad;rw[hs i gM s _ hI,cc gM,MK];cases hg:g xs[i] s with|error r=>rfl|ok s'=>exact ih (i+1) s' (by omega) (by omega) (hn i gM s s' hI hg)
   have:i=xs.length:=by omega
   subst this;rw[hf s _ hI,List.drop_length,MK]
 have Fq:=dX;have:=key fuel 0 s (by omega) (by omega) h0;rwa[fj]at this
theorem EX (f:σ->α->σ)(fin:σ->ar R):∀(xs:aq α)(s:σ),MK (λx s=> .ok (f s x)) fin xs s=fin (xs.foldl f s)
 |[],_=>rfl
 |x::xs,s=>by exact EX f fin xs (f s x)
theorem dc {T:(X->ar R)->X->ar R}{fin:ar R}(e:Nat->X)(N:Nat)(h:N<=1000000000000)(hs:∀i nx,i<N->T nx (e i)=nx (e (i+1)))(hf:∀nx,T nx (e N)=fin):aJ T fuel (e 0)=fin:=by rw[G4 (hit:=fin) e (λ_=>true) N h (λi nx hi _=>by rw[hs i nx hi];rfl) (λ_ nx=>hf nx)];grind
theorem fy {l:aq α}{k:ar R}(h:l.length<=10^9):room (List.length ([]:aq α)+l.length) k=k:=aP (by grind)
theorem Fa (a:cG)(hm:og (.sl (.int .i64)) a):cU (lC a) (kK (.sl (.int .i64)) a):=(cU.flat (n:=a.length) hm.1).cast (by simp only[kK];rw[zm (λx _=>by simp only[kK])];rfl)
theorem Fb (a:cy)(hm:og (.sl .str) a):cU (nf a) (kK (.sl .str) a):=cU.strs hm
theorem ace (a:cy)(hm:og (.sl .str) a):cU (yd a) (kK (.sl .str) a):=
 cU.cast (f:=yd a) (cU.sub (Fb a hm) cU.nil) (by simp only[kK];try omega)
theorem Wb (a:aq aL)(hm:og (.sl eL) a):cU (zG a) (kK (.sl eL) a):=(cU.flat (n:=a.length) hm.1).cast (by simp only[kK];rw[zm (λx _=>by simp only[kK])];rfl)
theorem Z8 (a:ga)(hm:og mi a):cU (uH a) (kK mi a):=
 cU.cast (f:=uH a) (cU.sub (Fa a.2.2.2 hm.2.2.2) cU.nil) (by simp only[kK];try omega)
theorem age (a:hH)(hm:og mj a):cU (yV a) (kK mj a):=
 cU.cast (f:=yV a) (cU.sub (Fa a.2.2 hm.2.2) cU.nil) (by simp only[kK];try omega)
theorem ae4 (a:aq hH)(hm:og (.sl mj) a):cU (EH a) (kK (.sl mj) a):=cU.list (f:=yV) (s:=kK mj) hm.1 (λx hx=>age x (hm.2 x hx))
theorem YU (a:dk)(hm:og uV a):cU (wj a) (kK uV a):=
 cU.cast (f:=wj a) (cU.sub (Z8 a.2.1 hm.2.1) (cU.sub (ae4 a.2.2.1 hm.2.2.1) cU.nil)) (by simp only[kK];try omega)
theorem YS (a:dA)(hm:og Dd a):cU (wi a) (kK Dd a):=
 cU.cast (f:=wi a) (cU.len (n:=a.2.2.2.2.2.2.2.length) hm.2.2.2.2.2.2.2 cU.nil) (by simp only[kK];try omega)
theorem acf (a:aM)(hm:og B9 a):cU (ye a) (kK B9 a):=
 cU.cast (f:=ye a) (cU.sub (YS a.2.2.2.2.2.2.2.2 hm.2.2.2.2.2.2.2.2) cU.nil) (by simp only[kK];try omega)
theorem ae6 (a:jI)(hm:og Ix a):cU (Au a) (kK Ix a):=
 cU.cast (f:=Au a) (cU.sub (acf a.1 hm.1) cU.nil) (by simp only[kK];try omega)
theorem YR (a:bJ)(hm:og dQ a):cU (qC a) (kK dQ a):=
 cU.cast (f:=qC a) (cU.sub (ae6 a.2.2.2.1 hm.2.2.2.1) cU.nil) (by simp only[kK];try omega)
theorem Wc (a:aq bJ)(hm:og (.sl dQ) a):cU (zH a) (kK (.sl dQ) a):=cU.list (f:=qC) (s:=kK dQ) hm.1 (λx hx=>YR x (hm.2 x hx))
theorem ae2 (a:aq ga)(hm:og (.sl mi) a):cU (EF a) (kK (.sl mi) a):=cU.list (f:=uH) (s:=kK mi) hm.1 (λx hx=>Z8 x (hm.2 x hx))
theorem YV (a:aq Vector)(hm:og (.sl gz) a):cU (BJ a) (kK (.sl gz) a):=(cU.flat (n:=a.length) hm.1).cast (by simp only[kK];rw[zm (λx _=>by simp only[kK])];rfl)
theorem aeZ (a:aq Bool)(hm:og (.sl .bool) a):cU (ED a) (kK (.sl .bool) a):=(cU.flat (n:=a.length) hm.1).cast (by simp only[kK];rw[zm (λx _=>by simp only[kK])];rfl)
theorem RR (a:Filter)(hm:og zZ a):cU (sX a) (kK zZ a):=
 cU.cast (f:=sX a) (cU.sub (Fa a.2.2 hm.2.2) cU.nil) (by simp only[kK];try omega)
theorem ae3 (a:aq fH)(hm:og (.sl pn) a):cU (EG a) (kK (.sl pn) a):=(cU.flat (n:=a.length) hm.1).cast (by simp only[kK];rw[zm (λx _=>by simp only[kK])];rfl)
theorem ae5 (a:aq Slot)(hm:og (.sl kM) a):cU (EI a) (kK (.sl kM) a):=(cU.flat (n:=a.length) hm.1).cast (by simp only[kK];rw[zm (λx _=>by simp only[kK])];rfl)
theorem Tz (a:aq Slot)(hm:og (.sl kM) a):cU (rM a) (kK (.sl kM) a):=
 cU.cast (f:=rM a) (cU.sub (ae5 a hm) cU.nil) (by simp only[kK];try omega)
theorem acg (a:iv)(hm:og G3 a):cU (yf a) (kK G3 a):=
 cU.cast (f:=yf a) (cU.len (n:=a.1.length) hm.1 (cU.sub (Fa a.2 hm.2) cU.nil)) (by simp only[kK];try omega)
theorem Wd (a:eQ)(hm:og xi a):cU (tP a) (kK xi a):=
 cU.cast (f:=tP a) (cU.sub (ae3 a.1 hm.1) (cU.sub (Tz a.2.1 hm.2.1) (cU.sub (acg a.2.2 hm.2.2) cU.nil))) (by simp only[kK];try omega)
theorem ach (a:Stream)(hm:og gb a):cU (sY a) (kK gb a):=
 cU.cast (f:=sY a) (cU.len (n:=a.2.2.1.length) hm.2.2.1 cU.nil) (by simp only[kK];try omega)
theorem YT (a:aq Stream)(hm:og (.sl gb) a):cU (BI a) (kK (.sl gb) a):=cU.list (f:=sY) (s:=kK gb) hm.1 (λx hx=>ach x (hm.2 x hx))
theorem agd (a:Host)(hm:og fF a):cU (yU a) (kK fF a):=
 cU.cast (f:=yU a) (cU.sub (ace a.1 hm.1) (cU.sub (Wb a.2.1 hm.2.1) (cU.sub (YU a.2.2.1 hm.2.2.1) (cU.sub (Wc a.2.2.2.1 hm.2.2.2.1) (cU.sub (ae2 a.2.2.2.2.1 hm.2.2.2.2.1) (cU.sub (YV a.2.2.2.2.2.1 hm.2.2.2.2.2.1) (cU.sub (aeZ a.2.2.2.2.2.2.1 hm.2.2.2.2.2.2.1) (cU.sub (RR a.2.2.2.2.2.2.2.1 hm.2.2.2.2.2.2.2.1) (cU.sub (Wd a.2.2.2.2.2.2.2.2.1 hm.2.2.2.2.2.2.2.2.1) (cU.sub (YT a.2.2.2.2.2.2.2.2.2.1 hm.2.2.2.2.2.2.2.2.2.1) (cU.sub (Fb a.2.2.2.2.2.2.2.2.2.2.2.1 hm.2.2.2.2.2.2.2.2.2.2.2.1) (cU.sub (Fa a.2.2.2.2.2.2.2.2.2.2.2.2.1 hm.2.2.2.2.2.2.2.2.2.2.2.2.1) (cU.sub (Fa a.2.2.2.2.2.2.2.2.2.2.2.2.2.1 hm.2.2.2.2.2.2.2.2.2.2.2.2.2.1) cU.nil))))))))))))) (by simp only[kK];try omega)
theorem ae1 (a:aq Host)(hm:og (.sl fF) a):cU (EE a) (kK (.sl fF) a):=cU.list (f:=yU) (s:=kK fF) hm.1 (λx hx=>agd x (hm.2 x hx))
theorem HU (a:aq aC)(hm:og (.sl bS) a):cU (ng a) (kK (.sl bS) a):=(cU.flat (n:=a.length) hm.1).cast (by simp only[kK];rw[zm (λx _=>by simp only[kK])];rfl)
theorem YQ (a:bO)(hm:og eV a):cU (qB a) (kK eV a):=
 cU.cast (f:=qB a) (cU.sub (RR a.1 hm.1) cU.nil) (by simp only[kK];try omega)
theorem Wa (a:aq bO)(hm:og (.sl eV) a):cU (zF a) (kK (.sl eV) a):=cU.list (f:=qB) (s:=kK eV) hm.1 (λx hx=>YQ x (hm.2 x hx))
theorem ae0 (a:cy)(hm:og (.sl .str) a):cU (As a) (kK (.sl .str) a):=
 cU.cast (f:=As a) (cU.sub (Fb a hm) cU.nil) (by simp only[kK];try omega)
theorem agc (a:dH)(hm:og iB a):cU (Cs a) (kK iB a):=
 cU.cast (f:=Cs a) (cU.sub (ae1 a.1 hm.1) (cU.sub (HU a.2.1 hm.2.1) (cU.sub (Wa a.2.2.1 hm.2.2.1) (cU.sub (ae0 a.2.2.2.1 hm.2.2.2.1) (cU.sub (Fa a.2.2.2.2.2.1 hm.2.2.2.2.2.1) (cU.sub (Fb a.2.2.2.2.2.2 hm.2.2.2.2.2.2) cU.nil)))))) (by simp only[kK];try omega)
theorem pT (a:cG)(h:cr 1048576 (.sl (.int .i64)) a):lD a=some a:=Jf (z:=0) (bf h.1 (by omega))
theorem qR (a:cy)(h:cr 1048576 (.sl .str) a):nk a=some a:=Jf (z:=([]:Bytes)) (bf h.1 (by omega))
theorem RU (a:cy)(h:cr 1048576 (.sl .str) a):sZ a=some a:=by first|(simp only[sZ,qR _ h,ab];done)|(simp only[sZ,qR _ h,ab];rfl)
theorem YX (a:aL)(h:cr 1048576 eL a):wo a=some a:=rfl
theorem Ms (a:aq aL)(h:cr 1048576 (.sl eL) a):zK a=some a:=jG (f:=wo) (z:=(0,0,0,false)) (bf h.1 (by omega)) (λx hx=>YX x (h.2 x hx))
theorem Nh (a:ew)(h:cr 1048576 ui a):Cy a=some a:=rfl
theorem TF (a:ga)(h:cr 1048576 mi a):qD a=some a:=by first|(simp only[qD,pT _ h.2.2.2,ab];done)|(simp only[qD,pT _ h.2.2.2,ab];rfl)
theorem agm (a:hH)(h:cr 1048576 mj a):uJ a=some a:=by first|(simp only[uJ,pT _ h.2.2,ab];done)|(simp only[uJ,pT _ h.2.2,ab];rfl)
theorem Wm (a:aq hH)(h:cr 1048576 (.sl mj) a):EO a=some a:=jG (f:=uJ) (z:=(0,0,([]:cG))) (bf h.1 (by omega)) (λx hx=>agm x (h.2 x hx))
theorem Pt (a:dk)(h:cr 1048576 uV a):qE a=some a:=by first|(simp only[qE,Nh _ h.1,TF _ h.2.1,Wm _ h.2.2.1,ab];done)|(simp only[qE,Nh _ h.1,TF _ h.2.1,Wm _ h.2.2.1,ab];rfl)
theorem oe (a:fZ)(h:cr 1048576 qT a):jW a=some a:=rfl
theorem Pr (a:dA)(h:cr 1048576 Dd a):BN a=some a:=rfl
theorem RV (a:aM)(h:cr 1048576 B9 a):ta a=some a:=by first|(simp only[ta,Pr _ h.2.2.2.2.2.2.2.2,ab];done)|(simp only[ta,Pr _ h.2.2.2.2.2.2.2.2,ab];rfl)
theorem Wo (a:jI)(h:cr 1048576 Ix a):wq a=some a:=by first|(simp only[wq,RV _ h.1,ab];done)|(simp only[wq,RV _ h.1,ab];rfl)
theorem YY (a:bJ)(h:cr 1048576 dQ a):nj a=some a:=by first|(simp only[nj,Nh _ h.1,oe _ h.2.1,oe _ h.2.2.1,Wo _ h.2.2.2.1,ab];done)|(simp only[nj,Nh _ h.1,oe _ h.2.1,oe _ h.2.2.1,Wo _ h.2.2.2.1,ab];rfl)
theorem Mt (a:aq bJ)(h:cr 1048576 (.sl dQ) a):zL a=some a:=jG (f:=nj) (z:=((0,0,0,0),(0,0,0),(0,0,0),((0,0,0,0,0,0,0,0,0,0,0,0,0,0,0,([]:Bytes)),0,0),false,0)) (bf h.1 (by omega)) (λx hx=>YY x (h.2 x hx))
theorem Wk (a:aq ga)(h:cr 1048576 (.sl mi) a):EM a=some a:=jG (f:=qD) (z:=(0,0,0,([]:cG))) (bf h.1 (by omega)) (λx hx=>TF x (h.2 x hx))
theorem acj (a:Vector)(h:cr 1048576 gz a):yg a=some a:=rfl
theorem Pv (a:aq Vector)(h:cr 1048576 (.sl gz) a):BP a=some a:=jG (f:=yg) (z:=(0,0,0,0,false,false)) (bf h.1 (by omega)) (λx hx=>acj x (h.2 x hx))
theorem Wg (a:aq Bool)(h:cr 1048576 (.sl .bool) a):EJ a=some a:=Jf (z:=false) (bf h.1 (by omega))
theorem HJ (a:Filter)(h:cr 1048576 zZ a):oQ a=some a:=by first|(simp only[oQ,pT _ h.2.2,ab];done)|(simp only[oQ,pT _ h.2.2,ab];rfl)
theorem agl (a:fH)(h:cr 1048576 pn a):CA a=some a:=rfl
theorem Wl (a:aq fH)(h:cr 1048576 (.sl pn) a):EN a=some a:=jG (f:=CA) (z:=(0,0,0,0,0,0,0,0,0)) (bf h.1 (by omega)) (λx hx=>agl x (h.2 x hx))
theorem Ng (a:gF)(h:cr 1048576 Dc a):Cx a=some a:=rfl
theorem agn (a:Slot)(h:cr 1048576 kM a):uK a=some a:=by first|(simp only[uK,Ng _ h.2.1,ab];done)|(simp only[uK,Ng _ h.2.1,ab];rfl)
theorem Wn (a:aq Slot)(h:cr 1048576 (.sl kM) a):EP a=some a:=jG (f:=uK) (z:=(0,(0,0,0,0,0),0)) (bf h.1 (by omega)) (λx hx=>agn x (h.2 x hx))
theorem KJ (a:aq Slot)(h:cr 1048576 (.sl kM) a):nh a=some a:=by first|(simp only[nh,Wn _ h,ab];done)|(simp only[nh,Wn _ h,ab];rfl)
theorem RX (a:iv)(h:cr 1048576 G3 a):tc a=some a:=by first|(simp only[tc,pT _ h.2,ab];done)|(simp only[tc,pT _ h.2,ab];rfl)
theorem Mu (a:eQ)(h:cr 1048576 xi a):oy a=some a:=by first|(simp only[oy,Wl _ h.1,KJ _ h.2.1,RX _ h.2.2,ab];done)|(simp only[oy,Wl _ h.1,KJ _ h.2.1,RX _ h.2.2,ab];rfl)
theorem aci (a:Stream)(h:cr 1048576 gb a):oR a=some a:=by first|(simp only[oR,Ng _ h.1,ab];done)|(simp only[oR,Ng _ h.1,ab];rfl)
theorem Ps (a:aq Stream)(h:cr 1048576 (.sl gb) a):BO a=some a:=jG (f:=oR) (z:=((0,0,0,0,0),0,([]:Bytes),false)) (bf h.1 (by omega)) (λx hx=>aci x (h.2 x hx))
theorem Mq (a:gF)(h:cr 1048576 Dc a):zI a=some a:=rfl
theorem agk (a:Host)(h:cr 1048576 fF a):uI a=some a:=by first|(simp only[uI,RU _ h.1,Ms _ h.2.1,Pt _ h.2.2.1,Mt _ h.2.2.2.1,Wk _ h.2.2.2.2.1,Pv _ h.2.2.2.2.2.1,Wg _ h.2.2.2.2.2.2.1,HJ _ h.2.2.2.2.2.2.2.1,Mu _ h.2.2.2.2.2.2.2.2.1,Ps _ h.2.2.2.2.2.2.2.2.2.1,qR _ h.2.2.2.2.2.2.2.2.2.2.2.1,pT _ h.2.2.2.2.2.2.2.2.2.2.2.2.1,pT _ h.2.2.2.2.2.2.2.2.2.2.2.2.2.1,Mq _ h.2.2.2.2.2.2.2.2.2.2.2.2.2.2,ab];done)|(simp only[uI,RU _ h.1,Ms _ h.2.1,Pt _ h.2.2.1,Mt _ h.2.2.2.1,Wk _ h.2.2.2.2.1,Pv _ h.2.2.2.2.2.1,Wg _ h.2.2.2.2.2.2.1,HJ _ h.2.2.2.2.2.2.2.1,Mu _ h.2.2.2.2.2.2.2.2.1,Ps _ h.2.2.2.2.2.2.2.2.2.1,qR _ h.2.2.2.2.2.2.2.2.2.2.2.1,pT _ h.2.2.2.2.2.2.2.2.2.2.2.2.1,pT _ h.2.2.2.2.2.2.2.2.2.2.2.2.2.1,Mq _ h.2.2.2.2.2.2.2.2.2.2.2.2.2.2,ab];rfl)
theorem Wj (a:aq Host)(h:cr 1048576 (.sl fF) a):EL a=some a:=jG (f:=uI) (z:=(([]:cy),([]:aq aL),((0,0,0,0),(0,0,0,([]:cG)),([]:aq hH),0),([]:aq bJ),([]:aq ga),([]:aq Vector),([]:aq Bool),(0,false,([]:cG)),(([]:aq fH),([]:aq Slot),([]:Bytes),([]:cG)),([]:aq Stream),false,([]:cy),([]:cG),([]:cG),0,0,0,0,0)) (bf h.1 (by omega)) (λx hx=>agk x (h.2 x hx))
theorem RT (a:fZ)(h:cr 1048576 qT a):CX a=some a:=rfl
theorem Jg (a:aC)(h:cr 1048576 bS a):gm a=some a:=by first|(simp only[gm,RT _ h.2.2.1,ab];done)|(simp only[gm,RT _ h.2.2.1,ab];rfl)
theorem zX (a:aq aC)(h:cr 1048576 (.sl bS) a):nm a=some a:=jG (f:=gm) (z:=(0,0,(0,0,0),false,0,0)) (bf h.1 (by omega)) (λx hx=>Jg x (h.2 x hx))
theorem YW (a:bO)(h:cr 1048576 eV a):ni a=some a:=by first|(simp only[ni,HJ _ h.1,ab];done)|(simp only[ni,HJ _ h.1,ab];rfl)
theorem Mr (a:aq bO)(h:cr 1048576 (.sl eV) a):zJ a=some a:=jG (f:=ni) (z:=((0,false,([]:cG)),0,0,0)) (bf h.1 (by omega)) (λx hx=>YW x (h.2 x hx))
theorem Wi (a:cy)(h:cr 1048576 (.sl .str) a):wk a=some a:=by first|(simp only[wk,qR _ h,ab];done)|(simp only[wk,qR _ h,ab];rfl)
theorem Wh (a:ew)(h:cr 1048576 ui a):EK a=some a:=rfl
theorem agj (a:dH)(h:cr 1048576 iB a):nJ a=some a:=by first|(simp only[nJ,Wj _ h.1,zX _ h.2.1,Mr _ h.2.2.1,Wi _ h.2.2.2.1,Wh _ h.2.2.2.2.1,pT _ h.2.2.2.2.2.1,qR _ h.2.2.2.2.2.2,ab];done)|(simp only[nJ,Wj _ h.1,zX _ h.2.1,Mr _ h.2.2.1,Wi _ h.2.2.2.1,Wh _ h.2.2.2.2.1,pT _ h.2.2.2.2.2.1,qR _ h.2.2.2.2.2.2,ab];rfl)
theorem Ee (a:cG)(h:cr 1000000000000 (.sl (.int .i64)) a):lz a a=some true:=Ed h.1
theorem Ef (a:cy)(h:cr 1000000000000 (.sl .str) a):mZ a a=some true:=Ed h.1
theorem aat (a:cy)(h:cr 1000000000000 (.sl .str) a):ya a a=some true:=by simp[ya,Ef _ h]
theorem Xh (a:aL)(h:cr 1000000000000 eL a):qs a a=some true:=by simp[qs]
theorem Ui (a:aq aL)(h:cr 1000000000000 (.sl eL) a):zD a a=some true:=gH (f:=qs) h.1 (λx hx=>Xh x (h.2 x hx))
theorem Zi (a:ew)(h:cr 1000000000000 ui a):yQ a a=some true:=by simp[yQ]
theorem Zh (a:ga)(h:cr 1000000000000 mi a):uG a a=some true:=by simp[uG,Ee _ h.2.2.2]
theorem afs (a:hH)(h:cr 1000000000000 mj a):yS a a=some true:=by simp[yS,Ee _ h.2.2]
theorem acS (a:aq hH)(h:cr 1000000000000 (.sl mj) a):EB a a=some true:=gH (f:=yS) h.1 (λx hx=>afs x (h.2 x hx))
theorem Xl (a:dk)(h:cr 1000000000000 uV a):vF a a=some true:=by simp[vF,Zi _ h.1,Zh _ h.2.1,acS _ h.2.2.1]
theorem Bi (a:fZ)(h:cr 1000000000000 qT a):ig a a=some true:=by simp[ig]
theorem Xj (a:dA)(h:cr 1000000000000 Dd a):vE a a=some true:=by simp[vE]
theorem aau (a:aM)(h:cr 1000000000000 B9 a):yb a a=some true:=by simp[yb,Xj _ h.2.2.2.2.2.2.2.2]
theorem acU (a:jI)(h:cr 1000000000000 Ix a):Ar a a=some true:=by simp[Ar,aau _ h.1]
theorem Xi (a:bJ)(h:cr 1000000000000 dQ a):qt a a=some true:=by simp[qt,Zi _ h.1,Bi _ h.2.1,Bi _ h.2.2.1,acU _ h.2.2.2.1]
theorem Uj (a:aq bJ)(h:cr 1000000000000 (.sl dQ) a):zE a a=some true:=gH (f:=qt) h.1 (λx hx=>Xi x (h.2 x hx))
theorem acQ (a:aq ga)(h:cr 1000000000000 (.sl mi) a):Ez a a=some true:=gH (f:=uG) h.1 (λx hx=>Zh x (h.2 x hx))
theorem aax (a:Vector)(h:cr 1000000000000 gz a):sV a a=some true:=by simp[sV]
theorem Xm (a:aq Vector)(h:cr 1000000000000 (.sl gz) a):BD a a=some true:=gH (f:=sV) h.1 (λx hx=>aax x (h.2 x hx))
theorem acM (a:aq Bool)(h:cr 1000000000000 (.sl .bool) a):Ew a a=some true:=Ed h.1
theorem QJ (a:Filter)(h:cr 1000000000000 zZ a):sT a a=some true:=by simp[sT,Ee _ h.2.2]
theorem afr (a:fH)(h:cr 1000000000000 pn a):yR a a=some true:=by simp[yR]
theorem acR (a:aq fH)(h:cr 1000000000000 (.sl pn) a):EA a a=some true:=gH (f:=yR) h.1 (λx hx=>afr x (h.2 x hx))
theorem Zg (a:gF)(h:cr 1000000000000 Dc a):yO a a=some true:=by simp[yO]
theorem aft (a:Slot)(h:cr 1000000000000 kM a):yT a a=some true:=by simp[yT,Zg _ h.2.1]
theorem acT (a:aq Slot)(h:cr 1000000000000 (.sl kM) a):EC a a=some true:=gH (f:=yT) h.1 (λx hx=>aft x (h.2 x hx))
theorem Sm (a:aq Slot)(h:cr 1000000000000 (.sl kM) a):rF a a=some true:=by simp[rF,acT _ h]
theorem aav (a:iv)(h:cr 1000000000000 G3 a):yc a a=some true:=by simp[yc,Ee _ h.2]
theorem Uk (a:eQ)(h:cr 1000000000000 xi a):tO a a=some true:=by simp[tO,acR _ h.1,Sm _ h.2.1,aav _ h.2.2]
theorem aaw (a:Stream)(h:cr 1000000000000 gb a):sU a a=some true:=by simp[sU,Zg _ h.1]
theorem Xk (a:aq Stream)(h:cr 1000000000000 (.sl gb) a):BC a a=some true:=gH (f:=sU) h.1 (λx hx=>aaw x (h.2 x hx))
theorem Ug (a:gF)(h:cr 1000000000000 Dc a):tN a a=some true:=by simp[tN]
theorem afq (a:Host)(h:cr 1000000000000 fF a):yP a a=some true:=by simp[yP,aat _ h.1,Ui _ h.2.1,Xl _ h.2.2.1,Uj _ h.2.2.2.1,acQ _ h.2.2.2.2.1,Xm _ h.2.2.2.2.2.1,acM _ h.2.2.2.2.2.2.1,QJ _ h.2.2.2.2.2.2.2.1,Uk _ h.2.2.2.2.2.2.2.2.1,Xk _ h.2.2.2.2.2.2.2.2.2.1,Ef _ h.2.2.2.2.2.2.2.2.2.2.2.1,Ee _ h.2.2.2.2.2.2.2.2.2.2.2.2.1,Ee _ h.2.2.2.2.2.2.2.2.2.2.2.2.2.1,Ug _ h.2.2.2.2.2.2.2.2.2.2.2.2.2.2]
theorem acP (a:aq Host)(h:cr 1000000000000 (.sl fF) a):Ey a a=some true:=gH (f:=yP) h.1 (λx hx=>afq x (h.2 x hx))
theorem aas (a:fZ)(h:cr 1000000000000 qT a):xZ a a=some true:=by simp[xZ]
theorem II (a:aC)(h:cr 1000000000000 bS a):ij a a=some true:=by simp[ij,aas _ h.2.2.1]
theorem HM (a:aq aC)(h:cr 1000000000000 (.sl bS) a):na a a=some true:=gH (f:=ij) h.1 (λx hx=>II x (h.2 x hx))
theorem Xg (a:bO)(h:cr 1000000000000 eV a):qq a a=some true:=by simp[qq,QJ _ h.1]
theorem Uh (a:aq bO)(h:cr 1000000000000 (.sl eV) a):zC a a=some true:=gH (f:=qq) h.1 (λx hx=>Xg x (h.2 x hx))
theorem acO (a:cy)(h:cr 1000000000000 (.sl .str) a):Aq a a=some true:=by simp[Aq,Ef _ h]
theorem acN (a:ew)(h:cr 1000000000000 ui a):Ap a a=some true:=by simp[Ap]
theorem Zf (a:dH)(h:cr 1000000000000 iB a):qp a a=some true:=by simp[qp,acP _ h.1,HM _ h.2.1,Uh _ h.2.2.1,acO _ h.2.2.2.1,acN _ h.2.2.2.2.1,Ee _ h.2.2.2.2.2.1,Ef _ h.2.2.2.2.2.2]
def dz (a lo hi:Int):Bool:=decide (lo<=a)&&decide (a<=hi)
theorem bW {a lo hi:Int}:dz a lo hi=true↔lo<=a/\a<=hi:=by simp[dz]
theorem cx (a b c:Int):aE a b c=some (dz a b c):=by grind[aE,ab,dz]
theorem cQ (a b c:Int):az a b c=some (dz a b c):=cx a b c
theorem eu {l:aq α}{i:Nat}(h:i<l.length)(d:α):l.getD i d=l[i]:=by grind
def Pz (l:cG)(i:Nat):Bool:=dz (l.getD i 0) 0 4095&& !(decide (0<i)&&decide (l.getD i 0<=l.getD (i-1) 0))
def tA (f:Filter):Bool:=(range f.2.2.length).all (Pz f.2.2)&&(dz f.1 0 281474976710654&&decide ((f.2.2.length:Int)<=8))
theorem E2 (f:Filter)(h:f.2.2.length<=10^9):me f=some (tA f):=by
 unfold me;rw[fQ (fin:=some (dz f.1 0 281474976710654&&decide ((f.2.2.length:Int)<=8))) (Pz f.2.2) f.2.2.length (by omega) (λi nx hi=>?hs) (λnx=>?hf)]
 case hs=>
  simp only[rP]
  rw[jh,aY hi,ai (n:=(i)+1) (by omega) (by omega)]
  simp only[af,ab,cx,Pz,eu hi]
  by_cases h0:0<i
  ·have e:ak ((i)-1)=((i-1:Nat)):=by rw[ai (by omega) (by omega)];omega
   have hp:i-1<f.2.2.length:=by omega
   rw[e,aY hp,aw (show(i:Int)>0 by omega),aw h0,eu hp]
   simp only[af,ab,bp]
   cases dz f.2.2[i] 0 4095<;>cases decide (f.2.2[i]<=f.2.2[i-1])<;>rfl
  ·rw[al (show¬(i:Int)>0 by omega),al h0]
   cases dz f.2.2[i] 0 4095<;>rfl
 case hf=>
  simp only[rP]
  rw[gZ]
  simp only[ae,cx,ab,bM]
  cases dz f.1 0 281474976710654<;>rfl
 unfold tA;cases (range f.2.2.length).all (Pz f.2.2)<;>rfl
theorem En (f:Filter)(h:f.2.2.length<=10^9):lW f=some (tA f):=by
 unfold lW;rw[fQ (fin:=some (dz f.1 0 281474976710654&&decide ((f.2.2.length:Int)<=8))) (Pz f.2.2) f.2.2.length (by omega) (λi nx hi=>?hs) (λnx=>?hf)]
 case hs=>
  simp only[qX]
  rw[jh,aY hi,ai (n:=(i)+1) (by omega) (by omega)]
  simp only[af,ab,cQ,Pz,eu hi]
  by_cases h0:0<i
  ·have e:ak ((i)-1)=((i-1:Nat)):=by rw[ai (by omega) (by omega)];omega
   have hp:i-1<f.2.2.length:=by omega
   rw[e,aY hp,aw (show(i:Int)>0 by omega),aw h0,eu hp]
   simp only[af,ab,bp,ge_iff_le]
   cases dz f.2.2[i] 0 4095<;>cases decide (f.2.2[i]<=f.2.2[i-1])<;>rfl
  ·rw[al (show¬(i:Int)>0 by omega),al h0]
   cases dz f.2.2[i] 0 4095<;>rfl
 case hf=>
  simp only[qX]
  rw[gZ]
  simp only[ae,cQ,ab,bM]
  cases dz f.1 0 281474976710654<;>rfl
 unfold tA;cases (range f.2.2.length).all (Pz f.2.2)<;>rfl
def DQ (r:fH):Bool:=(lQ r).getD false
theorem Pc (r:fH):lQ r=some (DQ r):=by simp_all[lQ,cx,bM,DQ]
theorem adQ (r:fH):Cm r=some (DQ r):=Pc r
theorem VL {r:fH}(h:DQ r=true):r.2.2.2.2.2.2.2.1=0\/r.2.2.2.2.2.2.2.2=0:=by
 by_cases h0:r.2.2.2.2.2.2.2.1=0;exact .inl h0;by_cases h1:r.2.2.2.2.2.2.2.2=0;exact .inr h1;exfalso;have e0:(r.2.2.2.2.2.2.2.1==0)=false:=by simp[h0]
 have e1:(r.2.2.2.2.2.2.2.2==0)=false:=by simp[h1]
 revert h;unfold DQ;simp only[lQ,cx,ab,bM,e0,e1,ae,fb];have z:∀c:Bool,(bif c then false else false)=false:=by intro c;cases c<;>rfl
 simp only[z];intro h;cases h
def BV (l:aq fH):Bool:=l.all DQ&&decide ((l.length:Int)<=12)
theorem HA (l:aq fH)(h:l.length<=10^9):wM l=some (BV l):=by unfold wM;rw[qU (hit:=some false) (fin:=some (decide ((l.length:Int)<=12))) DQ l (by omega) (λi hi nx=>?hs) (λnx=>?hf)];all_goals grind[zN,aY,ai,ab,Pc,BV]
theorem Q6 (l:aq fH)(h:l.length<=10^9):Ak l=some (BV l):=by rw[<-HA l h];rfl
theorem ape (x:Int):((BitVec.ofInt 64 x&&&BitVec.ofInt 64 7).toNat:Int)=x%8:=by
 have h7:(BitVec.ofInt 64 7).toNat=2^3-1:=by decide
 rw[BitVec.toNat_and,h7,Nat.and_two_pow_sub_one_eq_mod];grind[BitVec.toNat_ofInt]
theorem ah4 (x:Int):((iD x&&&iD 7).toNat:Int)=x%8:=ape x
theorem afV (x:Int):kc x 8=some (x%8):=by grind[kc,ai]
def H2 (f:gF):Int:=(f.1%8+f.2.1%8+f.2.2.1%8+f.2.2.2.1%8+f.2.2.2.2%8)%8
theorem UO (f:gF):0<=H2 f/\H2 f<8:=by unfold H2;omega
theorem agN {n:Int}(h:0<=n):tmod n 8=n%8:=fw h
theorem aeJ (f:gF):yq f=some (H2 f):=by
 unfold yq;generalize hL:[f.1,f.2.1,f.2.2.1,f.2.2.2.1,f.2.2.2.2]=L;have hlen:L.length=5:=by rw[<-hL];rfl
 have Fq:=dX;have key:=xp (T:=nz (λ(y2) (y3)=>if 8=0 then none else(some (tmod y2 8))) L) L (λ(s) i=>(s,(i))) (λx s k=>k (ak (s+ak (x%8)))) (λs=>some (tmod s 8)) (λi hi s nx=>by simp only[nz];rw[jh,aY hi,ai (by omega) (by omega)];grind[ab,ah4]) (λs nx=>by grind[nz]) fuel 0 0 (by omega) (by omega);refine key.trans ?_;rw[<-hL];simp(disch:=omega)[uA,ai,agN,H2]
theorem adF (f:gF):xO f=some (H2 f):=by
 unfold xO;generalize hL:[f.1,f.2.1,f.2.2.1,f.2.2.2.1,f.2.2.2.2]=L;have hlen:L.length=5:=by rw[<-hL];rfl
 have Fq:=dX;have key:=xp (T:=mU (λ(y2) (y3)=>if 8=0 then none else(some (tmod y2 8))) L (L.length)) L (λ(s) i=>(s,(i))) (λx s k=>k (ak (s+(x%8)))) (λs=>some (tmod s 8)) (λi hi s nx=>by grind[mU,aY,ai,ab,afV]) (λs nx=>by grind[mU]) fuel 0 0 (by omega) (by omega);refine key.trans ?_;rw[<-hL];simp(disch:=omega)[uA,ai,agN,H2]
def fL (t:aq Slot)(i:Nat):Slot:=t.getD i (0,(0,0,0,0,0),0)
theorem xu {t:aq Slot}{i:Nat}(h:i<t.length):fL t i=t[i]:=eu h _
def kL (f:gF)(k:Nat):Nat:=((H2 f).toNat+k)%8
theorem KO (f:gF)(k:Nat):kL f k<8:=Nat.mod_lt _ (by omega)
theorem Ws (f:gF)(k:Nat)(h:k<8):tmod (ak (H2 f+(k:Int))) 8=(kL f k:Int):=by have:=UO f;grind[ai,kL]
def oH (s:Slot)(f:gF):Bool:=(s.1==1)&&decide (s.2.1=f)
theorem Sr (p q:gF):((p.1==q.1)&&((p.2.1==q.2.1)&&((p.2.2.1==q.2.2.1)&&((p.2.2.2.1==q.2.2.2.1)&&((p.2.2.2.2==q.2.2.2.2)&&true)))))=decide (p=q):=by grind
def walk (t:aq Slot)(f:gF):Nat->Nat->Int
 |0,_=> -1
 |n+1,k=>if(fL t (kL f k)).1=0 then-1 else if oH (fL t (kL f k)) f then(kL f k:Int) else walk t f n (k+1)
theorem VW (t:aq Slot)(f:gF)(ht:t.length=8):AJ t f=some (walk t f 8 0):=by
 have Fq:=dX
 have key:=Ho (T:=ua (λ(y6)=>some (-1)) (λ(y7) (y8)=>some y7) 0 t f) 8 (λ(_) i=>(i))
  (λi s k=>if(fL t (kL f i)).1=0 then some (-1) else if oH (fL t (kL f i)) f then some (kL f i) else k s) (λ_=>some (-1))
  (λi s nx hi=>by
   have hw:kL f i<t.length:=by have:=KO f i;omega
   simp only[ua,aeJ];rw[jh,ai (by omega) (by omega)];simp only[af,ab,Ws f i hi,aY hw,xu hw,Sr,oH,bM,ab];by_cases h0:t[kL f i].1=0;simp[h0];have e0:(t[kL f i].1==0)=false:=by simp[h0]
   rw[e0,aG h0];cases (t[kL f i].1==1)<;>cases decide (t[kL f i].2.1=f)<;>rfl)
  (λs nx=>by rfl)
  fuel 0 () (by omega) (by omega)
 refine key.trans ?_;have main:∀n i,upK (R:=Int) (λi (s) k=>if(fL t (kL f i)).1=0 then some (-1) else if oH (fL t (kL f i)) f then some (kL f i) else k s) (λ_=>some (-1)) 8 n i ()=some (walk t f n i):=by intro n;induction n with|zero=>intro i;rfl|succ n ih=>intro i;rw[upK,walk];split;rfl;split;rfl;exact ih (i+1)
 exact main 8 0
def zx (f:gF):aq Slot->Int->Int
 |[],_=> -1
 |s::r,i=>if oH s f then i else zx f r (i+1)
theorem U7 (t:aq Slot)(f:gF)(h:t.length<=10^9):Co t f=some (zx f t 0):=by
 have Fq:=dX;have key:∀n i,i<=t.length->t.length-i<n->aJ (vC (λ(y3)=>some (-1)) (λ(y4) (y5)=>some y4) 0 t ((List.length t)) f) n (i)=some (zx f (t.drop i) i):=by
  intro n;induction n with
  |zero=>intro i _ h;omega
  |succ n ih=>
   intro i hi hn;rw[aJ];simp only[vC];rcases bH i t.length with gM|Ad;rw[jh,aY gM,cc gM,zx,ai (by omega) (by omega)];simp only[af,ab,Sr,bM];have e:(bif t[i].1==1 then decide (t[i].2.1=f) else false)=oH t[i] f:=by unfold oH;cases (t[i].1==1)<;>rfl
   rw[e];cases oH t[i] f with|true=>rfl|false=>exact ih (i+1) (by omega) (by omega)
   have:i=t.length:=by omega
   subst this;rw[gZ,List.drop_length];rfl
 exact key fuel 0 (by omega) (by omega)
theorem afQ (f:gF):IX f=some ((range 8).map λk=>(kL f k:Int)):=by have Fq:=dX;have key:=Ho (T:=xY (λ(y2) (y3)=>some y2) f) 8 (λ(_) i=>((range i).map (λk=>(kL f k)),(i))) (λ_ s k=>k s) (λ_=>some ((range 8).map λk=>(kL f k))) (λi s nx hi=>by grind[xY,adF,ai,ab,Ws,aP,List.range_succ]) (λs nx=>by rfl) fuel 0 () (by omega) (by omega);exact key
def clear (t:aq Slot)(f:gF)(i:Nat):Nat->Nat->Bool
 |0,_=>true
 |n+1,k=>if kL f k=i then true else if(fL t (kL f k)).1=0 then false else clear t f i n (k+1)
theorem aaO (k0:Int->ar R)(k1:Bool->Int->ar R)(hit fin:ar R)(h0:∀x,k0 x=fin)(h1:∀x,k1 false x=hit)(v2:Bool)(i:Nat)(PJ:aq Slot)(Wq v14:Int)(t:aq Slot)(f:gF)(ht:t.length=8): aJ (mV k0 k1 v2 (i:Int) PJ Wq v14 ((range 8).map λk=>(kL f k:Int)) (((range 8).map λk=>(kL f k:Int)).length:Int) t) fuel 0=cond (clear t f i 8 0) fin hit:=by
 have Fq:=dX;have hl:((range 8).map λk=>(kL f k:Int)).length=8:=by simp
 have key:=Ho (T:=mV k0 k1 v2 (i) PJ Wq v14 ((range 8).map λk=>(kL f k)) (((range 8).map λk=>(kL f k:Int)).length) t) 8 (λ(_) i=>(i))
  (λk s c=>if kL f k=i then fin else if(fL t (kL f k)).1=0 then hit else c s) (λ_=>fin)
  (λk s nx hk=>by
   have hw:kL f k<t.length:=by have:=KO f k;omega
   simp only[mV];rw[jh,aY (show k<((range 8).map λk=>(kL f k:Int)).length by omega),ai (by omega) (by omega)];simp only[af,ab,List.getElem_map,List.getElem_range,aY hw,xu hw,h0,h1];by_cases e1:kL f k=i;subst e1;simp;have:((kL f k:Int)==(i))=false:=by simp;omega
   rw[this,aG e1];by_cases e2:t[kL f k].1=0;simp[e2];have:(t[kL f k].1==0)=false:=by simp[e2]
   rw[this,aG e2];rfl)
  (λs nx=>by exact h0 _)
  fuel 0 () (by omega) (by omega)
 refine key.trans ?_;have main:∀n k,upK (λk (s) c=>if kL f k=i then fin else if(fL t (kL f k)).1=0 then hit else c s) (λ_=>fin) 8 n k ()=cond (clear t f i n k) fin hit:=by intro n;induction n with|zero=>intro k;rfl|succ n ih=>intro k;rw[upK,clear];split;rfl;split;rfl;exact ih (k+1)
 exact main 8 0
def Uu:gF:=(0,0,0,0,0)
theorem Uv (p:gF):((p.1==0)&&((p.2.1==0)&&((p.2.2.1==0)&&((p.2.2.2.1==0)&&((p.2.2.2.2==0)&&true)))))=decide (p=Uu):=Sr p Uu
def RA (s:Slot):Bool:=dz s.1 0 2&&dz s.2.2 0 3&&((s.1==1)||(s.2.2==0)&&decide (s.2.1=Uu))
def ns (t:aq Slot)(i:Nat):Bool:=RA (fL t i)&&(!((fL t i).1==1)||(walk t (fL t i).2.1 8 0==(i:Int)))
def uD (t:aq Slot)(i:Nat):Bool:=RA (fL t i)&&(!((fL t i).1==1)||(zx (fL t i).2.1 t 0==(i:Int))&&clear t (fL t i).2.1 i 8 0)
def xb (t:aq Slot):Bool:=(t.length==8)&&(range 8).all (ns t)
theorem RL (t:aq Slot):wN t=some (xb t):=by
 unfold wN xb;by_cases ht:t.length=8
 ·have e:((t.length:Int) !=8)=false:=by rw[ht];rfl
  have e2:(t.length==8)=true:=by rw[ht];rfl
  rw[e,e2];rw[fQ (ns t) 8 (by omega) (λi nx hi=>?hs) (λnx=>?hf)]
  case hs=>
   have hl:i<t.length:=by omega
   simp only[tY]
   rw[jh,aY hl,ai (by omega) (by omega)]
   simp only[af,ab,cx,bM,Uv,VW t _ ht,ns,xu hl,RA,bne]
   cases dz t[i].1 0 2<;>cases dz t[i].2.2 0 3<;>cases (t[i].1==1)<;>cases (t[i].2.2==0)<;>cases decide (t[i].2.1=Uu)<;>first|rfl|(cases (walk t t[i].2.1 8 0==(i))<;>rfl)
  case hf=>
   simp only[tY]
   rw[gZ];rfl
  cases (range 8).all (ns t)<;>rfl
 have e:((t.length:Int) !=8)=true:=by simp;omega
 have e2:(t.length==8)=false:=by simp[ht]
 rw[e,e2];rfl
theorem XR (t:aq Slot):rn t=some ((t.length==8)&&(range 8).all (uD t)):=by
 unfold rn;by_cases ht:t.length=8
 ·have e:((t.length:Int) !=8)=false:=by rw[ht];rfl
  have e2:(t.length==8)=true:=by rw[ht];rfl
  rw[e,e2];rw[fQ (uD t) 8 (by omega) (λi nx hi=>?hs) (λnx=>?hf)]
  case hs=>
   have hl:i<t.length:=by omega
   simp only[tK]
   rw[jh,aY hl,ai (by omega) (by omega)]
   simp only[af,ab,cQ,bM,Uv,U7 t _ (show t.length<=10^9 by omega),afQ,uD,xu hl,RA,bne]
   rw[aaO (λ_=>nx ((i)+1)) (λ(y) (_)=>some y) (some false) (nx ((i)+1)) (λ_=>rfl) (λ_=>rfl) _ _ _ _ _ _ _ ht]
   cases dz t[i].1 0 2<;>cases dz t[i].2.2 0 3<;>cases (t[i].1==1)<;>cases (t[i].2.2==0)<;>cases decide (t[i].2.1=Uu)<;>first|rfl|(cases (zx t[i].2.1 t 0==(i))<;>first|rfl|(cases clear t t[i].2.1 i 8 0<;>rfl))
  case hf=>
   simp only[tK]
   rw[gZ];rfl
  cases (range 8).all (uD t)<;>rfl
 have e:((t.length:Int) !=8)=true:=by simp;omega
 have e2:(t.length==8)=false:=by simp[ht]
 rw[e,e2];rfl
theorem R0 (t:aq Slot)(f:gF)(i:Nat):∀n k,walk t f n k=(i:Int)->oH (fL t i) f=true/\clear t f i n k=true/\∃j,j<n/\kL f (k+j)=i
 |0,k,h=>by unfold walk at h;omega
 |n+1,k,h=>by
  unfold walk at h;unfold clear;by_cases h0:(fL t (kL f k)).1=0;omega;rw[aG h0]at h;by_cases h1:oH (fL t (kL f k)) f=true;rw[aH h1]at h;have:kL f k=i:=by omega
  subst this;exact⟨h1,by simp,0,by omega,rfl⟩;rw[aG h1]at h;obtain⟨a,b,j,hj,e⟩:=R0 t f i n (k+1) h;refine⟨a,?_,j+1,by omega,by rw[<-e];congr 1;omega⟩;rw[aG h0,b];split<;>rfl
theorem aad (t:aq Slot)(f:gF)(i:Nat)(hu:oH (fL t i) f=true)(agJ:∀j,j<8->oH (fL t j) f=true->j=i):∀n k,clear t f i n k=true->(∃j,j<n/\kL f (k+j)=i)->walk t f n k=(i:Int)
 |0,k,_,h=>by omega
 |n+1,k,hc,⟨j,hj,e⟩=>by unfold walk;unfold clear at hc;by_cases h1:kL f k=i;rw[h1,aG,aH hu];intro h0;unfold oH at hu;rw[h0]at hu;simp at hu;rw[aG h1]at hc;by_cases h0:(fL t (kL f k)).1=0;rw[aH h0]at hc;cases hc;rw[aG h0]at hc;rw[aG h0,aG (λQX=>h1 (agJ _ (KO f k) QX))];refine aad t f i hu agJ n (k+1) hc ?_;cases j with|zero=>exact absurd e h1|succ j=>exact⟨j,by omega,by rw[<-e];congr 1;omega⟩
theorem agr (f:gF)(i:Nat)(hi:i<8):∃j,j<8/\kL f (0+j)=i:=by have:=UO f;refine⟨(i+8-(H2 f).toNat)%8,by omega,?_⟩;unfold kL;omega
theorem Ga (f:gF):∀(t:aq Slot)(m:Nat),(∃j,j<t.length/\oH (fL t j) f=true)->∃j,j<t.length/\oH (fL t j) f=true/\zx f t m=((m+j:Nat):Int)
 |[],_,h=>by obtain⟨j,hj,_⟩:=h;simp at hj
 |s::r,m,⟨j,hj,e⟩=>by
  unfold zx;by_cases hs:oH s f=true;rw[aH hs];exact⟨0,by simp,by simpa[fL]using hs,by simp⟩;rw[aG hs];cases j with
  |zero=>exact absurd (by simpa[fL]using e) hs
  |succ j=>
   obtain⟨j',h1,h2,h3⟩:=Ga f r (m+1) ⟨j,by simpa using hj,by simpa[fL]using e⟩;refine⟨j'+1,by simpa using h1,by simpa[fL]using h2,?_⟩;have:((m:Int)+1)=((m+1:Nat)):=by omega
   rw[this,h3];congr 1;omega
theorem Yv (t:aq Slot)(ht:t.length=8):(range 8).all (uD t)=(range 8).all (ns t):=by
 rw[ez,ba,ba];simp only[dm];constructor;intro h i hi;have hI:=h i hi;unfold uD at hI;unfold ns;simp only[ah,da,aQ,bk]at hI⊢;refine⟨hI.1,?_⟩;rcases hI.2 with h1|⟨h1,h2⟩;exact .inl h1;by_cases hu:((fL t i).1==1)=true;right;have QX:oH (fL t i) (fL t i).2.1=true:=by unfold oH;rw[hu];simp
 refine aad t _ i QX (λj hj huj=>?_) 8 0 h2 (agr _ i hi);have hJ:=h j hj;unfold uD at hJ;unfold oH at huj;simp only[ah,bE]at huj;simp only[ah,da,aQ,bk]at hJ;rcases hJ.2 with h3|⟨h3,_⟩;rw[huj.1]at h3;cases h3;rw[huj.2]at h3;omega;exact .inl (by simpa using hu);intro h i hi;have hI:=h i hi;unfold ns at hI;unfold uD;simp only[ah,da,aQ,bk]at hI⊢;refine⟨hI.1,?_⟩;rcases hI.2 with h1|h1;exact .inl h1;right;obtain⟨hu,hc,_⟩:=R0 t _ i 8 0 h1;refine⟨?_,hc⟩;obtain⟨j,hj,huj,e⟩:=Ga (fL t i).2.1 t 0 ⟨i,by omega,hu⟩;have hJ:=h j (by omega);unfold ns at hJ;unfold oH at huj;simp only[ah,bE]at huj;simp only[ah,da,aQ,bk]at hJ;rcases hJ.2 with h3|h3;rw[huj.1]at h3;cases h3;rw[huj.2,h1]at h3;have e':zx (fL t i).2.1 t 0=((0+j)):=e;omega
theorem Q8 (t:aq Slot):rn t=some (xb t):=by
 rw[XR,xb];by_cases ht:t.length=8;rw[Yv t ht];have e2:(t.length==8)=false:=by simp[ht]
 rw[e2];rfl
def ZX (n:Int):Bool:=(n==1)||(n==2)||(n==4)||(n==8)||(n==16)
theorem X0 (n:Int):AH n=some (ZX n):=by grind[AH,ab,ZX]
def AO (s:iv)(q:Int):Bool:=dz q 1 4&&((s.1.length:Int)==16)&&ZX s.2.length&&s.2.all λx=>dz x 0 (q-1)
theorem I9 (s:iv)(q:Int)(h:s.2.length<=10^9):tt s q=some (AO s q):=by
 unfold tt AO;simp only[cx,X0,ab,bM,bne];by_cases hq:dz q 1 4=true
 ·rw[qU (λx=>dz x 0 (q-1)) s.2 (by omega) (λi hi nx=>?hs) (λnx=>?hf)]
  case hs=>
   rw[bW]at hq
   simp only[sc]
   rw[jh,aY hi,ai (by omega) (by omega),ai (by omega) (by omega)]
   simp only[af,ab,cx];rfl
  case hf=>
   simp only[sc]
   rw[gZ];rfl
  rw[hq];cases ((s.1.length:Int)==16)<;>cases ZX s.2.length<;>cases s.2.all (λx=>dz x 0 (q-1))<;>rfl
 have hq':dz q 1 4=false:=by simpa using hq
 rw[hq'];rfl
theorem Ol (s:iv)(q:Int)(h:s.2.length<=10^9):xU s q=some (AO s q):=by rw[<-I9 s q h];rfl
def im (s:eQ)(q:Int):Bool:=BV s.1&&xb s.2.1&&AO s.2.2 q&&s.1.all (λr=> !(decide (r.2.2.2.2.2.2.2.2>=q)))&&s.2.1.all (λx=> !(decide (x.2.2>=q)))
theorem KA (s:eQ)(q:Int)(h1:s.1.length<=10^9)(h2:s.2.1.length<=10^9)(h3:s.2.2.2.length<=10^9):oF s q=some (im s q):=by
 unfold oF im;simp only[HA _ h1,RL,I9 _ _ h3,ab,bM];rw[qU (hit:=some false) (fin:=cond (s.2.1.all (λx=> !(decide (x.2.2>=q)))) (some true) (some false)) (λr:fH=> !(decide (r.2.2.2.2.2.2.2.2>=q))) s.1 (by omega) (λi hi nx=>?hs) (λnx=>?hf)]
 case hs=>
  grind[oc,aY,ai,ab]
 case hf=>
  simp only[oc]
  rw[gZ]
  simp only[ae]
  rw[qU (λx:Slot=> !(decide (x.2.2>=q))) s.2.1 (by omega) (λi hi nx=>?hs) (λnx=>?hf)]
  all_goals grind[uu,aY,ai,ab]
 grind
theorem J0 (s:eQ)(q:Int)(h1:s.1.length<=10^9)(h2:s.2.1.length<=10^9)(h3:s.2.2.2.length<=10^9):ov s q=some (im s q):=by
 unfold ov im;simp only[Q6 _ h1,Q8,Ol _ _ h3,ab,bM];rw[qU (λr:fH=> !((r.2.2.2.2.2.2.2.1==0)&&decide (r.2.2.2.2.2.2.2.2>=q))) s.1 (by omega) (λi hi nx=>?hs) (λnx=>?hf)]
 case hs=>
  simp only[nR]
  rw[jh,aY hi,ai (by omega) (by omega)]
  simp only[af,ab,jv,bM]
  cases (s.1[i].2.2.2.2.2.2.2.1==0)<;>rfl
 case hf=>
  simp only[nR]
  rw[gZ]
  simp only[ae]
  rw[qU (λx:Slot=> !((x.1==1)&&decide (x.2.2>=q))) s.2.1 (by omega) (λi hi nx=>?hs) (λnx=>?hf)]
  case hs=>
   simp only[mA]
   rw[jh,aY hi,ai (by omega) (by omega)]
   simp only[af,ab,jv,bM]
   cases (s.2.1[i].1==1)<;>rfl
  case hf=>
   simp only[mA]
   rw[gZ];rfl
 cases hr:BV s.1 with
 |false=>rfl
 |true=>
  cases ht:xb s.2.1 with
  |false=>rfl
  |true=>
   cases hs:AO s.2.2 q with
   |false=>rfl
   |true=>
    have hq:1<=q:=by unfold AO at hs;simp only[ah,bW]at hs;exact hs.1.1.1.1
    have e1:s.1.all (λr=> !((r.2.2.2.2.2.2.2.1==0)&&decide (r.2.2.2.2.2.2.2.2>=q)))=s.1.all (λr=> !(decide (r.2.2.2.2.2.2.2.2>=q))):=by unfold BV at hr;simp only[ah,ba]at hr;rw[ez,ba,ba];refine forall_congr' λr=>forall_congr' λhm=>?_;rcases VL (hr.1 r hm)with h0|h0;rw[h0];simp;rw[h0];simp only[al (show¬(0)>=q by omega),jk]
    have e2:s.2.1.all (λx=> !((x.1==1)&&decide (x.2.2>=q)))=s.2.1.all (λx=> !(decide (x.2.2>=q))):=by unfold xb at ht;simp only[ah,ba,dm,bk]at ht;rw[ez,ba,ba];refine forall_congr' λx=>forall_congr' λhm=>?_;obtain⟨i,hi,rfl⟩:=List.mem_iff_getElem.1 hm;have hsl:=ht.2 i (by omega);unfold ns RA at hsl;rw[xu hi]at hsl;simp only[ah,da,bk]at hsl;rcases hsl.1.2 with h0|⟨h0,_⟩;rw[h0];simp;rw[h0];simp only[al (show¬(0)>=q by omega),jk]
    rw[e1,e2];cases s.1.all (λr=> !(decide (r.2.2.2.2.2.2.2.2>=q)))<;>cases s.2.1.all (λx=> !(decide (x.2.2>=q)))<;>rfl
def gJ (m:cy):Bool:=m.all (λx=>(x.length:Int)==128)&&decide ((m.length:Int)<=64)
theorem E3 (m:cy)(h:m.length<=10^9):oW m=some (gJ m):=by
 unfold oW gJ;rw[qU (fin:=some (decide ((m.length:Int)<=64))) (λx:Bytes=>(x.length:Int)==128) m (by omega) (λi hi nx=>?hs) (λnx=>?hf)]
 case hs=>
  simp only[rT]
  rw[jh,aY hi,ai (by omega) (by omega)];rfl
 all_goals grind[rT]
theorem IV (m:cy)(h:m.length<=10^9):sM m=some (gJ m):=E3 m h
def X6:aL:=(0,0,0,false)
def Li (m:aL):Bool:=dz m.1 0 7&&(dz m.2.1 0 1023&&dz m.2.2.1 0 63)
def wu (d p:Int)(m:aL):Bool:=(m.1==d)&&(m.2.1==p)
def abg (l:aq aL)(i:Nat):Bool:=Li (l.getD i X6)&&(range i).all (λj=> !(wu (l.getD i X6).1 (l.getD i X6).2.1 (l.getD j X6)))
def gn (l:aq aL):Bool:=decide ((l.length:Int)<=96)&&(range l.length).all (abg l)
theorem Kw (l:aq aL)(h:l.length<=10^9):oC l=some (gn l):=by
 unfold oC gn;rw[fQ (hit:=some false) (fin:=some true) (abg l) l.length (by omega) (λi nx hi=>?hs) (λnx=>?hf)]
 case hs=>
  simp only[nW]
  rw[jh,aY hi,ai (by omega) (by omega)]
  simp only[af,ab,cx,bM]
  rw[fQ (hit:=some false) (fin:=nx ((i)+1)) (λj=> !(wu l[i].1 l[i].2.1 (l.getD j X6))) i (by omega) (λj nx hj=>?hs2) (λnx=>?D0)]
  case hs2=>
   grind[mI,aY,ai,ab,wu]
  all_goals grind[mI,abg,Li]
 all_goals grind[nW]
def Vz (l:aq aL)(d p:Int):Int:=match l.findIdx? (wu d p)with|some i=>(i:Int)|none=> -1
theorem U4 (l:aq aL)(d p:Int)(h:l.length<=10^9):mX l d p=some (Vz l d p):=by unfold mX Vz;rw[K3 (hit:=λi=>some i) (fin:=some (-1)) (wu d p) l (by omega) (λi hi nx=>?hs) (λnx=>?hf)];all_goals grind[sv,aY,ai,ab,wu]
theorem Yl (l:aq aL)(i:Nat)(hi:i<l.length):(Vz l l[i].1 l[i].2.1==(i:Int))=(range i).all (λj=> !(wu l[i].1 l[i].2.1 (l.getD j X6))):=by
 have H7:wu l[i].1 l[i].2.1 l[i]=true:=by simp[wu]
 unfold Vz;cases hq:l.findIdx? (wu l[i].1 l[i].2.1)with
 |none=>rw[List.findIdx?_eq_none_iff]at hq;rw[hq l[i] (aN hi)]at H7;cases H7
 |some k=>
  rw[List.findIdx?_eq_some_iff_getElem]at hq;obtain⟨hk,hpk,gM⟩:=hq;rw[ez,ba];simp only[dm,bk,aQ];constructor;intro e j hj;have hjl:j<l.length:=by omega
  rw[eu hjl];have:=gM j (by omega);simpa using this;intro FU;rcases Nat.lt_trichotomy k i with hki|hki|hki;have:=FU k hki;rw[eu hk,hpk]at this;cases this;omega;have:=gM i hki;rw[H7]at this;simp at this
theorem JV (l:aq aL)(h:l.length<=10^9):oq l=some (gn l):=by
 unfold oq gn;rw[fQ (hit:=some false) (fin:=some (decide ((l.length:Int)<=96))) (abg l) l.length (by omega) (λi nx hi=>?hs) (λnx=>?hf)]
 case hs=>
  simp only[nN]
  rw[jh,aY hi,ai (by omega) (by omega)]
  grind[ab,cQ,U4,Yl,abg,Li,dz]
 all_goals grind[nN]
def Ux (n:Int)(l:cG)(i:Nat):Bool:=dz (l.getD i 0) 0 (n-1)&& !((l.take i).contains (l.getD i 0))
def wy (p:ga):Bool:=dz p.1 0 130944&&(dz p.2.1 1 512&&(dz p.2.2.1 0 16&&(range p.2.2.2.length).all (Ux p.2.2.1 p.2.2.2)))
def FO (n:Int)(l:cG):aq Bool:=(range n.toNat).map λk:Nat=>l.contains (k:Int)
theorem Rv (n:Int)(l:cG):(FO n l).length=n.toNat:=by simp[FO]
theorem Hw (n:Int)(l:cG)(k:Nat)(h:k<(FO n l).length):(FO n l)[k]=l.contains (k:Int):=by simp[FO]
theorem abO (n:Int)(l:cG)(k:Nat)(h:k<n.toNat):(FO n l).set k true=FO n (l++[(k:Int)]):=by
 apply List.ext_getElem;simp[FO];intro j h1 h2;rw[List.getElem_set];split;rename_i e;subst e;rw[Hw];simp;rename_i e;rw[Hw,Hw];simp only[List.contains_append];have:([(k:Int)].contains (j))=false:=by simp;omega
 rw[this];simp
theorem VA {T:(aq Bool×Int->ar Bool)->aq Bool×Int->ar Bool}(n:Int)(l:cG)(hl:l.length<=10^9)
 (hs:∀i (hi:i<l.length)(s:aq Bool) nx,T nx (s,(i:Int))=aa (cond (!(dz l[i] 0 (n-1))) (some true) (aa (idx s l[i]) λx=>some x)) λq=>
  cond q (some false) (aa (idx s l[i]) λ_=>aa (idx s l[i]) λ_=>nx (s.set l[i].toNat true,((i+1:Nat):Int)))) (hf:∀s nx,T nx (s,(l.length:Int))=some true):
 aJ T fuel (List.replicate n.toNat false,0)=some ((range l.length).all (Ux n l)):=by
 have e0:(List.replicate n.toNat false,(0))=(FO n (l.take 0),((0:Nat):Int)):=by congr 1;simp only[FO,List.take_zero,List.contains_nil,List.map_const',List.length_range]
 rw[e0,G4 (λi=>(FO n (l.take i),(i:Int))) (Ux n l) l.length (by omega) (λi nx hi hp=>?hs) (λ_ nx=>hf _ nx)]
 case hs=>
  rw[hs i hi]
  unfold Ux
  rw[eu hi]
  by_cases uQ:dz l[i] 0 (n-1)=true
  ·have hb:=uQ
   rw[bW]at hb
   obtain⟨k,hk⟩:∃k:Nat,l[i]=(k):=⟨l[i].toNat,by omega⟩
   have hkn:k<(FO n (l.take i)).length:=by rw[Rv];omega
   rw[uQ,hk,aY hkn,Hw]
   simp only[aj,ae,ab,bp,jv,aA]
   rw[abO _ _ _ (by rw[Rv]at hkn;exact hkn),<-hk,<-aU hi]
  ·have adl:dz l[i] 0 (n-1)=false:=by simpa using uQ
   rw[adl];rfl
 cases (range l.length).all (Ux n l)<;>rfl
theorem Kx (p:ga)(h:p.2.2.2.length<=10^9):qM p=some (wy p):=by
 unfold qM wy;simp only[cx,ab,bM];by_cases hn:dz p.2.2.1 0 16=true
 ·have hb:=hn;rw[bW]at hb;rw[zip,aP (by omega),VA p.2.2.1 p.2.2.2 h (λi hi s nx=>?hs) (λs nx=>?hf)]
  case hs=>
   simp only[wL]
   rw[jh,aY hi,ai (by omega) (by omega),ai (by omega) (by omega)]
   simp only[af,ab,cx];rfl
  case hf=>
   simp only[wL]
   rw[gZ];rfl
  rw[hn];cases dz p.1 0 130944<;>cases dz p.2.1 1 512<;>rfl
 have Ae:dz p.2.2.1 0 16=false:=by simpa using hn
 rw[Ae];cases dz p.1 0 130944<;>cases dz p.2.1 1 512<;>rfl
theorem JX (p:ga)(h:p.2.2.2.length<=10^9):qi p=some (wy p):=by
 unfold qi wy;simp only[cQ,ab,bM];by_cases hn:dz p.2.2.1 0 16=true
 ·have hb:=hn;rw[bW]at hb;rw[zip,aP (by omega),VA p.2.2.1 p.2.2.2 h (λi hi s nx=>?hs) (λs nx=>?hf)]
  case hs=>
   simp only[vo]
   rw[jh,aY hi,ai (by omega) (by omega),ai (by omega) (by omega)]
   simp only[af,ab,cQ];rfl
  case hf=>
   simp only[vo]
   rw[gZ];rfl
  rw[hn];cases dz p.1 0 130944<;>cases dz p.2.1 1 512<;>rfl
 have Ae:dz p.2.2.1 0 16=false:=by simpa using hn
 rw[Ae];cases dz p.1 0 130944<;>cases dz p.2.1 1 512<;>rfl
def km (n:Int):Bool:=(n==2)||((n==4)||((n==8)||(n==16)))
theorem Ev (n:Int):sm n=some (km n):=by grind[sm,ab,km]
theorem GH (n:Int):sS n=some (km n):=Ev n
theorem mc {n:Int}:km n=true↔n=2\/n=4\/n=8\/n=16:=by simp[km]
theorem HK (x:Int)(k:Nat)(hk:k<=64:=by omega):ak x%(2^k:Int)=x%(2^k:Int):=by
 obtain⟨c,hc⟩:∃c:Int,(18446744073709551616)=2^k*c:=⟨2^(64-k),by rw[<-Int.pow_add,show k+(64-k)=64 by omega];rfl⟩
 have:ak x=x\/∃q:Int,ak x=x+18446744073709551616*q:=by right;simp only[ak,fV,IntKind.wrap,IntKind.bits,IntKind.signed];simp;split;exact⟨-(x/18446744073709551616)-1,by omega⟩;exact⟨-(x/18446744073709551616),by omega⟩
 rcases this with h|⟨q,h⟩;all_goals simp_all[Int.mul_assoc]
theorem De (x:Int)(k:Nat)(hk:k<63:=by omega):((iD x&&&iD (2^k-1)).toNat:Int)=x%2^k:=by
 have h2:(2)^k<=2^62:=by have:(2)^k<=2^62:=Nat.pow_le_pow_right (by omega) (by omega);exact_mod_cast this
 have hm:(iD (2^k-1)).toNat=2^k-1:=by show(BitVec.ofInt 64 (2^k-1)).toNat=2^k-1;grind
 rw[BitVec.toNat_and,hm,Nat.and_two_pow_sub_one_eq_mod];have hx:0<=x%18446744073709551616:=by omega
 have e:(((x%18446744073709551616).toNat%2^k))=(x%18446744073709551616)%2^k:=by push_cast;rw[Int.toNat_of_nonneg hx]
 refine e.trans ?_;exact Int.emod_emod_of_dvd x ⟨2^(64-k),by rw[<-Int.pow_add,show k+(64-k)=64 by omega];rfl⟩
theorem Rj (x n:Int)(h0:0<n:=by omega)(h1:n<=4611686018427387904:=by omega):kc x n=some (x%n):=by unfold kc;have:=Int.emod_nonneg x (show n≠0 by omega);grind[fI,ai]
def dh (r:xB):Int:=if km r.2.1 then(r.2.2.2-r.2.2.1)%(2*r.2.1) else 0
theorem DW (r:xB):kg r=some (dh r):=by
 unfold kg dh;rw[Ev,ab];cases hs:km r.2.1 with
 |false=>rfl
 |true=>
  congr 1;rcases mc.1 hs with h|h|h|h<;>rw[h];have e:ak (ak (2*2)-1)=2^2-1:=by decide
  rw[e,De _ 2,HK _ 2,ai (by omega) (by omega)];rfl;have e:ak (ak (2*4)-1)=2^3-1:=by decide
  rw[e,De _ 3,HK _ 3,ai (by omega) (by omega)];rfl;have e:ak (ak (2*8)-1)=2^4-1:=by decide
  rw[e,De _ 4,HK _ 4,ai (by omega) (by omega)];rfl;have e:ak (ak (2*16)-1)=2^5-1:=by decide
  rw[e,De _ 5,HK _ 5,ai (by omega) (by omega)];rfl
theorem Dx (r:xB):kb r=some (dh r):=by unfold kb dh;rw[GH,ab];cases hs:km r.2.1 with|false=>rfl|true=>have hb:=mc.1 hs;rw[ai (by omega) (by omega)];simp only[Rj _ (2*r.2.1) (show 0<2*r.2.1 by omega),ab];grind[ai]
def gx (r:xB):Bool:=dz r.1 0 130944&&(km r.2.1&&(dz r.2.2.1 0 (2*r.2.1-1)&&(dz r.2.2.2 0 (2*r.2.1-1)&&decide (dh r<=r.2.1))))
theorem Hx {n:Int}(h:km n=true):ak (ak (2*n)-1)=2*n-1:=by grind[mc,ai]
theorem DV (r:xB):lP r=some (gx r):=by unfold lP gx;simp only[cx,Ev,DW,ab,bM,cF];grind[km,Hx]
theorem Dw (r:xB):lu r=some (gx r):=by unfold lu gx;simp only[cQ,GH,Dx,ab,bM,cF];grind[km,Hx]
theorem IZ (p:ga)(h:p.2.2.2.length<=10^9):od p=some p:=by grind[od,aP]
theorem pZ (l:cG)(h:l.length<=10^9):ia l=some l:=by grind[ia,aP]
theorem F4 (p:ga)(h:p.2.2.2.length<=10^9):lX p=some p:=by simp_all[lX,pZ]
def S6 (p:ga)(l:cG):ga:=(p.1,p.2.1,p.2.2.1,p.2.2.2++l)
def NY (p:ga)(l:cG):Bool:=wy p&&wy (S6 p l)
def Ss (p:ga)(l:cG):ga×Bool:=bif NY p l then(S6 p l,true) else(p,false)
theorem VY (p:ga)(l:cG)(h:p.2.2.2.length+l.length<=10^9):iM p l=some (Ss p l):=by unfold iM;rw[IZ p (by omega),ab,aP (by omega),Kx p (by omega)];rw[Kx (p.1,p.2.1,p.2.2.1,p.2.2.2++l) (by simp;omega)];show _=some (bif wy p&&wy (p.1,p.2.1,p.2.2.1,p.2.2.2++l) then _ else _);cases wy p<;>cases wy (p.1,p.2.1,p.2.2.1,p.2.2.2++l)<;>rfl
theorem U3 (p:ga)(l:cG)(h:p.2.2.2.length+l.length<=10^9):iI p l=some (Ss p l):=by unfold iI;rw[F4 p (by omega),ab,aP (by omega),JX p (by omega)];rw[JX (p.1,p.2.1,p.2.2.1,p.2.2.2++l) (by simp;omega)];show _=some (bif wy p&&wy (p.1,p.2.1,p.2.2.1,p.2.2.2++l) then _ else _);cases wy p<;>cases wy (p.1,p.2.1,p.2.2.1,p.2.2.2++l)<;>rfl
theorem ac1 (p:ga)(l:cG):(Ss p l).2=NY p l:=by grind[Ss]
def lI (n:Int)(s:hH):Bool:=dz s.2.1 1 n&&dz s.1 0 65535
def cK (l:aq hH):cG:=l.flatMap (·.2.2)
def jl (l:aq hH):Int:=(l.map (·.2.1)).sum
def txB (t:dk):Bool:=gx t.1&&(wy t.2.1&&(dz t.2.2.2 0 65535&&(t.2.2.1.all (lI t.1.2.1)&&(NY t.2.1 (cK t.2.2.1)&&decide (jl t.2.2.1<=t.1.2.1)))))
theorem Jx (n:Int):∀l:aq hH,l.all (lI n)=true->0<=jl l
 |[],_=>by simp[jl]
 |x::l,h=>by simp only[bC,ah]at h;have:=Jx n l h.2;grind[lI,bW,jl]
theorem RK (p:ga)(n:Int)(hn:0<=n/\n<=16)(fin:Int×cG->ar Bool)(kJ:∀s:Int×cG,p.2.2.2.length+s.2.length<=10^9->fin s=some (NY p s.2&&decide (s.1<=n))):
 ∀(l:aq hH)(sum:Int)(acc:cG),0<=sum->sum+16*l.length<=100000000000->p.2.2.2.length+(acc.length+(cK l).length)<=10^9->
 uA (λx (s:Int×cG) k=>cond (!(lI n x)) (some false) (room (s.2.length+x.2.2.length) (k (ak (s.1+x.2.1),s.2++x.2.2)))) fin l (sum,acc)
  =some (l.all (lI n)&&(NY p (acc++cK l)&&decide (sum+jl l<=n)))
 |[],sum,acc,h0,h1,h2=>by simp_all[uA,cK,jl]
 |x::l,sum,acc,h0,h1,h2=>by
  have hb:cK (x::l)=x.2.2++cK l:=by simp[cK]
  rw[hb,au]at h2;rw[uA,bC];cases hx:lI n x with
  |false=>rfl
  |true=>
   have zU:=hx;unfold lI at zU;simp only[ah,bW]at zU;simp only[cf,cH,cI]at h1;simp only[aj,ae,bp];rw[aP (by omega),ai (by omega) (by omega),RK p n hn fin kJ l _ _ (by omega) (by omega) (by rw[au];omega)];rw[hb,aO];have e:sum+x.2.1+jl l=sum+jl (x::l):=by grind[jl]
   rw[e]
theorem Q7 (p:ga)(n:Int)(hn:n<=16)(fin:Int×cG->ar Bool)(kJ:∀s:Int×cG,p.2.2.2.length+s.2.length<=10^9->fin s=some (NY p s.2)):
 ∀(l:aq hH)(left:Int)(acc:cG),0<=left->left<=n->p.2.2.2.length+(acc.length+(cK l).length)<=10^9->
 uA (λx (s:Int×cG) k=>cond (decide (x.2.1<1)||(decide (x.2.1>s.1)|| !(dz x.1 0 65535))) (some false) (room (s.2.length+x.2.2.length) (k (ak (s.1-x.2.1),s.2++x.2.2)))) fin l (left,acc)
  =some (l.all (lI n)&&(NY p (acc++cK l)&&decide (jl l<=left)))
 |[],left,acc,h0,h1,h2=>by rw[uA,kJ _ (by exact h2)];simp[cK,jl,h0]
 |x::l,left,acc,h0,h1,h2=>by
  have hb:cK (x::l)=x.2.2++cK l:=by simp[cK]
  have hc:jl (x::l)=x.2.1+jl l:=by simp only[jl,dC,List.sum_cons]
  rw[hb,au]at h2;rw[uA,bC,hb,hc];by_cases c1:x.2.1<1;have e:lI n x=false:=by unfold lI dz;rw[al (show¬1<=x.2.1 by omega)];rfl
  rw[e,aw c1];rfl;rw[al c1];by_cases c2:x.2.1>left;rw[aw c2];cases ha:l.all (lI n)with|false=>simp|true=>have:=Jx n l ha;rw[al (show¬x.2.1+jl l<=left by omega)];simp
  rw[al c2];have e:lI n x=dz x.1 0 65535:=by have:dz x.2.1 1 n=true:=bW.2 ⟨by omega,by omega⟩;unfold lI;rw[this];rfl
  rw[e];cases dz x.1 0 65535 with
  |false=>rfl
  |true=>
   simp only[cR,aj,ae,bp];rw[aP (by omega),ai (by omega) (by omega),Q7 p n hn fin kJ l _ _ (by omega) (by omega) (by rw[au];omega),aO];have e:decide (jl l<=left-x.2.1)=decide (x.2.1+jl l<=left):=by simp;omega
   rw[e]
theorem aeU (t:dk)(h1:t.2.2.1.length<=10^9)(h2:t.2.1.2.2.2.length+(cK t.2.2.1).length<=10^9):DX t=some (txB t):=by
 unfold DX txB;simp only[DV,Kx _ (show t.2.1.2.2.2.length<=10^9 by omega),cx,ab,bM];cases hr:gx t.1 with
 |false=>rfl
 |true=>
  have hn:0<=t.1.2.1/\t.1.2.1<=16:=by grind[gx,mc]
  have Fq:=dX;have key:=xp (T:=wP (λ(y9) (xe) (_)=>aa (iM t.2.1 xe) λAy=>some (bif Ay.2 then decide (y9<=t.1.2.1) else false)) (λ(AU) (_) (_) (_)=>some AU) false t) t.2.2.1 (λ(s) i=>(s.1,s.2,(i))) (λx (s) k=>cond (!(lI t.1.2.1 x)) (some false) (room (s.2.length+x.2.2.length) (k (ak (s.1+x.2.1),s.2++x.2.2)))) (λs=>aa (iM t.2.1 s.2) λAy=>some (Ay.2&&decide (s.1<=t.1.2.1))) (λi hi s nx=>by simp(disch:=omega)[wP,aw,aY,ai,cx,lI]) (λs nx=>by grind[wP]) fuel 0 (0,([])) (by omega) (by omega);rw[fj,RK t.2.1 t.1.2.1 hn _ (λs hs=>by grind[VY,ab,ac1]) _ _ _ (by omega) (by omega) (by simpa using h2)]at key;grind
theorem adS (t:dk)(h1:t.2.2.1.length<=10^9)(h2:t.2.1.2.2.2.length+(cK t.2.2.1).length<=10^9):DA t=some (txB t):=by
 unfold DA txB;simp only[Dw,JX _ (show t.2.1.2.2.2.length<=10^9 by omega),cQ,ab,bM];cases hr:gx t.1 with
 |false=>rfl
 |true=>
  have hn:0<=t.1.2.1/\t.1.2.1<=16:=by grind[gx,mc]
  have Fq:=dX;have key:=xp (T:=vq (λ(_) (y9) (_)=>aa (iI t.2.1 y9) λzM=>some zM.2) (λ(CO) (_) (_) (_)=>some CO) false t.2.2.1 ((List.length t.2.2.1)) t) t.2.2.1 (λ(s) i=>(s.1,s.2,(i))) (λx (s) k=>cond (decide (x.2.1<1)||(decide (x.2.1>s.1)|| !(dz x.1 0 65535))) (some false) (room (s.2.length+x.2.2.length) (k (ak (s.1-x.2.1),s.2++x.2.2)))) (λs=>aa (iI t.2.1 s.2) λAy=>some Ay.2) (λi hi s nx=>by simp(disch:=omega)[vq,aw,aY,ai,cQ,bM]) (λs nx=>by grind[vq]) fuel 0 (t.1.2.1,([])) (by omega) (by omega);rw[fj,Q7 t.2.1 t.1.2.1 (by omega) _ (λs hs=>by grind[U3,ab,ac1]) _ _ _ (by omega) (by omega) (by simpa using h2)]at key;grind
def Kj (s:dA):Bool:=dz s.2.1 0 65535&&(dz s.2.2.1 0 65535&&(!decide ((List.length s.2.2.2.2.2.2.2:Int)>320)&&
 (bif s.1==17 then(s.2.2.2.1==0)&&((s.2.2.2.2.1==0)&&((s.2.2.2.2.2.1==0)&&(s.2.2.2.2.2.2.1==0)))
  else(s.1==6)&&(dz s.2.2.2.1 0 4294967295&&(dz s.2.2.2.2.1 0 4294967295&&(dz s.2.2.2.2.2.1 0 31&&dz s.2.2.2.2.2.2.1 0 65535))))))
theorem Z3 (s:dA):qO s=some (Kj s):=by simp_all[qO,cx,bM,Bool.and_assoc,Kj]
theorem ZA (s:dA):ql s=some (Kj s):=by simp only[ql,cQ,ab,bM,cF,cT,cN,Bool.not_or,jv,Bool.and_assoc,Kj];by_cases h:s.1=17;rw[h];rfl;rw[show(s.1==17)=false from by simpa using h];cases s.1==6<;>rfl
def Gb (f:Int):Bool:=(f==16)||(f==17)||(f==24)||(f==25)
theorem NR (f:Int)(h:dz f 0 31=true):(ak (toNat (iD f&&&~~~ iD 9))==16)=Gb f:=by
 have key:∀k:Fin 32,(ak (toNat (iD (k.val:Int)&&&~~~ iD 9))==16)=Gb (k.val:Int):=by decide
 rw[bW]at h;have:=key ⟨f.toNat,by omega⟩;grind
theorem NQ (f:Int)(h:dz f 0 31=true):qn f=some (Gb f):=by
 have key:∀k:Fin 32,((ak (toNat (iD (k.val:Int)&&&iD 16)) !=0)&&(ak (toNat (iD (k.val:Int)&&&~~~ iD 25))==0))=Gb (k.val:Int):=by decide
 rw[bW]at h;have:=key ⟨f.toNat,by omega⟩;rw[show((f.toNat:Nat):Int)=f by omega]at this;grind[qn,ab]
theorem LC {s:dA}(h:Kj s=true)(h6:(s.1==6)=true):dz s.2.2.2.2.2.1 0 31=true:=by grind[Kj]
def JH (p:aM):Bool:=dz p.1 0 281474976710655&&(dz p.2.1 0 281474976710655&&(dz p.2.2.1 (-1) 4095&&(dz p.2.2.2.1 0 255&&(dz p.2.2.2.2.2.1 0 255&&(dz p.2.2.2.2.1 0 65535&&(dz p.2.2.2.2.2.2.1 0 4294967295&&(dz p.2.2.2.2.2.2.2.1 0 4294967295&&Kj p.2.2.2.2.2.2.2.2)))))))
def ej (p:aM):Bool:=JH p&&(decide ((List.length p.2.2.2.2.2.2.2.2.2.2.2.2.2.2.2:Int)<=128)||(p.2.2.2.2.2.2.2.2.1==6)&&Gb p.2.2.2.2.2.2.2.2.2.2.2.2.2.1)
theorem N4 (h:JH p=true):Kj p.2.2.2.2.2.2.2.2=true:=by grind[JH]
theorem oU (p:aM):gq p=some (ej p):=by unfold gq ej;simp only[cx,Z3,ab,bM,cF,cT,cN,Bool.not_or,jv];rw[show(dz p.1 0 281474976710655&&(dz p.2.1 0 281474976710655&&(dz p.2.2.1 (-1) 4095&&(dz p.2.2.2.1 0 255&&(dz p.2.2.2.2.2.1 0 255&&(dz p.2.2.2.2.1 0 65535&&(dz p.2.2.2.2.2.2.1 0 4294967295&&(dz p.2.2.2.2.2.2.2.1 0 4294967295&&Kj p.2.2.2.2.2.2.2.2))))))))=JH p from rfl];grind[NR,LC,N4,Bool.or_comm]
theorem oL (p:aM):gj p=some (ej p):=by unfold gj ej;simp only[cQ,ZA,ab];grind[JH,NQ,LC,ab]
def iw (q:Mw):Bool:=dz q.1 0 130944&&(km q.2.1&&dz q.2.2 0 (ak ((ak (2*q.2.1))-1)))
theorem RI (q:Mw):rX q=some (iw q):=by grind[rX,cx,Ev,ab,iw]
theorem Q4 (q:Mw):rf q=some (iw q):=by grind[rf,cQ,GH,ab,iw]
def ahQ:jI:=((0,0,0,0,0,0,0,0,0,0,0,0,0,0,0,([]:Bytes)),0,0)
def aeX (p:jI):Bool:=(p.1.1==0)&&((p.1.2.1==0)&&((p.1.2.2.1==0)&&((p.1.2.2.2.1==0)&&((p.1.2.2.2.2.1==0)&&((p.1.2.2.2.2.2.1==0)&&((p.1.2.2.2.2.2.2.1==0)&&((p.1.2.2.2.2.2.2.2.1==0)&&((p.1.2.2.2.2.2.2.2.2.1==0)&&((p.1.2.2.2.2.2.2.2.2.2.1==0)&&((p.1.2.2.2.2.2.2.2.2.2.2.1==0)&&((p.1.2.2.2.2.2.2.2.2.2.2.2.1==0)&&((p.1.2.2.2.2.2.2.2.2.2.2.2.2.1==0)&&((p.1.2.2.2.2.2.2.2.2.2.2.2.2.2.1==0)&&((p.1.2.2.2.2.2.2.2.2.2.2.2.2.2.2.1==0)&&((p.1.2.2.2.2.2.2.2.2.2.2.2.2.2.2.2==([]:Bytes))&&((p.2.1==0)&&((p.2.2==0)&&true)))))))))))))))))
def Tg (r:bJ):Bool:=(gx r.1&&(iw r.2.1&&(iw r.2.2.1&&((r.2.1.1==r.2.2.1.1)&&((r.2.1.2.1==r.2.2.1.2.1)&&dz r.2.2.2.2.2 0 1000000000000)))))&&
 (bif r.2.2.2.2.1 then ej r.2.2.2.1.1&&(dz r.2.2.2.1.2.1 0 320&&dz r.2.2.2.1.2.2 1 320) else aeX r.2.2.2.1)
theorem YF (r:bJ):Bc r=some (Tg r):=by unfold Bc Tg aeX;simp_all[DV,RI,cx,oU,bM,bne]
theorem XP (r:bJ):A9 r=some (Tg r):=by unfold A9 Tg aeX;simp_all[Dw,Q4,cQ,oL,bM,bne]
def AQ (v:Vector):Bool:=(oY v).getD false
theorem Jb (v:Vector):oY v=some (AQ v):=by simp_all[oY,qP,cx,bM,AQ]
theorem Om (v:Vector):xW v=some (AQ v):=Jb v
theorem Lz (l:aq α)(p:α->Bool):(range l.length).all (λi=>l[i]?.all p)=l.all p:=by rw[ez,ba,ba];constructor;intro h x hx;obtain⟨i,hi,rfl⟩:=List.getElem_of_mem hx;have:=h i (dm.2 hi);rwa[ax hi]at this;intro h i hi;rw[ax (dm.1 hi)];exact h _ (aN _)
theorem Y8 (l:aq α)(p q:α->Bool):l.all (λx=>p x&&q x)=(l.all p&&l.all q):=by grind
def jJ (h:Host):cG:=[h.2.2.2.2.2.2.2.2.2.2.2.2.2.2.1,h.2.2.2.2.2.2.2.2.2.2.2.2.2.2.2.1,h.2.2.2.2.2.2.2.2.2.2.2.2.2.2.2.2.1,h.2.2.2.2.2.2.2.2.2.2.2.2.2.2.2.2.2.1,h.2.2.2.2.2.2.2.2.2.2.2.2.2.2.2.2.2.2]
def FN (h:Host):Bool:=dz (h.2.2.2.1.length:Int) 1 2&&(((h.2.2.2.2.1.length:Int)==(h.2.2.2.1.length:Int))&&(((h.2.2.2.2.2.1.length:Int)==(h.2.2.2.1.length:Int))&&((h.2.2.2.2.2.2.1.length:Int)==(h.2.2.2.1.length:Int))))
def VK (h:Host):Bool:=h.2.2.2.1.all Tg&&(h.2.2.2.2.1.all wy&&h.2.2.2.2.2.1.all AQ)
def vd (h:Host):Bool:=gJ h.1&&(gn h.2.1&&(txB h.2.2.1&&(tA h.2.2.2.2.2.2.2.1&&(FN h&&(im h.2.2.2.2.2.2.2.2.1 (h.2.2.2.1.length:Int)&&(VK h&&(jJ h).all (λx=>dz x 0 1000000000000)))))))
structure R3 (h:Host):Prop where
 a1:h.1.length<=10^9
 a2:h.2.1.length<=10^9
 t1:h.2.2.1.2.2.1.length<=10^9
 t2:h.2.2.1.2.1.2.2.2.length+(cK h.2.2.1.2.2.1).length<=10^9
 f1:h.2.2.2.2.2.2.2.1.2.2.length<=10^9
 s1:h.2.2.2.2.2.2.2.2.1.1.length<=10^9
 s2:h.2.2.2.2.2.2.2.2.1.2.1.length<=10^9
 s3:h.2.2.2.2.2.2.2.2.1.2.2.2.length<=10^9
 p1:∀p∈h.2.2.2.2.1,p.2.2.2.length<=10^9
theorem ER {h:Host}(l:FN h=true):h.2.2.2.1.length<=2/\h.2.2.2.2.1.length=h.2.2.2.1.length/\h.2.2.2.2.2.1.length=h.2.2.2.1.length/\h.2.2.2.2.2.2.1.length=h.2.2.2.1.length:=by grind[FN,bW]
theorem Rr {T:(Int->ar R)->Int->ar R}{fin hit:ar R}{h:Host}(l:FN h=true)(hs:∀i (hi:i<h.2.2.2.1.length) nx,T nx (i:Int)=cond (!(Tg h.2.2.2.1[i]&&(wy (h.2.2.2.2.1[i]'((ER l).2.1▸hi))&&AQ (h.2.2.2.2.2.1[i]'((ER l).2.2.1▸hi))))) hit (nx ((i+1:Nat):Int)))(hf:∀nx,T nx (h.2.2.2.1.length:Int)=fin):aJ T fuel 0=cond (VK h) fin hit:=by
 have hl:=ER l;rw[fQ (fin:=fin) (hit:=hit) (λi=>h.2.2.2.1[i]?.all Tg&&(h.2.2.2.2.1[i]?.all wy&&h.2.2.2.2.2.1[i]?.all AQ)) h.2.2.2.1.length (by omega) ?hs hf]
 case hs=>
  grind
 rw[Y8,Y8,Lz];have e1:=Lz h.2.2.2.2.1 wy;have e2:=Lz h.2.2.2.2.2.1 AQ;rw[hl.2.1]at e1;rw[hl.2.2.1]at e2;rw[e1,e2];rfl
theorem LQ {T:(Int->ar R)->Int->ar R}{fin hit:ar R}(h:Host)(hs:∀i (hi:i<(jJ h).length) nx,T nx (i:Int)=cond (!(dz (jJ h)[i] 0 1000000000000)) hit (nx ((i+1:Nat):Int)))(hf:∀nx,T nx ((jJ h).length:Int)=fin):aJ T fuel 0=cond ((jJ h).all (λx=>dz x 0 1000000000000)) fin hit:=qU (λx=>dz x 0 1000000000000) (jJ h) (by simp[jJ]) hs hf
theorem O9 (h:Host)(z:R3 h):uO h=some (vd h):=by
 unfold uO vd;simp only[E3 _ z.a1,Kw _ z.a2,aeU _ z.t1 z.t2,E2 _ z.f1,KA _ _ z.s1 z.s2 z.s3,cx,ab,bM];cases gJ h.1;rfl;cases gn h.2.1;rfl;cases txB h.2.2.1;rfl;cases tA h.2.2.2.2.2.2.2.1;rfl;simp only[aj,ae,cT,bne];rw[show(!dz (h.2.2.2.1.length:Int) 1 2||(!((h.2.2.2.2.1.length:Int)==(h.2.2.2.1.length:Int))||(!((h.2.2.2.2.2.1.length:Int)==(h.2.2.2.1.length:Int))||(!((h.2.2.2.2.2.2.1.length:Int)==(h.2.2.2.1.length:Int))|| !im h.2.2.2.2.2.2.2.2.1 (h.2.2.2.1.length:Int)))))= !(FN h&&im h.2.2.2.2.2.2.2.2.1 (h.2.2.2.1.length:Int)) by unfold FN;simp only[Bool.not_and,Bool.or_assoc]];cases hl:FN h;rfl;cases im h.2.2.2.2.2.2.2.2.1 (h.2.2.2.1.length:Int);rfl;have hL:=ER hl;simp only[gP,aj,ae,bp];rw[Rr (h:=h) (hit:=some false) (fin:=some ((jJ h).all (λx=>dz x 0 1000000000000))) hl ?hs ?hf]
 case hs=>
  intro i hi nx
  simp only[wH]
  rw[jh,aY hi,aY (hL.2.1▸hi),aY (hL.2.2.1▸hi),ai (n:=(i:Int)+1) (by omega) (by omega)]
  simp only[af,ab,YF,Jb,Kx _ (z.p1 _ (aN _)),bM,cT,Bool.not_and]
  rfl
 case hf=>
  intro nx
  simp only[wH]
  rw[gZ]
  simp only[ae]
  refine(LQ (fin:=some true) (hit:=some false) h ?_ ?_).trans ?_
  ·intro i hi nx
   simp only[tU]
   have pV:i<5:=hi
   change (bif decide ((i:Int)<5) then aa (idx (jJ h) (i:Int)) _ else _)=_
   rw[jh,aY hi,ai (n:=(i:Int)+1) (by omega) (by omega),ab,cx]
   rfl
  ·intro nx
   simp only[tU]
   rw[al (by simp[jJ])];rfl
  ·cases (jJ h).all (λx=>dz x 0 1000000000000)<;>rfl
 cases VK h<;>rfl
theorem Oh (h:Host)(z:R3 h):uE h=some (vd h):=by
 unfold uE vd;simp only[IV _ z.a1,JV _ z.a2,adS _ z.t1 z.t2,En _ z.f1,J0 _ _ z.s1 z.s2 z.s3,cQ,ab,bM];cases gJ h.1;rfl;cases gn h.2.1;rfl;cases txB h.2.2.1;rfl;cases tA h.2.2.2.2.2.2.2.1;rfl;simp only[aj,ae,cT,bne];rw[show(!dz (h.2.2.2.1.length:Int) 1 2||(!((h.2.2.2.2.1.length:Int)==(h.2.2.2.1.length:Int))||(!((h.2.2.2.2.2.1.length:Int)==(h.2.2.2.1.length:Int))|| !((h.2.2.2.2.2.2.1.length:Int)==(h.2.2.2.1.length:Int)))))= !(FN h) by unfold FN;simp only[Bool.not_and]];cases hl:FN h;rfl;have hL:=ER hl;simp only[aj,ae,bp];rw[Rr (h:=h) (hit:=some false) (fin:=some ((jJ h).all (λx=>dz x 0 1000000000000)&&im h.2.2.2.2.2.2.2.2.1 (h.2.2.2.1.length:Int))) hl ?hs ?hf]
 case hs=>
  intro i hi nx
  simp only[vk]
  rw[jh,aY hi,aY (hL.2.1▸hi),aY (hL.2.2.1▸hi),ai (n:=(i:Int)+1) (by omega) (by omega)]
  simp only[af,ab,XP,Om,JX _ (z.p1 _ (aN _)),bM,cT,Bool.not_and]
  rfl
 case hf=>
  intro nx
  simp only[vk]
  rw[gZ]
  simp only[ae]
  refine(LQ (fin:=some (im h.2.2.2.2.2.2.2.2.1 (h.2.2.2.1.length:Int))) (hit:=some false) h ?_ ?_).trans ?_
  ·intro i hi nx
   simp only[tH]
   have pV:i<5:=hi
   change (bif decide ((i:Int)<5) then aa (idx (jJ h) (i:Int)) _ else _)=_
   rw[jh,aY hi,ai (n:=(i:Int)+1) (by omega) (by omega),ab,cQ]
   rfl
  ·intro nx
   simp only[tH]
   rw[al (by simp[jJ])];rfl
  ·cases (jJ h).all (λx=>dz x 0 1000000000000)<;>rfl
 cases VK h<;>cases im h.2.2.2.2.2.2.2.2.1 (h.2.2.2.1.length:Int)<;>cases (jJ h).all (λx=>dz x 0 1000000000000)<;>rfl
theorem fE {n:Nat}(h:n<9223372036854775808):ak (n:Int)=(n:Int):=ai (by omega) (by omega)
theorem KP {n:Nat}(h:n<4294967296:=by omega):IntKind.wrap .u32 (n:Int)=(n:Int):=by grind[IntKind.wrap,IntKind.bits,IntKind.signed]
theorem jT (b:UInt8):b.toNat<256:=b.toNat_lt
def bQ (v:Int):Bytes:=(bN v).getD []
theorem il (v:Int):bN v=some (bQ v):=by grind[bQ,bN,cx,ab]
theorem lV (v:Int):cd v=some (bQ v):=il v
theorem Jk (v:Int):(bQ v).length=bif dz v 0 65535 then 2 else 0:=by have h:=il v;simp only[bN,cx,ab]at h;cases hb:dz v 0 65535<;>rw[hb]at h<;>(rw[<-di h];rfl)
theorem bz (v:Int):(bQ v).length<=2:=by grind[Jk]
def fP (v:Int):Bytes:=(dW v).getD []
theorem jF (v:Int):dW v=some (fP v):=by grind[fP,dW,cx,ab]
theorem uo (v:Int):eZ v=some (fP v):=jF v
theorem PC (v:Int):(fP v).length=bif dz v 0 4294967295 then 4 else 0:=by have h:=jF v;simp only[dW,cx,ab]at h;cases hb:dz v 0 4294967295<;>rw[hb]at h<;>(rw[<-di h];rfl)
theorem de (v:Int):(fP v).length<=4:=by grind[PC]
def bA (s:Bytes)(i:Nat):Nat:=(s.getD i 0).toNat
theorem eI (s:Bytes)(i:Nat):bA s i<256:=jT _
theorem jM {i:Nat}(h:i<s.length:=by omega):∃x,idx s (i:Int)=some x/\x.toNat=bA s i:=⟨s[i],aY h,by rw[bA,eu h]⟩
def fu (s:Bytes)(a n:Int):Bool:=decide (0<=a/\a+n<=(s.length:Int))
theorem GO (s:Bytes)(a n:Int)(h:s.length<=10^9)(hn:0<=n):nA s a n=some (fu s a n):=by
 unfold nA fu;by_cases h0:0<=a;by_cases h1:a<=(s.length:Int)
 rw[aw (show a>=0 from h0),aw h1,ai (by omega) (by omega)];simp only[af,ab];congr 1;rw[decide_eq_decide];omega;rw[aw (show a>=0 from h0),al h1,al (show¬(0<=a/\a+n<=(s.length:Int)) by omega)];rfl;rw[al (show¬a>=0 from h0),al (show¬(0<=a/\a+n<=(s.length:Int)) by omega)];rfl
def cB (s:Bytes)(a:Int):Int:=bif fu s a 2 then((bA s a.toNat*256+bA s (a.toNat+1):Nat):Int) else-1
def dB (s:Bytes)(a:Int):Int:=bif fu s a 4 then(((bA s a.toNat*256+bA s (a.toNat+1))*65536+(bA s (a.toNat+2)*256+bA s (a.toNat+3)):Nat):Int) else-1
theorem uN (s:Bytes)(a:Int)(h:s.length<=10^9):eO s a=some (cB s a):=by unfold eO cB;rw[GO s a 2 h (by omega),ab];cases hw:fu s a 2 with|false=>rfl|true=>simp only[fu,bE]at hw;obtain⟨n,rfl⟩:=aF hw.1;obtain⟨x,hx,ex⟩:=jM (s:=s) (i:=n);obtain⟨y,hy,ey⟩:=jM (s:=s) (i:=n+1);have hxl:=eI s n;have hyl:=eI s (n+1);rw[ai (n:=(n:Int)+1) (by omega) (by omega),hx,show(n:Int)+1=((n+1:Nat):Int) by omega,hy];simp only[aj,ae,ab,aA,af];rw[mL,ex,ey,fE (by omega),fE (by omega)];have e8:qS 8=8:=rfl;rw[e8,ai (n:=((bA s n:Nat):Int)*2^8) (by omega) (by omega),ai (by omega) (by omega)];congr 1;all_goals omega
theorem Bb (s:Bytes)(a:Int)(h:s.length<=10^9):gN s a=some (dB s a):=by
 unfold gN dB;rw[GO s a 4 h (by omega),ab];cases hw:fu s a 4 with
 |false=>rfl
 |true=>
  simp only[fu,bE]at hw;obtain⟨n,rfl⟩:=aF hw.1;have w1:fu s (n:Int) 2=true:=by grind[fu]
  have w2:fu s ((n:Int)+2) 2=true:=by grind[fu]
  have b0:=eI s n;have b1:=eI s (n+1);have b2:=eI s (n+2);have b3:=eI s (n+3);rw[ai (n:=(n:Int)+2) (by omega) (by omega),uN s _ h,uN s _ h];simp only[aj,ae,ab,af,cB,w1,w2,aA];rw[mL,show((n:Int)+2).toNat=n+2 by omega,show n+2+1=n+3 by omega];have e8:qS 16=16:=rfl;rw[e8,ai (n:=((bA s n*256+bA s (n+1):Nat):Int)*2^16) (by omega) (by omega),ai (by omega) (by omega)];congr 1;all_goals omega
theorem ap0 (a b:Nat)(ha:a<9223372036854775808)(hb:b<9223372036854775808):toNat (iD (a:Int)|||iD (b:Int))=a|||b:=by show(BitVec.ofInt 64 (a:Int)|||BitVec.ofInt 64 (b:Int)).toNat=_;grind
theorem agx (a b:Nat)(ha:a<9223372036854775808:=by omega)(hb:b<9223372036854775808:=by omega):toNat (iD (a:Int)&&&iD (b:Int))=a&&&b:=by show(BitVec.ofInt 64 (a:Int)&&&BitVec.ofInt 64 (b:Int)).toNat=_;grind
theorem aae (a b:Nat)(ha:a<9223372036854775808)(hb:b<9223372036854775808):toNat (iD (a:Int)^^^iD (b:Int))=a^^^b:=by show(BitVec.ofInt 64 (a:Int)^^^BitVec.ofInt 64 (b:Int)).toNat=_;grind
theorem ah3 (a b:Nat)(ha:a<4294967296)(hb:b<4294967296):toNat (BitVec.ofInt (IntKind.bits .u32) (a:Int)&&&BitVec.ofInt (IntKind.bits .u32) (b:Int))=a&&&b:=by show(BitVec.ofInt 32 (a:Int)&&&BitVec.ofInt 32 (b:Int)).toNat=_;grind
theorem agP (a b:Nat)(ha:a<4294967296)(hb:b<4294967296):toNat (BitVec.ofInt (IntKind.bits .u32) (a:Int)^^^BitVec.ofInt (IntKind.bits .u32) (b:Int))=a^^^b:=by show(BitVec.ofInt 32 (a:Int)^^^BitVec.ofInt 32 (b:Int)).toNat=_;grind
theorem I2 (x k y:Nat)(hy:y<2^k:=by omega)(h:2^k*x+y<9223372036854775808:=by omega):ak (toNat (iD ((2^k*x:Nat):Int)|||iD (y:Int)):Int)=((2^k*x+y:Nat):Int):=by rw[ap0 _ _ (by omega) (by omega),<-Nat.two_pow_add_eq_or_of_lt hy];exact fE h
theorem Mp (s:Bytes)(a n:Int):(cond (decide (a<0)) (some true) (some (decide (a>(s.length:Int)-n))))=some (!fu s a n):=by grind[fu]
theorem AZ (s:Bytes)(a:Int)(h:s.length<=10^9):fJ s a=some (cB s a):=by unfold fJ cB;rw[ai (n:=(s.length:Int)-2) (by omega) (by omega)];rw[Mp,ab];cases hw:fu s a 2 with|false=>rfl|true=>simp only[fu,bE]at hw;obtain⟨n,rfl⟩:=aF hw.1;obtain⟨x,hx,ex⟩:=jM (s:=s) (i:=n);obtain⟨y,hy,ey⟩:=jM (s:=s) (i:=n+1);have hxl:=eI s n;have hyl:=eI s (n+1);rw[ai (n:=(n:Int)+1) (by omega) (by omega),hx,show(n:Int)+1=((n+1:Nat):Int) by omega,hy];simp only[aj,ae,af,ab,aA];rw[mL,ex,ey,fE (n:=bA s n) (by omega),fE (n:=bA s (n+1)) (by omega)];have e8:qS 8=8:=rfl;rw[e8,show((bA s n:Nat):Int)*2^8=((2^8*bA s n:Nat):Int) by omega,fE (n:=2^8*bA s n) (by omega),I2 (bA s n) 8 (bA s (n+1))];congr 1;all_goals omega
theorem A8 (s:Bytes)(a:Int)(h:s.length<=10^9):ie s a=some (dB s a):=by
 unfold ie dB;rw[ai (n:=(s.length:Int)-4) (by omega) (by omega)];rw[Mp,ab];cases hw:fu s a 4 with
 |false=>rfl
 |true=>
  simp only[fu,bE]at hw;obtain⟨n,rfl⟩:=aF hw.1;obtain⟨x0,h0,e0⟩:=jM (s:=s) (i:=n);obtain⟨x1,h1,e1⟩:=jM (s:=s) (i:=n+1);obtain⟨x2,h2,e2⟩:=jM (s:=s) (i:=n+2);obtain⟨x3,h3,e3⟩:=jM (s:=s) (i:=n+3);have b0:=eI s n;have b1:=eI s (n+1);have b2:=eI s (n+2);have b3:=eI s (n+3)
  rw[ai (n:=(n:Int)+1) (by omega) (by omega),ai (n:=(n:Int)+2) (by omega) (by omega),ai (n:=(n:Int)+3) (by omega) (by omega),h0,show(n:Int)+1=((n+1:Nat):Int) by omega,h1,
   show(n:Int)+2=((n+2:Nat):Int) by omega,h2,show(n:Int)+3=((n+3:Nat):Int) by omega,h3]
  simp only[aj,ae,af,ab,aA];rw[mL,mL,mL,e0,e1,e2,e3];generalize bA s n=p0 at*;generalize bA s (n+1)=p1 at*;generalize bA s (n+2)=p2 at*;generalize bA s (n+3)=p3 at*;have f24:qS 24=24:=rfl;have f16:qS 16=16:=rfl;have f8:qS 8=8:=rfl
  rw[fE (n:=p0) (by omega),fE (n:=p1) (by omega),fE (n:=p2) (by omega),fE (n:=p3) (by omega),f24,f16,f8,
   show((p0:Nat):Int)*2^24=((2^24*p0:Nat):Int) by omega,show((p1:Nat):Int)*2^16=((2^16*p1:Nat):Int) by omega,show((p2:Nat):Int)*2^8=((2^8*p2:Nat):Int) by omega,
   fE (n:=2^24*p0) (by omega),fE (n:=2^16*p1) (by omega),fE (n:=2^8*p2) (by omega),I2 p0 24 (2^16*p1),
   show 2^24*p0+2^16*p1=2^16*(2^8*p0+p1) by omega,I2 _ 16 (2^8*p2),
   show 2^16*(2^8*p0+p1)+2^8*p2=2^8*(2^8*(2^8*p0+p1)+p2) by omega,I2 _ 8 p3]
  congr 1;all_goals omega
def IE (c:Nat):Nat:=if c%2=1 then(c/2)^^^3988292384 else c/2
def uP:Nat->Nat->Nat
 |0,c=>c
 |n+1,c=>IE (uP n c)
def apg (c:Nat)(s:Bytes):Nat:=s.foldl (λc b=>uP 8 (c^^^b.toNat)) c
def QD (s:Bytes):Int:=4294967295-(apg 4294967295 s:Int)
theorem C7 {b:Nat}(ha:a<4294967296)(hb:b<4294967296):a^^^b<4294967296:=Nat.xor_lt_two_pow (n:=32) ha hb
theorem aao (h:c<4294967296):IE c<4294967296:=by grind[IE,C7]
theorem Jy (h:c<4294967296):∀n,uP n c<4294967296
 |0=>h
 |n+1=>aao (Jy h n)
theorem aeF (k0:Int->Int->ar R)(k:Int->ar R)(hk:∀x y,k0 x y=k x)(v0:Bytes)(v4:Int)(c:Nat)(h:c<4294967296):aJ (oV k0 v0 v4) fuel ((c:Int),0)=k (uP 8 c:Int):=by
 have Fq:=dX
 have key:=Ho (T:=oV k0 v0 v4) 8 (λ(_:Unit) i=>((uP i c:Int),(i:Int))) (λ_ s nx=>nx s) (λ_=>k (uP 8 c:Int))
  (λi s nx hi=>by
   have hc:=Jy h i;simp only[oV];have a1:=agx (uP i c) 1;have x1:=aae (uP i c/2) 3988292384 (by omega) (by omega);simp only[cI]at a1
   rw[jh,af,a1,Nat.and_one_is_mod,
    show qS 1=1 from rfl,show fdiv ((uP i c:Nat):Int) (2^1)=((uP i c/2:Nat):Int) from by rw[Int.fdiv_eq_ediv_of_nonneg _ (by omega)];rfl,
    show(3988292384:Int)=((3988292384:Nat):Int) from rfl,x1,
    fE (n:=uP i c%2) (by omega),fE (n:=(uP i c/2)^^^3988292384) (by have:=C7 (a:=uP i c/2) (b:=3988292384) (by omega) (by omega);omega),mL,mL,ai (n:=(i:Int)+1) (by omega) (by omega)]
   show _=nx ((IE (uP i c):Int),((i+1:Nat):Int));unfold IE;by_cases hp:uP i c%2=1;rw[hp,aH rfl];rfl;have h0:uP i c%2=0:=by omega
   rw[h0,mL];rfl)
  (λs nx=>by simp only[oV];rw[gZ,ae,hk])
  fuel 0 () (by omega) (by omega)
 refine key.trans ?_;rfl
theorem adB (k0:Int->Int->ar R)(k:Int->ar R)(hk:∀x y,k0 x y=k x)(v0:Bytes)(v4:Int)(c:Nat)(h:c<4294967296):aJ (oM k0 v0 v4) fuel ((c:Int),0)=k (uP 8 c:Int):=by
 have Fq:=dX
 have key:=Ho (T:=oM k0 v0 v4) 8 (λ(_:Unit) i=>((uP i c:Int),(i:Int))) (λ_ s nx=>nx s) (λ_=>k (uP 8 c:Int))
  (λi s nx hi=>by
   have hc:=Jy h i;simp only[oM];have a1:=ah3 (uP i c) 1 (by omega) (by omega);have x1:=agP (uP i c/2) 3988292384 (by omega) (by omega);simp only[cI]at a1
   rw[jh,af,a1,Nat.and_one_is_mod,
    show min (Int.toNat 1) (IntKind.bits .u32)=1 from rfl,show fdiv ((uP i c:Nat):Int) (2^1)=((uP i c/2:Nat):Int) from by rw[Int.fdiv_eq_ediv_of_nonneg _ (by omega)];rfl,
    show(3988292384:Int)=((3988292384:Nat):Int) from rfl,x1,
    KP (n:=uP i c%2),KP (n:=(uP i c/2)^^^3988292384) (C7 (by omega) (by omega)),mL,ai (n:=(i:Int)+1) (by omega) (by omega)]
   show _=nx ((IE (uP i c):Int),((i+1:Nat):Int));unfold IE;by_cases hp:uP i c%2=1;rw[hp,aH rfl];rfl;have h0:uP i c%2=0:=by omega
   rw[h0,mL];rfl)
  (λs nx=>by simp only[oM];rw[gZ,ae,hk])
  fuel 0 () (by omega) (by omega)
 refine key.trans ?_;rfl
theorem Z1 (s:Bytes)(h:s.length<=10^9):BX s=some (QD s):=by
 unfold BX;have:=qJ (T:=tn (λ(y4:Int) (_:Int)=>some (ak (4294967295-y4))) s) s (λ(c:Nat) i=>((c:Int),(i:Int))) (λ_ c=>c<4294967296) (λb c=> .ok (uP 8 (c^^^b.toNat))) (λc=>some (4294967295-(c:Int))) (by omega) (λi hi c nx hI=>?hs) (λi hi c c' hI hg=>?hn) (λc nx hI=>?hf) 4294967295 (by omega)
 case hs=>
  have hb:=jT s[i]
  simp only[tn]
  rw[jh,aY hi,af,ab,fE (n:=s[i].toNat) (by omega),aae c s[i].toNat (by omega) (by omega)]
  have hx:=C7 hI (show s[i].toNat<4294967296 by omega)
  rw[fE (by omega),aeF _ (λy=>nx (y,(i:Int)+1)) (λx y=>by grind[ai]) _ _ _ hx];rfl
 case hn=>
  grind[Jy,C7,jT]
 case hf=>
  grind[tn,ai]
 rw[EX]at this;exact this
theorem not_xor (c:Nat)(h:c<4294967296):toNat (BitVec.ofInt (IntKind.bits .u32) (IntKind.max .u32)^^^BitVec.ofInt (IntKind.bits .u32) (c:Int))=4294967295-c:=by show(BitVec.ofInt 32 4294967295^^^BitVec.ofInt 32 (c:Int)).toNat=_;rw[show BitVec.ofInt 32 4294967295=BitVec.allOnes 32 by decide,BitVec.ofInt_natCast,BitVec.allOnes_xor,BitVec.toNat_not,BitVec.toNat_ofNat,Nat.mod_eq_of_lt (show c<2^32 by omega)]
theorem Zy (s:Bytes)(h:s.length<=10^9):Bt s=some (QD s):=by
 unfold Bt;have:=qJ (T:=sJ (λ(y4:Int) (_:Int)=>some (ak (IntKind.wrap .u32 (toNat (BitVec.ofInt (IntKind.bits .u32) (IntKind.max .u32)^^^BitVec.ofInt (IntKind.bits .u32) y4))))) s) s (λ(c:Nat) i=>((c:Int),(i:Int))) (λ_ c=>c<4294967296) (λb c=> .ok (uP 8 (c^^^b.toNat))) (λc=>some (4294967295-(c:Int))) (by omega) (λi hi c nx hI=>?hs) (λi hi c c' hI hg=>?hn) (λc nx hI=>?hf) 4294967295 (by omega)
 case hs=>
  have hb:=jT s[i]
  simp only[sJ]
  rw[jh,aY hi,af,ab,KP (n:=s[i].toNat),agP c s[i].toNat (by omega) (by omega)]
  have hx:=C7 hI (show s[i].toNat<4294967296 by omega)
  rw[KP hx,adB _ (λy=>nx (y,(i:Int)+1)) (λx y=>by grind[ai]) _ _ _ hx];rfl
 case hn=>
  grind[Jy,C7,jT]
 case hf=>
  simp only[sJ]
  rw[gZ,ae,not_xor c hI,KP,fE (by omega)]
  congr 1
  all_goals omega
 rw[EX]at this;exact this
theorem Nw (s:Bytes):aK (dg s)=s:=by simp_all[aK,dg,List.map_congr_left]
theorem adV (s t:Bytes):dg (s++t)=dg s++dg t:=List.map_append
theorem J7 (s:Bytes):(dg s).length=s.length:=cn ..
theorem Tx (l:aq α)(i j:Nat)(h:i<=j:=by omega)(h2:j<=l.length:=by omega):sub l (i:Int) (j:Int)=some ((l.drop i).take (j-i)):=by grind[sub,List.take_drop]
theorem aab (a k:Nat):tdiv (a:Int) (k:Int)=((a/k:Nat):Int):=(Int.ofNat_tdiv a k).symm
theorem Wf (a k:Nat):tmod (a:Int) (k:Int)=((a%k:Nat):Int):=(Int.ofNat_tmod a k).symm
theorem mem_iff:gJ m=true↔(∀x∈m,x.length=128)/\m.length<=64:=by grind[gJ]
theorem Us:∀{m:cy},(∀x∈m,x.length=128)->m.flatten.length=128*m.length
 |[],_=>rfl
 |x::m,h=>by have:=Us (m:=m) (λy hy=>h y (by simp[hy]));grind
theorem QP:∀{m:cy}(_:∀x∈m,x.length=128)(p:Nat)(hp:p<m.length)(o c:Nat),o+c<=128->(m.flatten.drop (128*p+o)).take c=(m[p].drop o).take c
 |x::m,h,0,hp,o,c,ho=>by grind
 |x::m,h,p+1,hp,o,c,ho=>by have hx:=h x (by simp);simp only[List.flatten_cons,List.getElem_cons_succ];rw[show 128*(p+1)+o=x.length+(128*p+o) by omega,List.drop_length_add_append];exact QP (m:=m) (λy hy=>h y (by simp[hy])) p (by simpa using hp) o c ho
def zW (m:cy)(a n:Nat):Bytes:=(m.flatten.drop a).take n
theorem DN {n:Nat}(h:gJ m=true)(hn:a+n<=128*m.length):(zW m a n).length=n:=by have:=Us (mem_iff.1 h).1;grind[zW]
theorem aew (m:cy)(a n:Nat):(zW m a n).length<=n:=by simp[zW];omega
theorem Rq (m:cy)(a k c:Nat):zW m a (k+c)=zW m a k++zW m (a+k) c:=by grind[zW,eo]
theorem OW (h:gJ m=true){p:Nat}(hp:p<m.length)(ho:o+c<=128)(ha:a=128*p+o):(m[p].drop o).take c=zW m a c:=by subst ha;exact(QP (mem_iff.1 h).1 p hp o c ho).symm
def gr (m:cy)(a n:Int):Bool:=gJ m&&decide (0<=n/\0<=a/\a+n<=128*(m.length:Int))
theorem Gv (m:cy)(a n:Int)(h:m.length<=10^9):uF m a n=some (gr m a n):=by unfold uF gr;rw[IV m h,ab,ai (n:=(m.length:Int)*128) (by omega) (by omega)];cases hm:gJ m with|false=>rfl|true=>simp only[af,bp];by_cases h1:n>=0;by_cases h2:n<=(m.length:Int)*128;rw[ai (n:=(m.length:Int)*128-n) (by omega) (by omega)];by_cases h3:a>=0;simp only[aw h1,aw h2,aw h3,af,ab];exact congrArg some (decide_eq_decide.2 (by omega));simp only[aw h1,aw h2,al h3,af,ae,ab];exact congrArg some (gZ).symm;simp only[aw h1,al h2,af,ae,ab];exact congrArg some (gZ).symm;simp only[al h1,ae,ab];exact congrArg some (gZ).symm
theorem GP (m:cy)(a n:Int)(h:m.length<=10^9):kA m a n=some (gr m a n):=by unfold kA gr;rw[E3 m h,ab,ai (n:=128*(m.length:Int)) (by omega) (by omega)];cases hm:gJ m with|false=>rfl|true=>simp only[af,bp];by_cases h1:n>=0;by_cases h3:a>=0;by_cases h2:a<=128*(m.length:Int);rw[ai (n:=128*(m.length:Int)-a) (by omega) (by omega)];simp only[aw h1,aw h2,aw h3,af,ab];exact congrArg some (decide_eq_decide.2 (by omega));simp only[aw h1,al h2,aw h3,af,ae,ab];exact congrArg some (gZ).symm;simp only[aw h1,al h3,af,ae,ab];exact congrArg some (gZ).symm;simp only[al h1,ae,ab];exact congrArg some (gZ).symm
theorem JY (hm:gJ m=true)(K:Int->cG->ar R):∀(n r k a f:Nat),r<=n->n<f->a+k+r<=128*m.length->
 aJ (ku K ((k+r:Nat):Int) m) f (((a+k:Nat):Int),dg (zW m a k))=K ((a+k+r:Nat):Int) (dg (zW m a (k+r)))
 |n,r,k,a,0,_,hf,_=>by omega
 |n,0,k,a,f+1,hr,hf,hb=>by grind[aJ,ku,J7,DN]
 |0,r+1,k,a,f+1,hr,hf,hb=>by omega
 |n+1,r+1,k,a,f+1,hr,hf,hb=>by
  have h64:=(mem_iff.1 hm).2;have hl:=DN hm (show a+k<=128*m.length by omega);obtain⟨p,hp⟩:∃p,(a+k)/128=p:=⟨_,rfl⟩
  obtain⟨o,ho⟩:∃o,(a+k)%128=o:=⟨_,rfl⟩
  have hpo:a+k=128*p+o:=by omega
  have ho2:o<128:=by omega
  have Hk:p<m.length:=by omega
  obtain⟨c,hc⟩:∃c,min (r+1) (128-o)=c:=⟨_,rfl⟩
  have hpg:=(mem_iff.1 hm).1 _ (aN Hk);have e1:tdiv ((a+k:Nat):Int) 128=(p:Int):=by grind
  have e2:tmod ((a+k:Nat):Int) 128=(o:Int):=by grind
  have key:=JY hm K n (r+1-c) (k+c) a f (by omega) (by omega) (by omega);rw[aJ];simp only[ku,J7,hl,e1,e2];rw[jh,af,mL,ai (n:=(p:Int)) (by omega) (by omega),aY Hk,ab,mL];rw[ai (n:=(o:Int)+((k+(r+1):Nat):Int)) (by omega) (by omega),ai (n:=(o:Int)+((k+(r+1):Nat):Int)-(k:Int)) (by omega) (by omega)];rw[show(if(o:Int)+((k+(r+1):Nat):Int)-(k:Int)<128 then(o:Int)+((k+(r+1):Nat):Int)-(k:Int) else 128)=((o+c:Nat):Int) by split<;>omega];rw[Tx _ _ _,ab,show o+c-o=c by omega,OW hm Hk (show o+c<=128 by omega) hpo];have zT:=DN hm (show a+k+c<=128*m.length by omega);rw[zT,aP (by omega),ai (by omega) (by omega),<-adV,<-Rq];grind
theorem adP (m:cy)(a n:Int)(h:m.length<=10^9):ou m a n=some (bif gr m a n then(zW m a.toNat n.toNat,true) else([],false)):=by have Fq:=dX;unfold ou;rw[Gv m a n h,ab];cases hw:gr m a n with|false=>rfl|true=>simp only[gr,ah,bE]at hw;obtain⟨hm,h1,h2,h3⟩:=hw;have h64:=(mem_iff.1 hm).2;simp only[aj,ae,af];rw[zip,aP (by omega)];obtain⟨a,rfl⟩:=aF h2;obtain⟨n,rfl⟩:=aF h1;have:=JY hm (λ(y4:Int) (y5:cG)=>some (aK y5,true)) n n 0 a fuel (by omega) (by omega) (by omega);rw[cj,dF]at this;refine Eq.trans this ?_;simp only[Nw,aA]
theorem Ky (hm:gJ m=true)(K:Int->Int->Bytes->ar R):∀(n r k a f:Nat),r<=n->n<f->a+k+r<=128*m.length->
 aJ (nZ K m) f (((a+k:Nat):Int),(r:Int),zW m a k)=K ((a+k+r:Nat):Int) 0 (zW m a (k+r))
 |n,r,k,a,0,_,hf,_=>by omega
 |n,0,k,a,f+1,hr,hf,hb=>by rfl
 |0,r+1,k,a,f+1,hr,hf,hb=>by omega
 |n+1,r+1,k,a,f+1,hr,hf,hb=>by
  have h64:=(mem_iff.1 hm).2;have hl:=DN hm (show a+k<=128*m.length by omega);obtain⟨p,hp⟩:∃p,(a+k)/128=p:=⟨_,rfl⟩
  obtain⟨o,ho⟩:∃o,(a+k)%128=o:=⟨_,rfl⟩
  have hpo:a+k=128*p+o:=by omega
  have ho2:o<128:=by omega
  have Hk:p<m.length:=by omega
  obtain⟨c,hc⟩:∃c,min (r+1) (128-o)=c:=⟨_,rfl⟩
  have hpg:=(mem_iff.1 hm).1 _ (aN Hk);have e1:tdiv ((a+k:Nat):Int) 128=(p:Int):=by grind
  have e2:tmod ((a+k:Nat):Int) 128=(o:Int):=by grind
  have key:=Ky hm K n (r+1-c) (k+c) a f (by omega) (by omega) (by omega);rw[aJ];simp only[nZ,e1,e2];rw[jh,af,mL,mL,ai (n:=(p:Int)) (by omega) (by omega),aY Hk,ab];rw[ai (n:=128-(o:Int)) (by omega) (by omega)];rw[show(if 128-(o:Int)<((r+1:Nat):Int) then 128-(o:Int) else((r+1:Nat):Int))=(c:Int) by split<;>omega];rw[ai (n:=(o:Int)+(c:Int)) (by omega) (by omega),show(o:Int)+(c:Int)=((o+c:Nat):Int) by omega];rw[Tx _ _ _,ab,show o+c-o=c by omega,OW hm Hk (show o+c<=128 by omega) hpo];have zT:=DN hm (show a+k+c<=128*m.length by omega);rw[zT,hl,aP (by omega),ai (n:=((a+k:Nat):Int)+(c:Int)) (by omega) (by omega),ai (n:=((r+1:Nat):Int)-(c:Int)) (by omega) (by omega),<-Rq];grind
theorem aeS (m:cy)(a n:Int)(h:m.length<=10^9):oE m a n=some (bif gr m a n then(zW m a.toNat n.toNat,true) else([],false)):=by have Fq:=dX;unfold oE;rw[GP m a n h,ab];cases hw:gr m a n with|false=>rfl|true=>simp only[gr,ah,bE]at hw;obtain⟨hm,h1,h2,h3⟩:=hw;have h64:=(mem_iff.1 hm).2;simp only[aj,ae,af];obtain⟨a,rfl⟩:=aF h2;obtain⟨n,rfl⟩:=aF h1;have:=Ky hm (λ(y4:Int) (y5:Int) (y6:Bytes)=>some (y6,true)) n n 0 a fuel (by omega) (by omega) (by omega);rw[cj,dF]at this;exact this
def Vi (d p:Int)(w:Bool)(x:aL):Bool:=wu d p x&&(x.2.2.2|| !w)
def za (l:aq aL)(d p:Int)(w:Bool):Int:=match l.findIdx? (Vi d p w)with|some i=>(l.getD i X6).2.2.1|none=> -1
theorem aeP (l:aq aL)(d p:Int)(w:Bool)(h:l.length<=10^9):AL l d p w=some (za l d p w):=by unfold AL za;refine Eq.trans (K3 (p:=Vi d p w) (hit:=λi=>aa (idx l i) λx=>some x.2.2.1) (fin:=some (-1)) l (by omega) (λi hi nx=>?_) (λnx=>?_)) ?_;simp only[ub];rw[jh,aY hi,ai (by omega) (by omega)];simp only[af,ab,Vi,wu];cases l[i].1==d<;>cases l[i].2.1==p<;>cases l[i].2.2.2<;>cases w<;>rfl;simp only[ub];rw[gZ];rfl;cases hf:l.findIdx? (Vi d p w)with|none=>rfl|some i=>obtain⟨hi,_⟩:=List.findIdx?_eq_some_iff_getElem.1 hf;simp only[aY hi,ab,eu hi]
theorem OB (h:gn l=true){i:Nat}(hi:i<l.length):Li l[i]=true/\∀j (hj:j<i),wu l[i].1 l[i].2.1 (l[j]'(by omega))=false:=by simp only[gn,ah,ba,dm]at h;have:=h.2 i hi;simp only[abg,ah,ba,dm,eu hi,aQ]at this;grind
theorem Rh {d p:Int}{m:aL}:wu d p m=true↔m.1=d/\m.2.1=p:=by simp[wu]
theorem ad5 (h:gn l=true){d p:Int}{i j:Nat}(hi:i<l.length)(hj:j<l.length)(h1:wu d p l[i]=true)(h2:wu d p l[j]=true):i=j:=by grind[Rh,OB]
theorem OH (h:gn l=true)(d p:Int)(w:Bool)(h1:0<=za l d p w):za l d p w<=63/\0<=p/\p<=1023:=by grind[za,Vi,List.findIdx?_eq_some_iff_getElem,OB,Rh,Li,bW]
theorem aaY (l:aq aL)(d:Int)(a:Nat)(w:Bool)(h:l.length<=10^9)(hm:gn l=true)(ha:a<=9223372036854775807): Et l d (a:Int) w=some (if 0<=za l d ((a/128:Nat):Int) w then za l d ((a/128:Nat):Int) w*128+((a%128:Nat):Int) else-1):=by
 have e1:tdiv (a:Int) 128=((a/128:Nat):Int):=aab a 128;have e2:tmod (a:Int) 128=((a%128:Nat):Int):=Wf a 128;unfold Et;rw[gZ,ae,mL,e1,e2,ai (by omega) (by omega),U4 l _ _ h,ab];generalize ((a/128:Nat):Int)=p;have uQ:=OH hm d p w;unfold Vz;cases hf:l.findIdx? (wu d p)with
 |none=>
  have hn:za l d p w= -1:=by grind[za,Vi]
  rw[hn];rfl
 |some i=>
  obtain⟨hi,h2,h3⟩:=List.findIdx?_eq_some_iff_getElem.1 hf;simp only;rw[gZ,aY hi];simp only[ae,ab];cases hq:l[i].2.2.2|| !w with
  |true=>
   have hF:za l d p w=l[i].2.2.1:=by grind[za,List.findIdx?_eq_some_iff_getElem,Vi]
   have h4:=(OB hm hi).1;simp only[Li,ah,bW]at h4
   rw[hF,aH (show 0<=l[i].2.2.1 by omega),show(aa (cond w (some (!l[i].2.2.2)) (some false)) λq3=>cond q3 (some (-1:Int)) _)=_ from by
    have:(cond w (some (!l[i].2.2.2)) (some false))=some false:=by cases w<;>cases hz:l[i].2.2.2<;>rw[hz]at hq<;>first|rfl|cases hq
    rw[this,ab,ae]]
   grind[ai]
  |false=>grind[za,List.getElem_of_mem,wu,Vi,ad5,ab]
def nT (l:aq aL)(m:cy)(d:Int)(w:Bool):Nat->Nat->Nat->ar (aq (Int×Int))
 |0,_,_=>some []
 |n+1,a,r=>if r=0 then some [] else
  if 0<=za l d ((a/128:Nat):Int) w/\za l d ((a/128:Nat):Int) w<(m.length:Int) then
   (nT l m d w n (a+min (128-a%128) r) (r-min (128-a%128) r)).map (λq=>(za l d ((a/128:Nat):Int) w*128+((a%128:Nat):Int),((min (128-a%128) r:Nat):Int))::q)
  else none
theorem TI (hm:gJ m=true){f:Int}(h0:0<=f)(hc:0<c)(ho:o+c<=128):gr m (f*128+(o:Int)) (c:Int)=decide (f<(m.length:Int)):=by grind[gr]
theorem Wx (hm:gJ m=true){f:Int}(h0:0<=f):gr m (f*128) 128=decide (f<(m.length:Int)):=by grind[gr]
theorem JZ (hl:gn l=true)(hL:l.length<=10^9)(hm:gJ m=true)(d:Int)(w:Bool):∀(n a r f:Nat)(acc:aq (Int×Int)),r<=n->n<f->acc.length+n<=1000000->a<=9223372036854775807->
 aJ (qm (λ(y9:Int) (xe:Int) (B7:aq (Int×Int))=>some (B7,true)) (λ(CO:Int) (D3:Int) (AU:aq (Int×Int)) (D4:Bool) (MR:aq (Int×Int))=>some (AU,D4)) l d w ([]:aq (Int×Int)) false m) f ((a:Int),(r:Int),acc)
  =match nT l m d w n a r with|some q=>some (acc++q,true)|none=>some ([],false)
 |n,a,r,0,acc,_,hf,_,_=>by omega
 |0,a,r,f+1,acc,hr,hf,hA,ha=>by rw[aJ];simp only[qm];rw[gZ];simp[nT]
 |n+1,a,r,f+1,acc,hr,hf,hA,ha=>by
  have h64:=(mem_iff.1 hm).2;rw[aJ];simp only[qm,nT];by_cases h0:r=0;rw[gZ,aH h0];simp;have e2:tmod (a:Int) 128=((a%128:Nat):Int):=Wf a 128;have uQ:=OH hl d ((a/128:Nat):Int) w;rw[jh,aG h0,aaY l d a w hL hl ha,ab,mL,e2,ai (n:=128-((a%128:Nat):Int)) (by omega) (by omega)];obtain⟨c,hc⟩:∃c,min (128-a%128) r=c:=⟨_,rfl⟩
  rw[hc,show(if 128-((a%128:Nat):Int)<(r:Int) then 128-((a%128:Nat):Int) else(r:Int))=(c:Int) by split<;>omega];generalize hP:za l d ((a/128:Nat):Int) w=P at uQ⊢;by_cases hP0:0<=P;have uQ:=uQ hP0;simp only[aH hP0,af];rw[al (show¬P*128+((a%128:Nat):Int)<0 by omega),Gv m _ _ (by omega),TI hm hP0 (by omega) (by omega)];simp only[ae,ab];by_cases hP1:P<(m.length:Int);rw[aw hP1,aH ⟨hP0,hP1⟩];simp only[aj,ae];rw[aP (by simp;omega),ai (n:=(a:Int)+(c:Int)) (by omega) (by omega),ai (n:=(r:Int)-(c:Int)) (by omega) (by omega),al (show¬(a:Int)+(c:Int)<0 by omega)];simp only[ae,ab];have key:=JZ hl hL hm d w n (a+c) (r-c) f (acc++[(P*128+((a%128:Nat):Int),(c:Int))]) (by omega) (by omega) (by simp;omega) (by omega);rw[show((a+c:Nat):Int)=(a:Int)+(c:Int) by omega,show((r-c:Nat):Int)=(r:Int)-(c:Int) by omega]at key;rw[key];cases nT l m d w n (a+c) (r-c)with|none=>rfl|some q=>simp
  rw[al hP1,mL];rfl;simp only[aG hP0,af];rw[mL,jh];rfl
theorem Kz (hl:gn l=true)(hL:l.length<=10^9)(hm:gJ m=true)(d:Int)(w:Bool):∀(n a r f:Nat)(acc:aq (Int×Int)),r<=n->n<f->acc.length+n<=1000000->a<=9223372036854775807->
 aJ (ko (λ(xe:Int) (B7:Int) (CO:cG) (D3:cG)=>some (CO,D3,true)) (λ(AU:Int) (D4:Int) (MR:cG) (y17:cG) (y18:Bool) (y19:cG) (y20:cG)=>some (MR,y17,y18)) l d w ([]:cG) ([]:cG) false m) f ((a:Int),(r:Int),acc.map (·.1),acc.map (·.2))
  =match nT l m d w n a r with|some q=>some ((acc++q).map (·.1),(acc++q).map (·.2),true)|none=>some ([],[],false)
 |n,a,r,0,acc,_,hf,_,_=>by omega
 |0,a,r,f+1,acc,hr,hf,hA,ha=>by rw[aJ];simp only[ko];rw[gZ];simp[nT]
 |n+1,a,r,f+1,acc,hr,hf,hA,ha=>by
  have h64:=(mem_iff.1 hm).2;rw[aJ];simp only[ko,nT];by_cases h0:r=0;rw[gZ,aH h0];simp;have e1:tdiv (a:Int) 128=((a/128:Nat):Int):=aab a 128;have e2:tmod (a:Int) 128=((a%128:Nat):Int):=Wf a 128;have uQ:=OH hl d ((a/128:Nat):Int) w;rw[aw (show(r:Int)>0 by omega),aw (show(a:Int)>=0 by omega),aG h0];simp only[af];rw[mL,e1,e2,ai (n:=((a/128:Nat):Int)) (by omega) (by omega),aeP l _ _ w hL,ab,mL,ai (n:=128-((a%128:Nat):Int)) (by omega) (by omega)];obtain⟨c,hc⟩:∃c,min (128-a%128) r=c:=⟨_,rfl⟩
  rw[hc,show(if 128-((a%128:Nat):Int)<(r:Int) then 128-((a%128:Nat):Int) else(r:Int))=(c:Int) by split<;>omega];generalize hP:za l d ((a/128:Nat):Int) w=P at uQ⊢;by_cases hP0:0<=P;have uQ:=uQ hP0;rw[al (show¬P<0 by omega),ai (n:=P*128) (by omega) (by omega),GP m _ _ (by omega),Wx hm hP0];simp only[ae,ab];by_cases hP1:P<(m.length:Int);rw[aw hP1,aH ⟨hP0,hP1⟩];simp only[aj,ae];rw[aP (by simp;omega),aP (by simp;omega),ai (n:=P*128+((a%128:Nat):Int)) (by omega) (by omega),ai (n:=(a:Int)+(c:Int)) (by omega) (by omega),ai (n:=(r:Int)-(c:Int)) (by omega) (by omega)];have key:=Kz hl hL hm d w n (a+c) (r-c) f (acc++[(P*128+((a%128:Nat):Int),(c:Int))]) (by omega) (by omega) (by simp;omega) (by omega);rw[show((a+c:Nat):Int)=(a:Int)+(c:Int) by omega,show((r-c:Nat):Int)=(r:Int)-(c:Int) by omega,List.map_append,List.map_append]at key;refine Eq.trans key ?_;cases nT l m d w n (a+c) (r-c)with|none=>rfl|some q=>simp
  rw[al hP1,mL];rfl;rw[mL,jh];rfl
def su (l:aq aL)(m:cy)(d a n:Int)(w:Bool):aq (Int×Int)×Bool:=
 bif gn l&&(gJ m&&dz n 0 4096) then
  (bif n==0 then([],true) else bif decide (a<0) then([],false) else match nT l m d w n.toNat a.toNat n.toNat with|some q=>(q,true)|none=>([],false))
 else([],false)
theorem U6 (l:aq aL)(m:cy)(d a n:Int)(w:Bool)(hl:l.length<=10^9)(hm:m.length<=10^9)(ha:a<=9223372036854775807):yN l m d a n w=some (su l m d a n w):=by
 have Fq:=dX;unfold yN su;simp only[JV l hl,IV m hm,cQ,ab];cases hB:gn l;rfl;cases hM:gJ m;rfl;cases hN:dz n 0 4096;rfl;have hn:=bW.1 hN;simp only[aj,ae,ab,cW,af];cases h0:n==0;case true=>rfl
 by_cases hA:a<0;rw[aw hA];rfl;rw[al hA];simp only[ae];obtain⟨a,rfl⟩:=aF (show 0<=a by omega);obtain⟨n,rfl⟩:=aF hn.1;rw[JZ hB hl hM d w n a n fuel [] (by omega) (by omega) (by simp;omega) (by omega)];simp only[aA];cases nT l m d w n a n<;>rfl
theorem RH (l:aq aL)(m:cy)(d a n:Int)(w:Bool)(hl:l.length<=10^9)(hm:m.length<=10^9)(ha:a<=9223372036854775807):tu l m d a n w=some ((su l m d a n w).1.map (·.1),(su l m d a n w).1.map (·.2),(su l m d a n w).2):=by
 have Fq:=dX;unfold tu su;simp only[Kw l hl,E3 m hm,cx,ab];cases hB:gn l;rfl;cases hM:gJ m;rfl;cases hN:dz n 0 4096;rfl;have hn:=bW.1 hN;simp only[aj,ae,ab,cW,af];obtain⟨n,rfl⟩:=aF hn.1;cases h0:((n:Int)==0)with
 |true=>
  have:n=0:=by simpa using h0
  subst this;obtain⟨f,hf⟩:∃f,fuel=f+1:=⟨fuel-1,by omega⟩
  rw[hf,aJ];rfl
 |false=>
  have hn0:n≠0:=by simpa using h0
  by_cases hA:a<0;obtain⟨f,hf⟩:∃f,fuel=f+1:=⟨fuel-1,by omega⟩
  rw[aw hA,hf,aJ];simp only[ko];rw[jh,gZ];rfl;rw[al hA];simp only[ae];obtain⟨a,rfl⟩:=aF (show 0<=a by omega);refine Eq.trans (Kz hB hl hM d w n a n fuel [] (by omega) (by omega) (by simp;omega) (by omega)) ?_;simp only[aA];cases nT l m d w n a n<;>rfl
def aag (a b:Int):Int:=(nV a b).getD 0
theorem Nb (a b:Int):nV a b=some (aag a b):=by grind[aag,nV,cx,ab]
theorem UX (a b:Int):Ag a b=some (aag a b):=Nb a b
theorem afe {a b:Int}(h:0<=a/\a<=65535)(k:0<=b/\b<=65535):0<=aag a b/\aag a b<=65535:=by have e:=Nb a b;simp only[nV,cx,ab,bW.2 h,bW.2 k,aj,ae]at e;rw[ai (n:=a+b) (by omega) (by omega)]at e;by_cases hc:a+b>65535;rw[aw hc,af,ai (by omega) (by omega)]at e;rw[<-di e];omega;rw[al hc,ae]at e;rw[<-di e];omega
def sw (s:Bytes):Nat->Int
 |0=>0
 |j+1=>aag (sw s j) ((bA s (2*j)*256+bA s (2*j+1):Nat):Int)
theorem aeY (s:Bytes):∀j,0<=sw s j/\sw s j<=65535
 |0=>by simp[sw]
 |j+1=>by have b0:=eI s (2*j);have b1:=eI s (2*j+1);exact afe (aeY s j) (by omega)
theorem IC {i:Nat}(h:s.length<=i:=by omega):bA s i=0:=by simp_all[bA]
theorem af7 (s:Bytes)(h:s.length<=10^9):yy s=some (sw s ((s.length+1)/2)):=by
 unfold yy;refine dc (λj=>(sw s j,((2*j:Nat):Int))) ((s.length+1)/2) (by omega) (λj nx hj=>?_) (λnx=>?_);have b0:=eI s (2*j);have b1:=eI s (2*j+1);obtain⟨x,hx,ex⟩:=jM (s:=s) (i:=2*j);simp only[si];rw[jh,af,hx,ab,mL,ai (n:=((2*j:Nat):Int)+1) (by omega) (by omega),ai (n:=((2*j:Nat):Int)+2) (by omega) (by omega),ex,fE (by omega)];have e8:qS 8=8:=rfl;have en:((2*j:Nat):Int)+2=((2*(j+1):Nat):Int):=by omega
 rw[e8,ai (n:=((bA s (2*j):Nat):Int)*2^8) (by omega) (by omega)];by_cases hc:2*j+1<s.length;obtain⟨y,hy,ey⟩:=jM (s:=s) (i:=2*j+1) hc;rw[jh,af,show((2*j:Nat):Int)+1=((2*j+1:Nat):Int) by omega,hy,ab,ey,fE (n:=bA s (2*j+1)) (by omega),ai (by omega) (by omega),Nb,ab,en,show((bA s (2*j):Nat):Int)*2^8+((bA s (2*j+1):Nat):Int)=((bA s (2*j)*256+bA s (2*j+1):Nat):Int) by omega];rfl;have hz:=IC (s:=s) (i:=2*j+1);rw[gZ,ae,Nb,ab,en,show((bA s (2*j):Nat):Int)*2^8=((bA s (2*j)*256+bA s (2*j+1):Nat):Int) by rw[hz];omega];rfl;simp only[si];rw[gZ];rfl
theorem afP (s:Bytes)(h:s.length<=10^9):xV s=some (sw s ((s.length+1)/2)):=by
 unfold xV;refine dc (λj=>(sw s j,((2*j:Nat):Int))) ((s.length+1)/2) (by omega) (λj nx hj=>?_) (λnx=>?_);have b0:=eI s (2*j);have b1:=eI s (2*j+1);obtain⟨x,hx,ex⟩:=jM (s:=s) (i:=2*j);simp only[rm];rw[jh,af,hx,ab,mL,ai (n:=((2*j:Nat):Int)+1) (by omega) (by omega),ai (n:=((2*j:Nat):Int)+2) (by omega) (by omega),ex,fE (by omega)];have e8:qS 8=8:=rfl;have en:((2*j:Nat):Int)+2=((2*(j+1):Nat):Int):=by omega
 rw[e8,show((bA s (2*j):Nat):Int)*2^8=((2^8*bA s (2*j):Nat):Int) by omega,fE (n:=2^8*bA s (2*j)) (by omega)];by_cases hc:2*j+1<s.length;obtain⟨y,hy,ey⟩:=jM (s:=s) (i:=2*j+1) hc;rw[jh,af,show((2*j:Nat):Int)+1=((2*j+1:Nat):Int) by omega,hy,ab,ey,fE (n:=bA s (2*j+1)) (by omega),I2 (bA s (2*j)) 8 (bA s (2*j+1)),UX,ab,en,show 2^8*bA s (2*j)+bA s (2*j+1)=bA s (2*j)*256+bA s (2*j+1) by omega];rfl;have hz:=IC (s:=s) (i:=2*j+1);rw[gZ,ae,UX,ab,en,show((2^8*bA s (2*j):Nat):Int)=((bA s (2*j)*256+bA s (2*j+1):Nat):Int) by rw[hz];omega];rfl;simp only[rm];rw[gZ];rfl
def Sd (s:Bytes):Int:=65535-sw s ((s.length+1)/2)
theorem Kr (s:Bytes)(h:s.length<=10^9):kf s=some (Sd s):=by have:=aeY s ((s.length+1)/2);simp only[kf,af7 s h,ab];rw[ai (by omega) (by omega)];rfl
theorem M3 (s:Bytes)(h:s.length<=10^9):iR s=some (Sd s):=by have:=aeY s ((s.length+1)/2);simp only[iR,afP s h,ab];rw[ai (by omega) (by omega)];rfl
def wz (s:Bytes)(a:Int)(p:Bytes):Bytes:=bif fu s a (p.length:Int) then(s.take a.toNat++p)++s.drop (a.toNat+p.length) else s
theorem zd (s:Bytes)(a:Int)(p:Bytes):(wz s a p).length=s.length:=by grind[wz,fu]
theorem VH (s:Bytes)(a:Int)(p:Bytes)(h:s.length<=10^9)(hw:fu s a (p.length:Int)=true): (aa (sub s 0 a) λx2=>room (List.length x2+List.length p) (aa (sub s (ak (a+((List.length p:Int)))) ((List.length s:Int))) λx3=>room (List.length (x2++p)+List.length x3) (some ((x2++p)++x3))))=some (wz s a p):=by
 have hw':=hw;simp only[fu,bE]at hw';obtain⟨n,rfl⟩:=aF hw'.1;have e1:sub s 0 (n:Int)=some (s.take n):=by grind[sub]
 have e2:sub s (((n+p.length:Nat):Int)) (s.length:Int)=some (s.drop (n+p.length)):=by grind[sub,ch]
 rw[e1,ai (by omega) (by omega),show(n:Int)+(p.length:Int)=((n+p.length:Nat):Int) by omega,e2,ab,aP (by grind),ab,aP (by grind)];grind[wz]
theorem E5 (s:Bytes)(a:Int)(p:Bytes)(h:s.length<=10^9):ei s a p=some (wz s a p):=by grind[ei,GO,ab,wz,VH]
theorem Eo (s:Bytes)(a:Int)(p:Bytes)(h:s.length<=10^9:=by omega)(hp:p.length<=10^9:=by omega):ft s a p=some (wz s a p):=by
 unfold ft;rw[ai (n:=(s.length:Int)-(p.length:Int)) (by omega) (by omega)];cases hw:fu s a (p.length:Int)with
 |true=>have hw':=hw;simp only[fu,bE]at hw';rw[al (show¬a<0 by omega),al (show¬a>(s.length:Int)-(p.length:Int) by omega)];exact VH s a p h hw
 |false=>
  have hp:wz s a p=s:=by grind[wz]
  rw[hp];simp only[fu,fi]at hw;by_cases h0:a<0;all_goals simp(disch:=omega)[aw]
def bs2 (x y:Int):Bytes:=aK [x,y]
theorem Sb (x y:Int):(bs2 x y).length=2:=rfl
def Ax (a b k n:Int):Bool:=dz a 0 4294967295&&(dz b 0 4294967295&&(dz k 0 255&&dz n 0 65535))
def xr (a b k n:Int):Bytes:=((fP a++fP b)++bs2 0 (fV k))++bQ n
theorem Hu (a b k n:Int):(xr a b k n).length<=12:=by grind[de,bz,xr,Sb]
theorem E4 (a b k n:Int):jt a b k n=some (bif Ax a b k n then(xr a b k n,true) else([],false)):=by have:=de a;have:=de b;have:=bz n;unfold jt Ax;simp only[cx,ab,jF,il];cases dz a 0 4294967295;rfl;cases dz b 0 4294967295;rfl;cases dz k 0 255;rfl;cases dz n 0 65535;rfl;simp only[aj,ae,cW,af,ab];have e:(aK [0,fV k]).length=2:=rfl;rw[aP (by omega),aP (by grind),aP (by grind)];rfl
theorem Ok (a b k n:Int):py a b k n=some (bif Ax a b k n then(xr a b k n,true) else([],false)):=E4 a b k n
def bare (g:dA):Bytes:=bif g.1==6 then
    (((((bQ g.2.1++bQ g.2.2.1)++fP g.2.2.2.1)++fP g.2.2.2.2.1)++bs2 80 (fV g.2.2.2.2.2.1))++bQ g.2.2.2.2.2.2.1)++fP 0++g.2.2.2.2.2.2.2
 else(((bQ g.2.1++bQ g.2.2.1)++bQ (8+(g.2.2.2.2.2.2.2.length:Int)))++bQ 0)++g.2.2.2.2.2.2.2
theorem R9 (g:dA):(bare g).length<=20+g.2.2.2.2.2.2.2.length:=by have:=bz g.2.1;have:=bz g.2.2.1;have:=de g.2.2.2.1;have:=de g.2.2.2.2.1;have:=bz g.2.2.2.2.2.2.1;have:=de 0;have:=bz 0;have:=bz (8+(g.2.2.2.2.2.2.2.length:Int));unfold bare;cases g.1==6<;>simp only[af,ae,au,Sb]<;>omega
theorem acm:bQ 0++bQ 0=fP 0:=by rfl
theorem adA (g:dA)(h:g.2.2.2.2.2.2.2.length<=1000000):rr g=some (bare g):=by have:=bz g.2.1;have:=bz g.2.2.1;have:=de g.2.2.2.1;have:=de g.2.2.2.2.1;have:=bz g.2.2.2.2.2.2.1;have:=bz 0;have:=bz (8+(g.2.2.2.2.2.2.2.length:Int));have e:∀x,(aK [80,fV x]).length=2:=λ_=>rfl;unfold rr bare;rw[ai (n:=8+(g.2.2.2.2.2.2.2.length:Int)) (by omega) (by omega)];simp only[lV,uo,ab];rw[aP (by omega)];cases g.1==6 with|true=>simp only[af];rw[aP (by simp only[au,e];omega),aP (by simp only[au,e];omega),aP (by simp only[au,e];omega),aP (by simp only[au,e];omega),aP (by simp only[au,e];omega),aP (by simp only[au,e];omega),aP (by simp only[au,e];omega)];rw[<-acm];simp only[bs2,aO]|false=>simp only[ae];rw[aP (by simp only[au];omega),aP (by simp only[au];omega),aP (by simp only[au];omega)]
def Z6 (a b:Int)(g:dA):Int:=bif (Sd (xr a b g.1 ((bare g).length:Int)++bare g)==0)&&(g.1==17) then 65535 else Sd (xr a b g.1 ((bare g).length:Int)++bare g)
def ZV (a b:Int)(g:dA):Bytes:=wz (bare g) (bif g.1==6 then 16 else 6) (bQ (Z6 a b g))
def O2 (a b:Int)(g:dA):Bool:=Kj g&&Ax a b g.1 ((bare g).length:Int)
def C2 (a b:Int)(g:dA):Bytes×Bool:=bif O2 a b g then(ZV a b g,true) else([],false)
theorem Kk {g:dA}(h:Kj g=true):g.2.2.2.2.2.2.2.length<=320:=by grind[Kj]
theorem GN (a b:Int)(g:dA):jr a b g=some (C2 a b g):=by
 unfold jr C2 O2;rw[Z3,ab];cases hg:Kj g;rfl;have hb:=Kk hg;have hl:=R9 g;have hp:=Hu a b g.1 ((bare g).length:Int);have:=bz g.2.1;have:=bz g.2.2.1;have:=de g.2.2.2.1;have:=de g.2.2.2.2.1;have:=bz g.2.2.2.2.2.2.1;have:=de 0;have:=bz 0;have:=bz (8+(g.2.2.2.2.2.2.2.length:Int));have e:∀x,(aK [80,fV x]).length=2:=λ_=>rfl;rw[ai (n:=8+(g.2.2.2.2.2.2.2.length:Int)) (by omega) (by omega)];simp only[il,jF,ab,aj,ae,bp];rw[aP (by omega)];cases h6:g.1==6 with
 |true=>
  have ac6:bare g=(((((bQ g.2.1++bQ g.2.2.1)++fP g.2.2.2.1)++fP g.2.2.2.2.1)++aK [80,fV g.2.2.2.2.2.1])++bQ g.2.2.2.2.2.2.1)++fP 0++g.2.2.2.2.2.2.2:=by unfold bare;rw[h6];rfl
  simp only[af];rw[aP (by grind),aP (by grind),aP (by grind),aP (by grind),aP (by grind),aP (by grind),<-ac6,E4,ab];cases Ax a b g.1 ((bare g).length:Int);rfl;simp only[af,aj,ae];rw[aP (by omega),Kr _ (by grind)];simp only[ab,bM,E5 _ _ _ (show(bare g).length<=10^9 by omega),ZV,Z6,h6,af,cF];cases (Sd (xr a b g.1 ((bare g).length:Int)++bare g)==0)&&(g.1==17)<;>rfl
 |false=>
  have ac6:bare g=(((bQ g.2.1++bQ g.2.2.1)++bQ (8+(g.2.2.2.2.2.2.2.length:Int)))++bQ 0)++g.2.2.2.2.2.2.2:=by unfold bare;rw[h6];rfl
  simp only[ae];rw[aP (by simp_all;omega),aP (by simp_all;omega),aP (by simp_all;omega),<-ac6,E4,ab];cases Ax a b g.1 ((bare g).length:Int);rfl;simp only[af,aj,ae];rw[aP (by omega),Kr _ (by simp_all;omega)];simp only[ab,bM,E5 _ _ _ (show(bare g).length<=10^9 by omega),ZV,Z6,h6,ae,cF];cases (Sd (xr a b g.1 ((bare g).length:Int)++bare g)==0)&&(g.1==17)<;>rfl
theorem Gt (a b:Int)(g:dA):jm a b g=some (C2 a b g):=by
 unfold jm C2 O2;rw[ZA,ab];cases hg:Kj g;rfl;have hb:=Kk hg;have hl:=R9 g;have hp:=Hu a b g.1 ((bare g).length:Int);have JN:eU g.1=some (bif g.1==6 then 16 else 6):=by unfold eU;rw[bM]
 have w1:=bz 65535;have w2:=bz (Sd (xr a b g.1 ((bare g).length:Int)++bare g));simp only[adA g (by omega),Ok,ab,aj,ae,bp];cases Ax a b g.1 ((bare g).length:Int);rfl;simp only[af,aj,ae];rw[aP (by omega),M3 _ (by grind)];simp only[ab,bM,JN,lV,Eo _ _ _ (show(bare g).length<=10^9 by omega) (show(bQ 65535).length<=10^9 by omega),Eo _ _ _ (show(bare g).length<=10^9 by omega) (show(bQ (Sd (xr a b g.1 ((bare g).length:Int)++bare g))).length<=10^9 by omega),ZV,Z6,cF];grind
theorem af2 (a b:Int)(g:dA):(C2 a b g).1.length<=340:=by unfold C2;cases h:O2 a b g with|false=>exact fB _|true=>simp only[O2,ah]at h;have:=Kk h.1;have:=R9 g;show(wz _ _ _).length<=340;rw[zd];omega
theorem oK (a:cy)(h:a.length<=1073741824:=by omega):eP a=some a:=by simp_all[eP,gk,aP]
theorem uq (a:cy)(h:a.length<=1073741824:=by omega):fO a=some a:=by grind[fO,aP]
def Ii (x:Bytes)(o:Nat)(t:Bytes):Bytes:=x.take o++(t++x.drop (o+t.length))
theorem abz (h:o+t.length<=x.length):(Ii x o t).length=x.length:=by grind[Ii]
theorem abC (x:Bytes)(o:Nat)(t:Bytes):aK (DJ (dg x) o (dg t))=Ii x o t:=by
 have e:DJ (dg x) o (dg t)=dg (Ii x o t):=by grind[DJ,Ii,dg,List.map_take,List.map_drop]
 rw[e,Nw]
theorem aer (h:o+t.length<=x.length):wz x (o:Int) t=Ii x o t:=by grind[wz,fu,Ii]
def B4:Nat->cy->Nat->Bytes->cy
 |0,m,_,_=>m
 |n+1,m,a,s=>if s.length=0 then m else
  B4 n (m.set (a/128) (Ii (m.getD (a/128) []) (a%128) (s.take (128-a%128)))) (a+min (128-a%128) s.length) (s.drop (128-a%128))
def ES (m:cy):Prop:=(∀x∈m,x.length=128)/\m.length<=64
theorem Hs:gJ m=true↔ES m:=mem_iff
theorem Lu {p:Nat}(h:ES m)(hx:x.length=128):ES (m.set p x):=by refine⟨λy hy=>?_,by rw[bg];exact h.2⟩;rcases List.mem_or_eq_of_mem_set hy with g|g;exact h.1 y g;rw[g];exact hx
theorem Jl (h:ES m)(hs:s.length≠0)(ha:a+s.length<=128*m.length): ∃(hp:a/128<m.length),(m[a/128]'hp).length=128/\(Ii (m[a/128]'hp) (a%128) (s.take (128-a%128))).length=128:=by
 have hp:a/128<m.length:=by omega
 have hl:=h.1 _ (aN hp);grind[abz]
theorem Fi:∀(n:Nat){m:cy}{a:Nat}{s:Bytes},ES m->a+s.length<=128*m.length->ES (B4 n m a s)/\(B4 n m a s).length=m.length
 |0,m,a,s,h,_=>⟨h,rfl⟩
 |n+1,m,a,s,h,ha=>by rw[B4];split;exact⟨h,rfl⟩;rename_i hs;obtain⟨hp,hl,ho⟩:=Jl h hs ha;rw[eu hp];have:=Fi n (m:=m.set (a/128) (Ii m[a/128] (a%128) (s.take (128-a%128)))) (a:=a+min (128-a%128) s.length) (s:=s.drop (128-a%128)) (Lu h ho) (by rw[bg,bl];omega);rw[bg]at this;exact this
theorem Ib (K:Int->Bytes->cy->ar R)(K':cy->ar R)(hK:∀a m,K a [] m=K' m):∀(n:Nat)(m:cy)(a:Nat)(s:Bytes)(f:Nat),s.length<=n->n<f->ES m->a+s.length<=128*m.length->
 aJ (mC K ([]:cy)) f ((a:Int),s,m)=K' (B4 n m a s)
 |n,m,a,s,0,_,hf,_,_=>by omega
 |n,m,a,s,f+1,hs,hf,hm,ha=>by
  rw[aJ];simp only[mC];by_cases h0:s.length=0;have:s=[]:=cw h0;subst this;rw[al (by simp),ae,hK];cases n<;>simp[B4];cases n with
  |zero=>omega
  |succ n=>
   obtain⟨hp,hl,ho⟩:=Jl hm h0 ha;have h64:=hm.2;have e1:tdiv (a:Int) 128=((a/128:Nat):Int):=aab a 128;have e2:tmod (a:Int) 128=((a%128:Nat):Int):=Wf a 128;rw[jh,af,mL,e1,e2,ai (n:=((a/128:Nat):Int)) (by omega) (by omega),aY hp,ab,aP (by omega),mL];have pa:sub (dg m[a/128]) ((a%128:Nat):Int) ((dg m[a/128]).length:Int)=some ((dg m[a/128]).drop (a%128)):=by rw[Tx _ _ _ (by rw[J7];omega) (bc _),bI (by rw[bl];exact bc _)]
   rw[pa,ab,mL,ab,ab];have hd:((dg m[a/128]).drop (a%128)).length=128-a%128:=by rw[bl,J7,hl]
   rw[hd];have hdr:s.drop (min (128-a%128) s.length)=s.drop (128-a%128):=by by_cases h3:128-a%128<=s.length;rw[iE h3];rw[Nat.min_eq_right (by omega),cP (bc _),cP (by omega)]
   have aiy:sub s (((min (128-a%128) s.length:Nat)):Int) ((s.length:Int))=some (s.drop (128-a%128)):=by rw[<-hdr];unfold sub;rw[zip];simp
   rw[aiy,ab,ai (n:=(a:Int)+((min (128-a%128) s.length:Nat):Int)) (by omega) (by omega),aA,aA,abC];rw[B4,aG h0,eu hp,show(a:Int)+((min (128-a%128) s.length:Nat):Int)=((a+min (128-a%128) s.length:Nat):Int) by omega];exact Ib K K' hK n _ _ _ f (by rw[bl];omega) (by omega) (Lu hm ho) (by rw[bg,bl];omega)
theorem Ir (K:Int->Bytes->cy->ar R)(K':cy->ar R)(hK:∀a m,K a [] m=K' m):∀(n:Nat)(m:cy)(a:Nat)(s:Bytes)(f:Nat),s.length<=n->n<f->ES m->a+s.length<=128*m.length->
 aJ (mK K ([]:cy)) f ((a:Int),s,m)=K' (B4 n m a s)
 |n,m,a,s,0,_,hf,_,_=>by omega
 |n,m,a,s,f+1,hs,hf,hm,ha=>by
  rw[aJ];simp only[mK];by_cases h0:s.length=0;have:s=[]:=cw h0;subst this;rw[al (by simp),ae,hK];cases n<;>simp[B4];cases n with
  |zero=>omega
  |succ n=>
   obtain⟨hp,hl,ho⟩:=Jl hm h0 ha;have h64:=hm.2;have e1:tdiv (a:Int) 128=((a/128:Nat):Int):=aab a 128;have e2:tmod (a:Int) 128=((a%128:Nat):Int):=Wf a 128;rw[jh,af,mL,mL,mL,e1,e2,ai (n:=((a/128:Nat):Int)) (by omega) (by omega),ai (n:=128-((a%128:Nat):Int)) (by omega) (by omega),aY hp,ab];obtain⟨c,hc⟩:∃c,min (128-a%128) s.length=c:=⟨_,rfl⟩
   rw[show(if 128-((a%128:Nat):Int)<(s.length:Int) then 128-((a%128:Nat):Int) else(s.length:Int))=(c:Int) by split<;>omega];have ht:s.take c=s.take (128-a%128):=by by_cases h3:128-a%128<=s.length;rw[<-hc,iE h3];rw[<-hc,Nat.min_eq_right (by omega),bI (bc _),bI (by omega)]
   have hdr:s.drop c=s.drop (128-a%128):=by by_cases h3:128-a%128<=s.length;rw[<-hc,iE h3];rw[<-hc,Nat.min_eq_right (by omega),cP (bc _),cP (by omega)]
   have hs1:sub s 0 (c:Int)=some (s.take (128-a%128)):=by rw[<-ht];unfold sub;rw[zip];simp
   have hs2:sub s (c:Int) (s.length:Int)=some (s.drop (128-a%128)):=by rw[<-hdr];unfold sub;rw[zip];simp
   rw[hs1,ab,E5 _ _ _ (by omega),ab,ab,ab,hs2,ab,aer (by rw[bm,hl];omega),ai (n:=(a:Int)+(c:Int)) (by omega) (by omega),aA];rw[B4,aG h0,eu hp,hc,show(a:Int)+(c:Int)=((a+c:Nat):Int) by omega];exact Ir K K' hK n _ _ _ f (by rw[bl];omega) (by omega) (Lu hm ho) (by rw[bg,bl];omega)
def xc (m:cy)(a:Int)(s:Bytes):cy×Bool:=bif gr m a (s.length:Int) then(B4 s.length m a.toNat s,true) else(m,false)
theorem XS (m:cy)(a:Int)(s:Bytes)(h:m.length<=10^9)(hs:s.length<=10^9):rq m a s=some (xc m a s):=by have Fq:=dX;unfold rq xc;rw[oK m,ab,Gv m _ _ h,ab];cases hw:gr m a (s.length:Int);rfl;simp only[gr,ah,bE]at hw;obtain⟨a,rfl⟩:=aF hw.2.2.1;simp only[aj,ae,af,aA];exact Ib _ (λm=>some (m,true)) (λ_ _=>rfl) s.length m a s fuel (bc _) (by omega) (Hs.1 hw.1) (by omega)
theorem YH (m:cy)(a:Int)(s:Bytes)(h:m.length<=10^9)(hs:s.length<=10^9):sk m a s=some (xc m a s):=by have Fq:=dX;unfold sk xc;rw[uq m,ab,GP m _ _ h,ab];cases hw:gr m a (s.length:Int);rfl;simp only[gr,ah,bE]at hw;obtain⟨a,rfl⟩:=aF hw.2.2.1;simp only[aj,ae,af,aA];exact Ir _ (λm=>some (m,true)) (λ_ _=>rfl) s.length m a s fuel (bc _) (by omega) (Hs.1 hw.1) (by omega)
theorem G1 (m:cy)(a:Int)(s:Bytes):(xc m a s).1.length=m.length:=by grind[xc,gr,Fi,Hs]
def S8:aq (Int×Int)->cy->Bytes->cy
 |[],m,_=>m
 |p::q,m,s=>S8 q (xc m p.1 (s.take p.2.toNat)).1 (s.drop p.2.toNat)
theorem VD:∀(q:aq (Int×Int))(m:cy)(s:Bytes),(S8 q m s).length=m.length
 |[],m,s=>rfl
 |p::q,m,s=>by rw[S8,VD q,G1]
def Qp (q:aq (Int×Int)):Int:=(q.map (·.2)).sum
theorem Z7:∀(q:aq (Int×Int)),(∀p∈q,0<=p.2)->0<=Qp q
 |[],_=>Int.le_refl _
 |p::q,h=>by have:=Z7 q (λx hx=>h x (by simp[hx]));grind[Qp]
theorem VI {p:Int×Int}{q:aq (Int×Int)}(hc:∀x∈p::q,0<=x.2)(hs:(s.length:Int)=Qp (p::q)):0<=p.2/\p.2<=(s.length:Int)/\((s.drop p.2.toNat).length:Int)=Qp q:=by have h1:=hc p (by simp);have h2:=Z7 q (λx hx=>hc x (by simp[hx]));grind[Qp]
theorem RQ {c:Int}(h0:0<=c)(h1:c<=(s.length:Int)):sub s 0 c=some (s.take c.toNat):=by grind[sub]
theorem V7 {c:Int}(h0:0<=c)(h1:c<=(s.length:Int)):sub s c (s.length:Int)=some (s.drop c.toNat):=by simp_all[sub]
theorem L7 (K:Bytes->Int->cy->ar (cy×Bool))(hK:∀s i m,K s i m=some (m,true)):∀(rest pre:aq (Int×Int))(m:cy)(s:Bytes)(f:Nat),rest.length<f->pre.length+rest.length<=1000000->(∀x∈rest,0<=x.2)->(s.length:Int)=Qp rest->m.length<=10^9->s.length<=1000000->
 aJ (yM K (pre++rest) ((pre++rest).length:Int) ([]:cy)) f (s,(pre.length:Int),m)=some (S8 rest m s,true)
 |rest,pre,m,s,0,hf,_,_,_,_,_=>by omega
 |[],pre,m,s,f+1,_,_,_,_,_,_=>by rw[aJ];simp only[yM];rw[al (by simp),ae,hK];rfl
 |p::q,pre,m,s,f+1,hf,hn,hc,hs,hm,hl=>by
  obtain⟨h1,h2,h3⟩:=VI hc hs;simp only[cf]at hf hn;have hi:pre.length<(pre++p::q).length:=by simp
  have hp:(pre++p::q)[pre.length]=p:=by simp
  rw[aJ];simp only[yM];rw[aw (by simp;omega),aY hi,hp,ai (by omega) (by omega)];simp only[af,ab,RQ h1 h2,V7 h1 h2,XS m _ _ hm (show(s.take p.2.toNat).length<=10^9 by rw[bm];omega)];have key:=L7 K hK q (pre++[p]) (xc m p.1 (s.take p.2.toNat)).1 (s.drop p.2.toNat) f (by omega) (by simp;omega) (λx hx=>hc x (by simp[hx])) h3 (by rw[G1];exact hm) (by rw[bl];omega);grind[S8]
theorem Mk (K:Bytes->Int->cy->ar (cy×Bool))(hK:∀s i m,K s i m=some (m,true)):∀(rest pre:aq (Int×Int))(m:cy)(s:Bytes)(f:Nat),rest.length<f->pre.length+rest.length<=1000000->(∀x∈rest,0<=x.2)->(s.length:Int)=Qp rest->m.length<=10^9->s.length<=1000000->
 aJ (nt K ((pre++rest).map (·.1)) ((pre++rest).map (·.2)) ([]:cy)) f (s,(pre.length:Int),m)=some (S8 rest m s,true)
 |rest,pre,m,s,0,hf,_,_,_,_,_=>by omega
 |[],pre,m,s,f+1,_,_,_,_,_,_=>by rw[aJ];simp only[nt];rw[al (by simp),ae,hK];rfl
 |p::q,pre,m,s,f+1,hf,hn,hc,hs,hm,hl=>by
  obtain⟨h1,h2,h3⟩:=VI hc hs;simp only[cf]at hf hn;have hi:pre.length<(pre++p::q).length:=by simp
  have hp:(pre++p::q)[pre.length]=p:=by simp
  have i1:idx ((pre++p::q).map (·.1)) (pre.length:Int)=some p.1:=by grind[aY]
  have i2:idx ((pre++p::q).map (·.2)) (pre.length:Int)=some p.2:=by grind[aY]
  rw[aJ];simp only[nt];rw[aw (by simp;omega),i1,i2,ai (by omega) (by omega)];simp only[af,ab,RQ h1 h2,V7 h1 h2,YH m _ _ hm (show(s.take p.2.toNat).length<=10^9 by rw[bm];omega)];have key:=Mk K hK q (pre++[p]) (xc m p.1 (s.take p.2.toNat)).1 (s.drop p.2.toNat) f (by omega) (by simp;omega) (λx hx=>hc x (by simp[hx])) h3 (by rw[G1];exact hm) (by rw[bl];omega);grind[S8]
theorem OM (l:aq aL)(m:cy)(d:Int)(w:Bool):∀(n a r:Nat)(q:aq (Int×Int)),r<=n->nT l m d w n a r=some q->Qp q=(r:Int)/\(∀p∈q,0<=p.2)/\q.length<=n
 |0,a,r,q,hr,h=>by simp only[nT,aZ]at h;subst h;exact⟨by show(0:Int)=_;omega,by simp,by simp⟩
 |n+1,a,r,q,hr,h=>by simp only[nT]at h;split at h;simp only[aZ]at h;subst h;exact⟨by show(0:Int)=_;omega,by simp,by simp⟩;split at h;simp only[Option.map_eq_some_iff]at h;obtain⟨q',h1,rfl⟩:=h;obtain⟨i1,i2,i3⟩:=OM l m d w n _ _ q' (by omega) h1;refine⟨?_,?_,by simp only[cf];omega⟩;simp only[Qp,dC,List.sum_cons]at i1⊢;rw[i1];omega;intro p hp;rcases bU.1 hp with rfl|hp;show(0:Int)<=((min (128-a%128) r:Nat):Int);omega;exact i2 p hp;cases h
theorem Ru (l:aq aL)(m:cy)(d a n:Int)(w:Bool)(h:(su l m d a n w).2=true):Qp (su l m d a n w).1=n/\(∀p∈(su l m d a n w).1,0<=p.2)/\(su l m d a n w).1.length<=4096/\n<=4096:=by
 unfold su at h⊢;cases hB:gn l&&(gJ m&&dz n 0 4096)with|false=>grind|true=>?_
 rw[hB]at h;simp only[ah,bW]at hB;simp only[af]at h⊢;cases h0:n==0 with
 |true=>
  have:n=0:=by simpa using h0
  subst this;exact⟨rfl,by simp,by simp,by omega⟩
 |false=>rw[h0]at h;simp only[ae]at h⊢;cases ha:decide (a<0)with|true=>grind|false=>rw[ha]at h;simp only[ae]at h⊢;cases hq:nT l m d w n.toNat a.toNat n.toNat with|none=>grind|some q=>obtain⟨i1,i2,i3⟩:=OM l m d w _ _ _ q (bc _) hq;grind
def B8 (l:aq aL)(m:cy)(d a:Int)(s:Bytes)(w:Bool):cy×Bool:=
 bif (su l m d a (s.length:Int) w).2 then(S8 (su l m d a (s.length:Int) w).1 m s,true) else(m,false)
theorem DM (l:aq aL)(m:cy)(d a:Int)(s:Bytes)(w:Bool):(B8 l m d a s w).1.length=m.length:=by grind[B8,VD]
theorem adO (l:aq aL)(m:cy)(d a:Int)(s:Bytes)(w:Bool)(hl:l.length<=10^9)(hm:m.length<=10^9)(ha:a<=9223372036854775807):J3 l m d a s w=some (B8 l m d a s w):=by have Fq:=dX;unfold J3 B8;rw[oK m,ab,U6 l m d a _ w hl hm ha,ab];have hS:=Ru l m d a (s.length:Int) w;generalize su l m d a (s.length:Int) w=r at hS⊢;cases hr:r.2;rfl;obtain⟨h1,h2,h3,h4⟩:=hS hr;simp only[aj,ae,af];exact L7 _ (λ_ _ _=>rfl) r.1 [] m s fuel (by omega) (by simp;omega) h2 h1.symm hm (by omega)
theorem Ku (l:aq aL)(m:cy)(d a:Int)(s:Bytes)(hl:l.length<=10^9)(hm:m.length<=10^9)(ha:a<=9223372036854775807):tp l m d a s=some (B8 l m d a s true):=by have Fq:=dX;unfold tp B8;rw[RH l m d a _ true hl hm ha,ab,uq m,ab];have hS:=Ru l m d a (s.length:Int) true;generalize su l m d a (s.length:Int) true=r at hS⊢;cases hr:r.2;rfl;obtain⟨h1,h2,h3,h4⟩:=hS hr;simp only[aj,ae,af];exact Mk _ (λ_ _ _=>rfl) r.1 [] m s fuel (by omega) (by simp;omega) h2 h1.symm hm (by omega)
theorem JS (l:aq aL)(m:cy)(d a:Int)(s:Bytes)(hl:l.length<=10^9)(hm:m.length<=10^9)(ha:a<=9223372036854775807):sK l m d a s=some (B8 l m d a s true):=by simp_all[sK,adO]
def uy (d:Da):Bool:=dz d.1 0 3&&(dz d.2.1 0 3&&(dz d.2.2.1 0 65535&&(dz d.2.2.2.2.1 0 65535&&(dz d.2.2.2.2.2 0 65535&&dz d.2.2.2.1 0 4294967295))))
theorem U1 (d:Da):yI d=some (uy d):=by simp only[yI,cQ,ab,uy];cases dz d.1 0 3<;>cases dz d.2.1 0 3<;>cases dz d.2.2.1 0 65535<;>cases dz d.2.2.2.2.1 0 65535<;>cases dz d.2.2.2.2.2 0 65535<;>rfl
theorem Kt (d:Da):qK d=some (uy d):=by simp only[qK,cx,ab,uy];cases dz d.1 0 3<;>cases dz d.2.1 0 3<;>cases dz d.2.2.1 0 65535<;>cases dz d.2.2.2.2.1 0 65535<;>cases dz d.2.2.2.2.2 0 65535<;>rfl
def Uf (d:Da):Bytes:=
 bif uy d then((((aK [fV d.1,fV d.2.1]++bQ d.2.2.1)++fP d.2.2.2.1)++bQ d.2.2.2.2.1)++bQ d.2.2.2.2.2)++fP 0 else []
theorem af4 (d:Da):tS d=some (Uf d):=by have h1:=bz d.2.2.1;have h2:=de d.2.2.2.1;have h3:=bz d.2.2.2.2.1;have h4:=bz d.2.2.2.2.2;have h5:=de 0;have h0:(aK [fV d.1,fV d.2.1]).length=2:=rfl;unfold tS Uf;rw[Kt,ab];cases uy d;all_goals simp(disch:=omega)[il,jF,aP]
theorem afJ (d:Da):tG d=some (Uf d):=by have h1:=bz d.2.2.1;have h2:=de d.2.2.2.1;have h3:=bz d.2.2.2.2.1;have h4:=bz d.2.2.2.2.2;have h5:=de 0;have h0:(aK [fV d.1,fV d.2.1]).length=2:=rfl;unfold tG Uf;rw[U1,ab];cases uy d;all_goals simp(disch:=omega)[lV,uo,aP]
def FQ (r:xB)(c:Int):Int:=bif !gx r||decide (c<0) then-1 else r.1+tmod c r.2.1*16
theorem CK {r:xB}(h:gx r=true):0<=r.1/\r.1<=130944/\(r.2.1=2\/r.2.1=4\/r.2.1=8\/r.2.1=16)/\0<=r.2.2.1/\r.2.2.1<=2*r.2.1-1/\0<=r.2.2.2/\r.2.2.2<=2*r.2.1-1:=by grind[gx,bW,mc]
theorem Ko (r:xB)(c:Int): -1<=FQ r c/\FQ r c<=200000:=by unfold FQ;cases hc: !gx r||decide (c<0)with|true=>grind|false=>simp only[dR,eY,fi]at hc;have h:=CK hc.1;grind
theorem abL {d a:Int}{w:Bool}(h:(B8 l m d a s w).2=false):(B8 l m d a s w).1=m:=by grind[B8]
theorem ab2 (r:xB)(c:Int):rZ r c=some (FQ r c):=by
 have uQ:=Ko r c;unfold rZ;rw[DV,ab];unfold FQ at uQ⊢;cases hb:gx r;rfl;have h:=CK hb;by_cases hc:c<0;rw[aw hc];rfl;rw[hb,al hc]at uQ;rw[al hc];have h2:0<=tmod c r.2.1/\tmod c r.2.1<r.2.1:=by rw[fw (by omega)];exact⟨Int.emod_nonneg _ (by omega),fI _ (by omega)⟩
 simp only[aj,ae,ab,cD]at uQ⊢;rw[mL,ai (n:=16*tmod c r.2.1) (by omega) (by omega),ai (by omega) (by omega)];congr 1;omega
theorem aa0 (r:xB)(c:Int):ri r c=some (FQ r c):=by
 have uQ:=Ko r c;unfold ri;rw[Dw,ab];unfold FQ at uQ⊢;cases hb:gx r;rfl;have h:=CK hb;by_cases hc:c<0;rw[aw hc];rfl;rw[hb,al hc]at uQ;rw[al hc];have h2:0<=tmod c r.2.1/\tmod c r.2.1<r.2.1:=by rw[fw (by omega)];exact⟨Int.emod_nonneg _ (by omega),fI _ (by omega)⟩
 simp only[aj,ae,ab,cD]at uQ⊢;rw[mL,ai (n:=tmod c r.2.1*16) (by omega) (by omega),ai (by omega) (by omega)]
theorem OL (l:aq aL)(m:cy)(d:Int)(w:Bool):∀(n a r:Nat)(q:aq (Int×Int)),nT l m d w n a r=some q->q.length<=n
 |0,a,r,q,h=>by simp only[nT,aZ]at h;subst h;simp
 |n+1,a,r,q,h=>by simp only[nT]at h;split at h;simp only[aZ]at h;subst h;simp;split at h;simp only[Option.map_eq_some_iff]at h;obtain⟨q',h1,rfl⟩:=h;have:=OL l m d w n _ _ q' h1;simp only[cf];omega;cases h
theorem Hv (l:aq aL)(m:cy)(d a n:Int)(w:Bool):(su l m d a n w).1.length<=4096:=by
 unfold su;cases hB:gn l&&(gJ m&&dz n 0 4096);simp;simp only[ah,bW]at hB;simp only[af];cases n==0;case true=>simp
 cases decide (a<0);case true=>simp
 simp only[ae];split;rename_i q hq;have:=OL _ _ _ _ _ _ _ _ hq;show q.length<=4096;omega;simp
def oT (m:cy)(p:Int×Int):Bytes:=bif gr m p.1 p.2 then zW m p.1.toNat p.2.toNat else []
theorem C1 (m:cy)(p:Int×Int):(oT m p).length<=8192:=by grind[oT,gr,aew,mem_iff]
theorem qI (m:cy):∀q:aq (Int×Int),(q.flatMap (oT m)).length<=8192*q.length
 |[]=>by simp
 |p::q=>by have:=qI m q;grind[C1]
def Dg (l:aq aL)(m:cy)(d a n:Int):Bytes×Bool:=
 bif (su l m d a n false).2 then((su l m d a n false).1.flatMap (oT m),true) else([],false)
theorem JC {β:Type}(g:α->aq β)(l:aq α)(i:Nat)(hi:i<l.length):(l.take (i+1)).flatMap g=(l.take i).flatMap g++g l[i]:=by grind[aU]
theorem L6 (l:aq aL)(m:cy)(d a n:Int)(hl:l.length<=10^9)(hm:m.length<=10^9)(ha:a<=9223372036854775807):vh l m d a n=some (Dg l m d a n):=by
 unfold vh Dg;rw[U6 l m d a n false hl hm ha,ab];have hL:=Hv l m d a n false;generalize su l m d a n false=r at hL⊢;cases hr:r.2;rfl;simp only[aj,ae,af];refine(dc (λi=>((r.1.take i).flatMap (oT m),(i:Int))) r.1.length (by omega) (λi nx hi=>?_) (λnx=>?_));simp only[tF];rw[jh,aY hi,ai (by omega) (by omega)];have e:ou m r.1[i].1 r.1[i].2=some (oT m r.1[i],gr m r.1[i].1 r.1[i].2):=by rw[adP m _ _ hm,oT];cases gr m r.1[i].1 r.1[i].2<;>rfl
 have h1:=qI m (r.1.take i);have h2:=C1 m r.1[i];simp only[af,ab,e];rw[aP (by rw[bm]at h1;omega),<-JC];rfl;simp only[tF];rw[gZ,ch];rfl
theorem Mj (l:aq aL)(m:cy)(d a n:Int)(hl:l.length<=10^9)(hm:m.length<=10^9)(ha:a<=9223372036854775807):wE l m d a n=some (Dg l m d a n):=by
 unfold wE Dg;rw[RH l m d a n false hl hm ha,ab];have hL:=Hv l m d a n false;generalize su l m d a n false=r at hL⊢;cases hr:r.2;rfl;simp only[aj,ae,af];refine(dc (λi=>((r.1.take i).flatMap (oT m),(i:Int))) r.1.length (by omega) (λi nx hi=>?_) (λnx=>?_));simp only[tR];have i1:idx (r.1.map (·.1)) (i:Int)=some r.1[i].1:=by rw[aY (by simpa using hi),List.getElem_map]
 have i2:idx (r.1.map (·.2)) (i:Int)=some r.1[i].2:=by rw[aY (by simpa using hi),List.getElem_map]
 rw[aw (by rw[cn];omega),i1,i2,ai (by omega) (by omega)];have e:oE m r.1[i].1 r.1[i].2=some (oT m r.1[i],gr m r.1[i].1 r.1[i].2):=by rw[aeS m _ _ hm,oT];cases gr m r.1[i].1 r.1[i].2<;>rfl
 have h1:=qI m (r.1.take i);have h2:=C1 m r.1[i];simp only[af,ab,e];rw[aP (by rw[bm]at h1;omega),<-JC];rfl;simp only[tR];rw[al (by rw[cn];omega),ch];rfl
theorem acE (l:aq aL)(m:cy)(d a n:Int):(Dg l m d a n).1.length<=100000000:=by have hL:=Hv l m d a n false;have h1:=qI m (su l m d a n false).1;grind[Dg]
def I4 (q:Mw):Int:=bif decide (q.2.2<q.2.1) then 1 else 0
theorem aaX (q:Mw):Am q=some (I4 q):=by grind[Am,I4]
theorem tj {q:Mw}(h:iw q=true):0<=q.1/\q.1<=130944/\(q.2.1=2\/q.2.1=4\/q.2.1=8\/q.2.1=16)/\0<=q.2.2/\q.2.2<=2*q.2.1-1:=by grind[iw,bW,Hx,mc]
theorem abZ (q:Mw)(h:iw q=true):yz q=some (I4 q):=by
 obtain⟨_,_,h3,h4,h5⟩:=tj h;have e:tdiv q.2.2 q.2.1=if q.2.2<q.2.1 then 0 else 1:=by grind
 unfold yz I4;rw[mL,e];by_cases hq:q.2.2<q.2.1;rw[aH hq,aw hq];rfl;rw[aG hq,al hq];rfl
def GK (q:Mw):Int:=q.1+tmod q.2.2 q.2.1*16
theorem ZY {q:Mw}(h:iw q=true):0<=tmod q.2.2 q.2.1/\tmod q.2.2 q.2.1<16:=by obtain⟨_,_,h3,h4,h5⟩:=tj h;grind
theorem aa1 (q:Mw)(h:iw q=true):rE q=some (GK q):=by obtain⟨h1,h2,h3,h4,h5⟩:=tj h;grind[rE,GK,ai]
def Nq (s:Bytes)(i:Nat):Nat:=bA s (i/8)/2^(7-i%8)%2
theorem Jp (s:Bytes)(i:Nat):Nq s i<2:=Nat.mod_lt _ (by omega)
theorem T0 (b k:Nat)(hb:b<256)(hk:k<=7):ak (toNat (iD (ak (fdiv (b:Int) ((2^k:Nat):Int)))&&&iD 1))=((b/2^k%2:Nat):Int):=by have e:fdiv (b:Int) ((2^k:Nat):Int)=((b/2^k:Nat):Int):=(Int.ofNat_fdiv b (2^k)).symm;have h1:b/2^k<=b:=Nat.div_le_self _ _;rw[e,fE (n:=b/2^k) (by omega)];have:=agx (b/2^k) 1;grind[fE]
theorem Zw (s:Bytes)(i:Nat)(hi:i/8<s.length:=by omega)(h:s.length<=10^9:=by omega):yL s (i:Int)=some ((Nq s i:Nat):Int):=by
 have e1:tdiv (i:Int) 8=((i/8:Nat):Int):=(Int.ofNat_tdiv i 8).symm;have e2:tmod (i:Int) 8=((i%8:Nat):Int):=(Int.ofNat_tmod i 8).symm;unfold yL;rw[mL,e1,ai (n:=((i/8:Nat):Int)) (by omega) (by omega),aY hi,ab,mL,e2,ai (n:=7-((i%8:Nat):Int)) (by omega) (by omega),mL];have e3:(2:Int)^(min (Int.toNat (7-((i%8:Nat):Int))) (IntKind.bits .u8))=((2^(7-i%8):Nat):Int):=by grind[Int.toNat,IntKind.bits]
 grind[T0,jT,Nq,bA]
theorem ZZ (s:Bytes)(i:Nat)(hi:i/8<s.length:=by omega)(h:s.length<=10^9:=by omega):zk s (i:Int)=some ((Nq s i:Nat):Int):=by
 have e1:tdiv (i:Int) 8=((i/8:Nat):Int):=(Int.ofNat_tdiv i 8).symm;have e2:tmod (i:Int) 8=((i%8:Nat):Int):=(Int.ofNat_tmod i 8).symm;have hb:=jT s[i/8];unfold zk;rw[mL,e1,ai (n:=((i/8:Nat):Int)) (by omega) (by omega),aY hi,ab,mL,e2,ai (n:=7-((i%8:Nat):Int)) (by omega) (by omega),mL,fE (n:=s[i/8].toNat) (by omega)];have e3:(2:Int)^(min (Int.toNat (7-((i%8:Nat):Int))) (IntKind.bits .i64))=((2^(7-i%8):Nat):Int):=by grind[Int.toNat,IntKind.bits]
 have e4:fdiv ((s[i/8].toNat:Nat):Int) ((2^(7-i%8):Nat):Int)=((s[i/8].toNat/2^(7-i%8):Nat):Int):=(Int.ofNat_fdiv _ _).symm;have h1:s[i/8].toNat/2^(7-i%8)<=s[i/8].toNat:=Nat.div_le_self _ _;have key:=T0 s[i/8].toNat (7-i%8) hb (by omega);rw[e4,fE (n:=s[i/8].toNat/2^(7-i%8)) (by omega)]at key;simp_all[Nq,bA]
def Y2 (s:Bytes)(a:Nat):Nat->Nat
 |0=>0
 |j+1=>2*Y2 s a j+Nq s (a+j)
theorem afc (s:Bytes)(a:Nat):∀j,Y2 s a j<2^j
 |0=>by simp[Y2]
 |j+1=>by have:=afc s a j;grind[Jp,Y2]
theorem PA (s:Bytes)(a j:Nat)(hj:j<=32):Y2 s a j<4294967296:=gC (afc s a j) (Nat.pow_le_pow_right (n:=2) (by omega) hj)
def Wt (s:Bytes)(a:Int):Int:=bif ((s.length:Int) !=16)|| !dz a 0 96 then-1 else((Y2 s a.toNat 32:Nat):Int)
theorem afR (s:Bytes)(a:Int):vl s a=some (Wt s a):=by
 unfold vl Wt;rw[cQ];cases hs:(s.length:Int) !=16;case true=>rfl
 cases ha:dz a 0 96;rfl;have h1:=bW.1 ha;have h2:s.length=16:=by simp at hs;omega
 obtain⟨a,rfl⟩:=aF h1.1;simp only[ae,ab,aj,cD,aA];refine dc (λi=>(((Y2 s a i:Nat):Int),((a+i:Nat):Int))) 32 (by omega) (λi nx hi=>?_) (λnx=>?_);have hw:=PA s a i (by omega);have hb:=Jp s (a+i);simp only[pw];rw[ai (n:=(a:Int)+32) (by omega) (by omega),jh,af,mL,Zw s (a+i),ab,ai (n:=((a+i:Nat):Int)+1) (by omega) (by omega)];have e1:ak (((Y2 s a i:Nat):Int)*2^(qS 1))=((2^1*Y2 s a i:Nat):Int):=by have:(2:Int)^(qS 1)=2:=rfl;rw[this,ai (by omega) (by omega)];omega
 rw[e1,I2 _ _ _];rw[show(((a+i:Nat):Int)+1)=((a+(i+1):Nat):Int) by omega];rfl;simp only[pw];rw[ai (n:=(a:Int)+32) (by omega) (by omega),gZ];rfl
theorem af9 (s:Bytes)(a:Int):wI s a=some (Wt s a):=by
 unfold wI Wt;rw[cx];cases hs:(s.length:Int) !=16;case true=>rfl
 cases ha:dz a 0 96;rfl;have h1:=bW.1 ha;have h2:s.length=16:=by simp at hs;omega
 obtain⟨a,rfl⟩:=aF h1.1;simp only[ae,ab,aj,cD,aA];refine dc (λi=>(((Y2 s a i:Nat):Int),(i:Int))) 32 (by omega) (λi nx hi=>?_) (λnx=>?_);have hw:=PA s a i (by omega);have hb:=Jp s (a+i);simp only[pO];rw[jh,af,ai (n:=(a:Int)+(i:Int)) (by omega) (by omega),show(a:Int)+(i:Int)=((a+i:Nat):Int) by omega,ZZ s (a+i),ab,ai (n:=(i:Int)+1) (by omega) (by omega)];rw[ai (n:=2*((Y2 s a i:Nat):Int)) (by omega) (by omega),ai (by omega) (by omega),Y2];congr 1;simp only[pO];rw[gZ];rfl
def HZ (s v:Bytes):Nat->Nat
 |0=>0
 |i+1=>if Nq v i=1 then HZ s v i^^^Y2 s i 32 else HZ s v i
theorem N2 (s v:Bytes):∀i,HZ s v i<4294967296
 |0=>by simp[HZ]
 |i+1=>by have:=N2 s v i;grind[HZ,C7,PA]
def Cj (s v:Bytes):Int:=bif ((s.length:Int) !=16)||decide ((v.length:Int)>12) then-1 else((HZ s v (8*v.length):Nat):Int)
theorem adE (s v:Bytes):vi s v=some (Cj s v):=by
 unfold vi Cj;cases hs:(s.length:Int) !=16;case true=>rfl
 cases hv:decide ((v.length:Int)>12);case true=>rfl
 have h2:s.length=16:=by simp at hs;omega
 have h3:v.length<=12:=by simp at hv;omega
 simp only[ae,ab,cD];refine dc (λi=>(((HZ s v i:Nat):Int),(i:Int))) (8*v.length) (by omega) (λi nx hi=>?_) (λnx=>?_);have hw:=PA s i 32 (by omega);have hh:=N2 s v i;have hb:=Jp v i;have eW:Wt s (i:Int)=((Y2 s i 32:Nat):Int):=by unfold Wt;rw[hs,bW.2 (show(0:Int)<=(i:Int)/\(i:Int)<=96 by omega)];rfl
 simp only[pq];rw[ai (n:=8*(v.length:Int)) (by omega) (by omega),jh,af,Zw v i,ab,afR,ab,eW,aae _ _ (by omega) (by omega),ai (n:=(i:Int)+1) (by omega) (by omega),fE (Nat.lt_trans (C7 hh hw) (by omega)),HZ];by_cases h1:Nq v i=1;rw[h1,aH rfl];rfl;rw[aG h1,show(((Nq v i:Nat):Int)==1)=false from by simp;omega];rfl;simp only[pq];rw[ai (n:=8*(v.length:Int)) (by omega) (by omega),gZ];rfl
theorem aeI (s v:Bytes):wF s v=some (Cj s v):=by
 unfold wF Cj;cases hs:(s.length:Int) !=16;case true=>rfl
 cases hv:decide ((v.length:Int)>12);case true=>rfl
 have h2:s.length=16:=by simp at hs;omega
 have h3:v.length<=12:=by simp at hv;omega
 simp only[ae,ab,cD];refine dc (λi=>(((HZ s v i:Nat):Int),(i:Int))) (8*v.length) (by omega) (λi nx hi=>?_) (λnx=>?_);have hw:=PA s i 32 (by omega);have hh:=N2 s v i;have hb:=Jp v i;have eW:Wt s (i:Int)=((Y2 s i 32:Nat):Int):=by unfold Wt;rw[hs,bW.2 (show(0:Int)<=(i:Int)/\(i:Int)<=96 by omega)];rfl
 simp only[pM];rw[ai (n:=8*(v.length:Int)) (by omega) (by omega),jh,af,ZZ v i,ab,af9,ab,eW,aae _ _ (by omega) (by omega),ai (n:=(i:Int)+1) (by omega) (by omega),fE (Nat.lt_trans (C7 hh hw) (by omega)),HZ];by_cases h1:Nq v i=1;rw[h1,aH rfl];rfl;rw[aG h1,show(((Nq v i:Nat):Int)==1)=false from by simp;omega];rfl;simp only[pM];rw[ai (n:=8*(v.length:Int)) (by omega) (by omega),gZ];rfl
def zA (f:HV):Bytes:=((fP f.2.1++fP f.2.2.1)++bQ f.2.2.2.1)++bQ f.2.2.2.2
theorem XL (f:HV):vj f=some (zA f):=by have:=de f.2.1;have:=de f.2.2.1;have:=bz f.2.2.2.1;have:=bz f.2.2.2.2;simp only[vj,uo,lV,ab];rw[aP (by omega),aP (by grind),aP (by grind)];rfl
theorem YC (f:HV):wG f=some (zA f):=by have:=de f.2.1;have:=de f.2.2.1;have:=bz f.2.2.2.1;have:=bz f.2.2.2.2;simp only[wG,jF,il,ab];rw[aP (by omega),aP (by grind),aP (by grind)];rfl
theorem JU (s:Bytes)(f:HV):sL s f=some (Cj s (zA f)):=by grind[sL,XL,adE,ab]
theorem Kv (s:Bytes)(f:HV):tq s f=some (Cj s (zA f)):=by grind[tq,YC,aeI,ab]
def CR (s:iv)(f:HV):Int:=bif ((s.2.length:Int)==0)||decide (Cj s.1 (zA f)<0) then-1 else tmod (Cj s.1 (zA f)) (s.2.length:Int)
theorem aaQ (s:iv)(f:HV):Ah s f=some (CR s f):=by grind[Ah,CR,JU,ab]
theorem abU (s:iv)(f:HV):AB s f=some (CR s f):=by grind[AB,CR,Kv,ab]
theorem K1 (s:iv)(f:HV)(h:¬CR s f<0):∃n:Nat,CR s f=(n:Int)/\n<s.2.length:=by
 unfold CR at h⊢;cases hc:((s.2.length:Int)==0)||decide (Cj s.1 (zA f)<0)with
 |true=>grind
 |false=>
  rw[hc]at h;simp only[dR,cM,fi]at hc;simp only[ae]at h⊢;have h1:0<=Cj s.1 (zA f):=by omega
  rw[fw h1]at h⊢;have:=fI (Cj s.1 (zA f)) (show(0:Int)<s.2.length by omega);grind[aF]
def HE (s:iv)(q:Int)(f:HV):Int:=bif !AO s q||decide (CR s f<0) then-1 else s.2.getD (CR s f).toNat 0
theorem U8 (s:iv)(q:Int)(f:HV)(h:s.2.length<=10^9):rk s q f=some (HE s q f):=by unfold rk HE;grind[aaQ,ab,Ol,K1,of_decide_eq_false,aY]
theorem V1 (s:iv)(q:Int)(f:HV)(h:s.2.length<=10^9):se s q f=some (HE s q f):=by unfold se HE;grind[abU,ab,I9,K1,of_decide_eq_false,aY]
theorem RZ (t:aq Slot)(f:HV)(h:∀j,j<8->oH (fL t j) f=false):∀n k,walk t f n k= -1
 |0,_=>rfl
 |n+1,k=>by unfold walk;rw[h _ (KO f k),RZ t f h n (k+1)];split<;>rfl
theorem LU (f:HV):∀(t:aq Slot)(m:Int),(∀s∈t,oH s f=false)->zx f t m= -1
 |[],_,_=>rfl
 |s::r,m,h=>by unfold zx;rw[h s (by simp)];exact LU f r (m+1) (λx hx=>h x (by simp[hx]))
theorem Xq (t:aq Slot)(f:HV)(h:xb t=true):zx f t 0=walk t f 8 0:=by simp only[xb,ah,bk,ba,dm]at h;obtain⟨h8,hs⟩:=h;by_cases hex:∃j,j<t.length/\oH (fL t j) f=true;obtain⟨j,hj,hu,e⟩:=Ga f t 0 hex;have:=hs j (by omega);simp only[ns,ah,da,aQ,bk]at this;simp only[oH,ah,bk,bE]at hu;rcases this.2 with g|g;rw[hu.1]at g;simp at g;rw[hu.2]at g;rw[show((0:Int))=((0:Nat):Int) from rfl,e,g];omega;have hn:∀j,j<t.length->oH (fL t j) f=false:=λj hj=>Bool.eq_false_iff.2 λhu=>hex ⟨j,hj,hu⟩;rw[RZ t f (λj hj=>hn j (by omega)),LU];intro s tB;obtain⟨j,hj,rfl⟩:=List.getElem_of_mem tB;have:=hn j hj;rwa[xu hj]at this
def findF (t:aq Slot)(f:HV):Int:=bif xb t then walk t f 8 0 else-1
theorem SN (t:aq Slot)(f:HV)(h:t.length<=10^9):xL t f=some (findF t f):=by grind[xL,findF,Q8,ab,U7,Xq]
theorem Tn (t:aq Slot)(f:HV):yn t f=some (findF t f):=by grind[yn,findF,RL,ab,xb,VW]
theorem aac (t:aq Slot)(f:HV):∀n k,walk t f n k= -1\/∃m:Nat,walk t f n k=(m:Int)/\m<8
 |0,_=> .inl rfl
 |n+1,k=>by unfold walk;split;exact .inl rfl;split;exact .inr ⟨_,rfl,KO f k⟩;exact aac t f n (k+1)
theorem NO (t:aq Slot)(f:HV)(h:findF t f>=0):∃m:Nat,findF t f=(m:Int)/\m<t.length:=by
 unfold findF at h⊢;cases ht:xb t with
 |false=>grind
 |true=>
  rw[ht]at h;simp only[af]at h⊢;have h8:t.length=8:=by grind[xb]
  rcases aac t f 8 0 with g|⟨m,g,hm⟩;all_goals grind
def hasB (l:cG)(v:Int):Bool:=l.any (·==v)
theorem UD {l:cG}{v:Int}:hasB l v=true↔v∈l:=by grind[hasB]
theorem Hy (l:cG)(v:Int)(h:l.length<=10^9):iu l v=some (hasB l v):=by
 unfold iu hasB;rw[F1 (hit:=some true) (fin:=some false) (λx:Int=>x==v) l (by omega) (λi hi nx=>?hs) (λnx=>?hf)]
 case hs=>
  simp(disch:=omega)[wU,aw,aY,ai]
 all_goals grind[wU]
theorem Hl (l:cG)(v:Int)(h:l.length<=10^9):gB l v=some (hasB l v):=by
 unfold gB hasB;rw[F1 (hit:=some true) (fin:=some false) (λx:Int=>x==v) l (by omega) (λi hi nx=>?hs) (λnx=>?hf)]
 case hs=>
  simp(disch:=omega)[vy,aw,aY,ai]
 all_goals grind[vy]
def ins (v:Int):cG->cG
 |[]=>[v]
 |x::l=>bif decide (v<x) then v::x::l else x::ins v l
theorem ZC (v:Int):∀l,(ins v l).length=l.length+1
 |[]=>rfl
 |x::l=>by rw[ins];cases decide (v<x)with|true=>rfl|false=>simp only[ae,cf,ZC v l]
theorem ZL (v x:Int):∀l,x∈ins v l↔x=v\/x∈l
 |[]=>by simp[ins]
 |y::l=>by rw[ins];cases decide (v<y)with|true=>simp|false=>simp only[ae,bU,ZL v x l];grind
theorem adU (v:Int):∀l:cG,v∉l->l.take (l.findIdx (λx=> !decide (x<v)))++[v]++l.drop (l.findIdx (λx=> !decide (x<v)))=ins v l
 |[],_=>rfl
 |x::l,h=>by rw[ins,List.findIdx_cons];have hx:v≠x:=λe=>h (by simp[e]);have hl:v∉l:=λe=>h (by simp[e]);by_cases c:x<v;rw[aw c,al (show¬v<x by omega)];have:=adU v l hl;simpa using this;rw[al c,aw (show v<x by omega)];rfl
def zv (l:cG)(v:Int):cG:=bif hasB l v then l else ins v l
theorem Nl (l:cG)(v:Int):(zv l v).length<=l.length+1:=by unfold zv;cases hasB l v with|true=>simp|false=>simp only[ae,ZC];omega
theorem ad7 {l:cG}{v x:Int}(h:x∈l):x∈zv l v:=by unfold zv;cases hasB l v with|true=>exact h|false=>exact(ZL v x l).2 (.inr h)
theorem aah {l:cG}{v:Int}(h:v∈l):zv l v=l:=by grind[zv,UD]
theorem DZ:∀(vs l:cG),(vs.foldl zv l).length<=l.length+vs.length
 |[],l=>by simp
 |v::vs,l=>by have:=DZ vs (zv l v);grind[Nl]
theorem Lk:∀(vs:cG){l:cG}{x:Int},x∈l->x∈vs.foldl zv l
 |[],_,_,h=>h
 |v::vs,l,x,h=>Lk vs (l:=zv l v) (ad7 h)
theorem acZ (p:α->Bool)(k:Int->ar R)(l:aq α):(match l.findIdx? p with|some i=>k (i:Int)|none=>k (l.length:Int))=k (l.findIdx p:Int):=by grind
theorem V8 (l:aq α)(j:Nat)(h:j<=l.length):sub l 0 (j:Int)=some (l.take j):=by grind[sub]
theorem Pj (l:aq α)(j:Nat)(h:j<=l.length):sub l (j:Int) (l.length:Int)=some (l.drop j):=by simp_all[sub]
theorem RM (a vs:cG)(h:a.length+vs.length<=10^9):tw a vs=some (vs.foldl zv a):=by
 unfold tw;rw[aP (by grind)];rw[cp];have:=qJ (T:=nC (λ(xe:cG) (_:Int)=>some xe) vs) vs (λ(s:cG) i=>(s,(i:Int))) (λi s=>s.length<=a.length+i) (λv s=> .ok (zv s v)) (λs=>some s) (by omega) (λi hi s nx hI=>?hs) (λi hi s s' hI hg=>?hn) (λs nx hI=>?hf) a (by simp)
 case hs=>
  simp only[nC]
  rw[jh,aY hi,ai (n:=(i:Int)+1) (by omega) (by omega)]
  simp only[af,ab,Hy s vs[i] (by omega)]
  unfold zv
  cases hh:hasB s vs[i]with
  |true=>rfl
  |false=>
   have hm:vs[i]∉s:=λe=>by grind[UD]
   simp only[ae]
   rw[K3 (hit:=λy6=>aa (sub s 0 y6) λx7=>room (List.length ([]:cG)+List.length x7) (room (List.length (([]:cG)++x7)+List.length ([vs[i]])) (aa (sub s y6 (s.length:Int)) λx9=>room (List.length ((([]:cG)++x7)++([vs[i]]))+List.length x9) (nx (((([]:cG)++x7)++([vs[i]]))++x9,(i:Int)+1)))))
    (fin:=aa (sub s 0 (s.length:Int)) λx7=>room (List.length ([]:cG)+List.length x7) (room (List.length (([]:cG)++x7)+List.length ([vs[i]])) (aa (sub s (s.length:Int) (s.length:Int)) λx9=>room (List.length ((([]:cG)++x7)++([vs[i]]))+List.length x9) (nx (((([]:cG)++x7)++([vs[i]]))++x9,(i:Int)+1)))))
    (λx=> !decide (x<vs[i])) s (by omega) (λj hj nx'=>?hs2) (λnx'=>?D0)]
   case hs2=>
    grind[so,aY,ai,ab]
   case D0=>
    simp_all[so]
   refine Eq.trans (acZ (λx=> !decide (x<vs[i])) (λy6=>aa (sub s 0 y6) λx7=>room (List.length ([]:cG)+List.length x7) (room (List.length (([]:cG)++x7)+List.length ([vs[i]])) (aa (sub s y6 (s.length:Int)) λx9=>room (List.length ((([]:cG)++x7)++([vs[i]]))+List.length x9) (nx (((([]:cG)++x7)++([vs[i]]))++x9,(i:Int)+1))))) s) ?_
   have hle:s.findIdx (λx=> !decide (x<vs[i]))<=s.length:=List.findIdx_le_length
   have e:=adU vs[i] s hm
   generalize s.findIdx (λx=> !decide (x<vs[i]))=j at*
   grind[V8,Pj,ab,aP]
 all_goals grind[Nl,nC,EX]
theorem afH (l:cG)(v:Int)(h:l.length<=10^9):kU l v=some (ins v l):=by
 unfold kU
 have Zr:∀(l:cG)(acc:cG)(d:Bool),acc.length+l.length+(bif d then 0 else 1)<=1073741824->
  uA (λ(x:Int) (s:cG×Bool) (k:cG×Bool->ar cG)=>cond (cond (!s.2) (decide (v<x)) false) (room (List.length s.1+List.length ([v])) (room (List.length (s.1++([v]))+List.length ([x])) (k ((s.1++([v]))++([x]),true)))) (room (List.length s.1+List.length ([x])) (k (s.1++([x]),s.2))))
   (λs=>cond (!s.2) (room (List.length s.1+List.length ([v])) (some (s.1++([v])))) (some s.1)) l (acc,d)=some (acc++bif d then l else ins v l):=by
  intro l
  induction l with
  |nil=>
   intro acc d hl
   rw[uA]
   simp only[List.length_nil]at hl
   cases d with
   |true=>simp
   |false=>
    simp only[cL,af,ae]at hl⊢
    rw[aP (by simp;omega)];rfl
  |cons x l ih=>
   grind[uA,aP,ins]
 have Fq:=dX;have key:=xp (T:=kv (λ(y3:cG) (y4:Bool) (_:Int)=>cond (!y4) (room (List.length y3+List.length ([v])) (some (y3++([v])))) (some y3)) v l (l.length:Int)) l (λ(s:cG×Bool) i=>(s.1,s.2,(i:Int))) (λ(x:Int) (s:cG×Bool) (k:cG×Bool->ar cG)=>cond (cond (!s.2) (decide (v<x)) false) (room (List.length s.1+List.length ([v])) (room (List.length (s.1++([v]))+List.length ([x])) (k ((s.1++([v]))++([x]),true)))) (room (List.length s.1+List.length ([x])) (k (s.1++([x]),s.2)))) (λs=>cond (!s.2) (room (List.length s.1+List.length ([v])) (some (s.1++([v])))) (some s.1)) (λi hi s nx=>by grind[kv,aY,ai,ab]) (λs nx=>by grind[kv]) fuel 0 (([]:cG),false) (by omega) (by omega);grind
def mm:Port:=(0,[],0,false)
def M6 (p:Port):Bool:=tA (p.1,false,p.2.1)&&hasB p.2.1 p.2.2.1
def OR (l:aq Port)(i:Nat):Bool:=M6 (l.getD i mm)&&(range i).all (λj=> !((j !=0)&&((l.getD j mm).1==(l.getD i mm).1)))
def jD (l:aq Port):Bool:=dz (l.length:Int) 1 8&&(range l.length).all (OR l)
theorem Yq (i:Nat)(q:Nat->Bool):(range (i-1)).all (λj=> !(q (j+1)))=(range i).all (λj=> !((j !=0)&&q j)):=by
 rw[ez,ba,ba];simp only[dm];constructor;intro h j hj;cases j with|zero=>rfl|succ j=>have:=h j (by omega);simpa using this
 intro h j hj;have:=h (j+1) (by omega);simpa using this
theorem Hz (l:aq Port)(h:l.length<=10^9)(hv:∀p∈l,p.2.1.length<=10^9):lO l=some (jD l):=by
 unfold lO jD;rw[fQ (hit:=some false) (fin:=some true) (OR l) l.length (by omega) (λi nx hi=>?hs) (λnx=>?hf)]
 case hs=>
  have hvi:=hv _ (aN hi)
  simp only[tV]
  rw[jh,aY hi,ai (by omega) (by omega)]
  simp only[af,ab,E2 (l[i].1,false,l[i].2.1) hvi,Hy _ _ hvi]
  have e1:(1:Int)=(((0:Nat)+1:Nat):Int):=rfl
  rw[e1,G4 (hit:=some false) (fin:=nx ((i:Int)+1)) (λj=>((j+1:Nat):Int)) (λj=> !((l.getD (j+1) mm).1==l[i].1)) (i-1) (by omega) (λj nx' hj hp=>?hs2) (λhp nx'=>?D0)]
  case hs2=>
   have hjl:j+1<l.length:=by omega
   simp only[tW]
   rw[jh,aY hjl,aY hi,ai (by omega) (by omega)]
   simp_all
  case D0=>
   grind[tW]
  rw[Yq i (λj=>(l.getD j mm).1==l[i].1)]
  simp only[OR,M6,eu hi]
  grind
 all_goals grind[tV,cx,ab]
def Eg (p:Nat->Bool):dy->Int
 |[]=> -1
 |j::r=>bif p j then(j:Int) else Eg p r
theorem Uq (p:Nat->Bool):∀n s i,s<=i->i<s+n->p i=true->(Eg p (List.range' s n)==(i:Int))=(List.range' s (i-s)).all (λj=> !(p j))
 |0,s,i,h1,h2,_=>by omega
 |n+1,s,i,h1,h2,hp=>by
  rw[List.range'_succ,Eg];rcases bH s i with gM|Ad;obtain⟨k,hk⟩:∃k,i-s=k+1:=⟨i-s-1,by omega⟩
  rw[hk,List.range'_succ,bC];cases hps:p s with
  |true=>
   simp only[af,aj,fM];have:¬(s:Int)=(i:Int):=by omega
   simpa using this
  |false=>simp only[ae,cL,bp];rw[Uq p n (s+1) i (by omega) (by omega) hp,show i-(s+1)=k by omega]
  have:s=i:=by omega
  subst this;rw[hp,jw];simp
theorem OZ (p:Nat->Bool)(hit:Nat->ar R)(fin:ar R)(k:Int->ar R)(h1:∀j:Nat,hit j=k (j:Int))(h2:fin=k (-1)):∀l:dy,MK (λ(j:Nat) (s:Unit)=>bif p j then .error (hit j) else .ok ()) (λ_=>fin) l ()=k (Eg p l)
 |[]=>h2
 |j::l=>by rw[MK,Eg];cases p j with|true=>exact h1 j|false=>exact OZ p hit fin k h1 h2 l
theorem U9 (l:aq Port)(a:Int)(h:l.length<=10^9):sR l a=some (Eg (λj=>(j !=0)&&((l.getD j mm).1==a)) (List.range' 0 l.length)):=by
 unfold sR;have:=qJ (T:=mY (λ(_:Int)=>some (-1)) (λ(y4:Int) (_:Int)=>some y4) a 0 l (l.length:Int)) (List.range' 0 l.length) (λ(_:Unit) i=>(i:Int)) (λ_ _=>True) (λ(j:Nat) (s:Unit)=>bif (j !=0)&&((l.getD j mm).1==a) then .error (some (j:Int)) else .ok ()) (λ_=>some (-1)) (by simp;omega) (λi hi s nx _=>?hs) (λ_ _ _ _ _ _=>trivial) (λs nx _=>?hf) () trivial
 case hs=>
  grind[mY,aY,ai,ab]
 case hf=>
  grind[mY]
 rw[OZ (λj=>(j !=0)&&((l.getD j mm).1==a)) _ _ (λx=>some x) (λ_=>rfl) rfl]at this;exact this
theorem Hm (l:aq Port)(h:l.length<=10^9)(hv:∀p∈l,p.2.1.length<=10^9):lr l=some (jD l):=by
 unfold lr jD;rw[fQ (hit:=some false) (fin:=some true) (OR l) l.length (by omega) (λi nx hi=>?hs) (λnx=>?hf)]
 case hs=>
  have hvi:=hv _ (aN hi)
  simp only[tI]
  rw[jh,aY hi,ai (by omega) (by omega)]
  simp only[af,ab,CV,En (l[i].1,false,l[i].2.1) hvi,Hl _ _ hvi,U9 l _ h,bM,bne]
  have e2:((i:Int)==0)=(i==0):=by rw[ez];simp
  rw[e2]
  simp only[OR,M6,eu hi]
  cases h0:i==0 with
  |true=>
   grind
  |false=>
   have D2:(i !=0)=true:=by grind
   have fa:=Uq (λj=>(j !=0)&&((l.getD j mm).1==l[i].1)) l.length 0 i (by omega) (by omega) (by grind)
   grind[List.range_eq_range']
 all_goals grind[tI,cQ,ab]
def yX (m:bO):Bool:=tA m.1&&(dz m.2.1 0 1000000000000&&dz m.2.2.2 0 1000000000000)
theorem aeN (m:bO)(h:m.1.2.2.length<=10^9):wJ m=some (yX m):=by grind[wJ,E2,cx,ab,yX]
theorem adK (m:bO)(h:m.1.2.2.length<=10^9):vm m=some (yX m):=by grind[vm,En,cQ,ab,yX]
theorem DF {m:bO}(h:yX m=true):m.1.2.2.length<=8:=by grind[yX,tA]
def S7 (m:bO):Port:=(m.1.1,m.1.2.2.foldl zv [0],0,true)
def It (s:cG×aq Port)(m:bO):cG×aq Port:=(m.1.2.2.foldl zv s.1,s.2++[S7 m])
def EU (ms:aq bO):aq Port:=(0,(ms.foldl It ([0],[])).1,0,false)::(ms.foldl It ([0],[])).2
def hG (ms:aq bO):aq Port×Bool:=bif dz (ms.length:Int) 1 3&&(ms.all yX&&jD (EU ms)) then(EU ms,true) else([],false)
theorem OY (p:α->Bool)(f:σ->α->σ)(r:ar R)(fin:σ->ar R):∀(l:aq α)(s:σ),MK (λx s=>bif p x then .ok (f s x) else .error r) fin l s=bif l.all p then fin (l.foldl f s) else r
 |[],s=>rfl
 |x::l,s=>by rw[MK,bC,List.foldl_cons];cases p x with|false=>rfl|true=>simp only[af,bp];exact OY p f r fin l (f s x)
def TS (i:Nat)(s:cG×aq Port):Prop:=s.1.length<=1+9*i/\s.2.length=i/\∀p∈s.2,p.2.1.length<=9
theorem TS.port {i:Nat}{s:cG×aq Port}(h:TS i s){m:bO}(hm:yX m=true)(U:cG)(hU:U.length<=s.1.length+9:=by omega):TS (i+1) (U,s.2++[S7 m]):=by have hl:=DF hm;have:=DZ m.1.2.2 [0];refine⟨?_,?_,?_⟩;have:=h.1;simp only;omega;have:=h.2.1;simp;omega;intro p hp;rcases ay.1 hp with hp|hp;exact h.2.2 p hp;simp only[eE]at hp;subst hp;simp only[S7,bw]at this⊢;omega
theorem GF {i:Nat}{s:cG×aq Port}(h:TS i s)(hi:i<=3):((0,s.1,0,false)::s.2:aq Port).length<=10^9/\∀p∈((0,s.1,0,false)::s.2:aq Port),p.2.1.length<=10^9:=by have h1:=h.1;have h2:=h.2.1;refine⟨by grind,λp hp=>?_⟩;rcases bU.1 hp with rfl|hp;simp only;omega;have:=h.2.2 p hp;omega
theorem GM (ms:aq bO)(h:∀m∈ms,m.1.2.2.length<=10^9):rV ms=some (hG ms):=by
 unfold rV hG;simp only[cx,ab];cases hn:dz (ms.length:Int) 1 3 with
 |false=>rfl
 |true=>
  have Ae:=bW.1 hn;simp only[aj,ae,bp];have:=qJ (T:=oD (λ(CO:aq Port) (_:Int)=>aa (lO CO) λTP=>cond (!TP) (some (([]:aq Port),false)) (some (CO,true))) (λ(D4:aq Port) (MR:Bool) (_:aq Port) (_:Int)=>some (D4,MR)) ms ([]:aq Port) false) ms (λ(s:cG×aq Port) i=>((0,s.1,0,false)::s.2,(i:Int))) TS (λm s=>bif yX m then .ok (It s m) else .error (some (([]:aq Port),false))) (λs=>some (bif jD ((0,s.1,0,false)::s.2) then((0,s.1,0,false)::s.2,true) else([],false))) (by omega) (λi hi s nx hI=>?hs) (λi hi s s' hI hg=>?hn) (λs nx hI=>?hf) ([0],[]) ⟨by simp,rfl,by simp⟩
  case hs=>
   simp only[oD]
   have hm:=h _ (aN hi)
   rw[jh,aY hi,ai (n:=(i:Int)+1) (by omega) (by omega)]
   simp only[af,ab,aeN _ hm]
   cases KR:yX ms[i]with
   |false=>rfl
   |true=>
    have hl:=DF KR
    have hU:=hI.1
    have hP:=hI.2.1
    have e0:idx ((0,s.1,0,false)::s.2:aq Port) 0=some (0,s.1,0,false):=rfl
    simp only[aj,ae,af,e0,ab]
    rw[RM s.1 _ (by omega),RM [0] _ (by simp;omega)]
    simp only[ab]
    rw[aP (by simp;omega)]
    rfl
  case hn=>
   cases KR:yX ms[i]with
   |false=>grind
   |true=>
    rw[KR]at hg
    cases hg
    have:=DZ ms[i].1.2.2 s.1
    have:=DF KR
    exact hI.port KR _
  case hf=>
   grind[oD,GF,Hz,ab]
  rw[OY]at this;grind[EU]
def RP (s:cG×aq Port)(m:bO):cG×aq Port:=(([0]++m.1.2.2).foldl zv s.1,s.2++[S7 m])
theorem aeW {s:cG×aq Port}{m:bO}(h:(0:Int)∈s.1):RP s m=It s m:=by grind[RP,It,aah]
theorem Pf:∀(ms:aq bO)(s:cG×aq Port),(0:Int)∈s.1->ms.foldl RP s=ms.foldl It s
 |[],_,_=>rfl
 |m::ms,s,h=>by rw[List.foldl_cons,List.foldl_cons,aeW h];exact Pf ms _ (Lk _ h)
theorem V5 (ms:aq bO)(h:ms≠[]):ms.foldl RP ([],[])=ms.foldl It ([0],[]):=by cases ms with|nil=>exact absurd rfl h|cons m ms=>rw[List.foldl_cons,List.foldl_cons];have e:RP ([],[]) m=It ([0],[]) m:=rfl;rw[e];exact Pf ms _ (Lk _ (by simp))
theorem aaU (k0:cG->cG->Int->ar R)(k:cG->cG->ar R)(hk:∀a b i,k0 a b i=k a b)(v2:aq Port)(v3:Bool)(v4:aq Port)(v18:aq bO)(v19 v20:Int)(b7:bO)(vs all:cG)(h:all.length+vs.length<=10^9): aJ (kl k0 v2 v3 v4 v18 v19 v20 vs (vs.length:Int) b7) fuel (all,([]:cG),0)=k (vs.foldl zv all) (vs.foldl zv []):=by
 have:=qJ (T:=kl k0 v2 v3 v4 v18 v19 v20 vs (vs.length:Int) b7) vs (λ(s:cG×cG) i=>(s.1,s.2,(i:Int))) (λi s=>s.1.length<=all.length+i/\s.2.length<=i) (λv s=> .ok (zv s.1 v,zv s.2 v)) (λs=>k s.1 s.2) (by omega) (λi hi s nx hI=>?hs) (λi hi s s' hI hg=>?hn) (λs nx hI=>?hf) (all,[]) ⟨by simp,by simp⟩
 case hs=>
  simp only[kl]
  rw[jh,aY hi,ai (n:=(i:Int)+1) (by omega) (by omega)]
  grind[ab,Hl,afH,zv]
 case hn=>
  grind[Nl]
 case hf=>
  grind[kl]
 rw[EX]at this;refine Eq.trans this ?_;have e:∀(l:cG)(s:cG×cG),l.foldl (λs v=>(zv s.1 v,zv s.2 v)) s=(l.foldl zv s.1,l.foldl zv s.2):=by intro l;induction l with|nil=>intro s;rfl|cons x l ih=>grind
 rw[e]
theorem Gs (ms:aq bO)(h:∀m∈ms,m.1.2.2.length<=10^9):re ms=some (hG ms):=by
 unfold re hG;simp only[cQ,ab];cases hn:dz (ms.length:Int) 1 3 with
 |false=>rfl
 |true=>
  have Ae:=bW.1 hn;simp only[aj,ae,bp];have:=qJ (T:=ot (λ(AU:aq Port) (D4:cG) (_:Int)=>aa (idx AU 0) λx17=>aa (idx AU 0) λx18=>aa (lr (List.set AU (Int.toNat 0) (x18.1,D4,x18.2.2))) λr19=>cond (!r19) (some (([]:aq Port),false)) (some (List.set AU (Int.toNat 0) (x18.1,D4,x18.2.2),true))) (λ(y20:aq Port) (y21:Bool) (_:aq Port) (_:cG) (_:Int)=>some (y20,y21)) ([]:aq Port) false ms (ms.length:Int)) ms (λ(s:cG×aq Port) i=>((0,[],0,false)::s.2,s.1,(i:Int))) TS (λm s=>bif yX m then .ok (RP s m) else .error (some (([]:aq Port),false))) (λs=>some (bif jD ((0,s.1,0,false)::s.2) then((0,s.1,0,false)::s.2,true) else([],false))) (by omega) (λi hi s nx hI=>?hs) (λi hi s s' hI hg=>?hn) (λs nx hI=>?hf) ([],[]) ⟨by simp,rfl,by simp⟩
  case hs=>
   simp only[ot]
   have hm:=h _ (aN hi)
   rw[jh,aY hi,ai (n:=(i:Int)+1) (by omega) (by omega)]
   simp only[af,ab,adK _ hm]
   cases KR:yX ms[i]with
   |false=>rfl
   |true=>
    have hl:=DF KR
    have hU:=hI.1
    have hP:=hI.2.1
    simp only[aj,ae,af]
    rw[aP (by simp;omega)]
    refine(aaU _ (λa b=>room (List.length ((0,[],0,false)::s.2:aq Port)+List.length ([(ms[i].1.1,b,0,true)]:aq Port)) (nx (((0,[],0,false)::s.2)++([(ms[i].1.1,b,0,true)]),a,(i:Int)+1))) (λ_ _ _=>rfl) _ _ _ _ _ _ _ ([0]++ms[i].1.2.2) s.1 (by grind)).trans ?_
    rw[aP (by simp;omega)]
    rfl
  case hn=>
   cases KR:yX ms[i]with
   |false=>grind
   |true=>
    rw[KR]at hg
    cases hg
    have hu:=DZ ([0]++ms[i].1.2.2) s.1
    have hl:=DF KR
    simp only[au,bw]at hu
    exact hI.port KR _
  case hf=>
   simp only[ot]
   rw[gZ]
   have hb:=GF hI (by omega)
   have e0:idx ((0,[],0,false)::s.2:aq Port) 0=some (0,[],0,false):=rfl
   have e1:List.set ((0,[],0,false)::s.2:aq Port) (Int.toNat 0) (0,s.1,0,false)=(0,s.1,0,false)::s.2:=rfl
   grind[ab,Hm]
  rw[OY,V5 ms (by grind)]at this;grind[EU]
def yF (f:Filter)(p:aM):Bool:=tA f&&(((p.1==f.1)||((p.1==281474976710655)||f.2.1))&&((p.2.2.1== -1)||hasB f.2.2 p.2.2.1))
theorem UW (f:Filter)(p:aM)(h:f.2.2.length<=10^9):Af f p=some (yF f p):=by grind[Af,En,Hl,ab,yF]
theorem VS (f:Filter)(p:aM)(h:f.2.2.length<=10^9):Az f p=some (yF f p):=by grind[Az,E2,Hy,ab,yF]
def preB (a b n:Int):Bool:=fdiv a (2^(min (Int.toNat (ak (32-n))) (IntKind.bits .i64)))==fdiv b (2^(min (Int.toNat (ak (32-n))) (IntKind.bits .i64)))
theorem Rs {r:fH}(h:DQ r=true):0<=r.2.2.2.1/\r.2.2.2.1<=32:=by grind[DQ,lQ,cx,ab,dz]
def acB (r:fH)(p:aM):Bool:=preB r.2.2.1 p.2.2.2.2.2.2.1 r.2.2.2.1&&(dz p.2.2.2.2.2.2.2.2.2.2.1 r.2.2.2.2.1 r.2.2.2.2.2.1&&((r.2.2.2.2.2.2.1== -2)||(r.2.2.2.2.2.2.1==p.2.2.1)))
def GA (r:fH)(p:aM):Bool:=DQ r&&(ej p&&(((r.2.1==0)||(r.2.1==p.2.2.2.2.2.2.2.2.1))&&acB r p))
theorem afN (a b n:Int)(h0:0<=n)(h1:n<=32):ox a b n=some (preB a b n):=by grind[ox,preB,ai]
theorem aaW (r:fH)(p:aM):rh r p=some (GA r p):=by unfold rh GA;rw[adQ,ab];grind[Rs,oL,afN,cQ,ab,acB]
theorem abY (r:fH)(p:aM):rY r p=some (GA r p):=by
 unfold rY GA;rw[Pc,ab];cases hr:DQ r;rfl;have hp:=Rs hr;have hw:¬ak (32-r.2.2.2.1)<0:=by grind[ai]
 simp only[oU,zO,aG hw,cx,ab,acB];rw[show(fdiv r.2.2.1 (2^(min (Int.toNat (ak (32-r.2.2.2.1))) (IntKind.bits .i64)))==fdiv p.2.2.2.2.2.2.1 (2^(min (Int.toNat (ak (32-r.2.2.2.1))) (IntKind.bits .i64))))=preB r.2.2.1 p.2.2.2.2.2.2.1 r.2.2.2.1 from rfl];cases ej p<;>cases r.2.1==0<;>cases r.2.1==p.2.2.2.2.2.2.2.2.1<;>cases preB r.2.2.1 p.2.2.2.2.2.2.1 r.2.2.2.1<;>cases dz p.2.2.2.2.2.2.2.2.2.2.1 r.2.2.2.2.1 r.2.2.2.2.2.1<;>cases r.2.2.2.2.2.2.1== -2<;>rfl
def Mh:fH:=(0,0,0,0,0,0,0,0,0)
def zQ (l:aq fH)(p:aM):Nat->Int
 |0=> -1
 |i+1=>bif GA (l.getD i Mh) p&&(decide (zQ l p i<0)||decide ((l.getD i Mh).1<(l.getD (zQ l p i).toNat Mh).1)) then(i:Int) else zQ l p i
theorem Nn (l:aq fH)(p:aM):∀i,zQ l p i= -1\/∃n:Nat,zQ l p i=(n:Int)/\n<i
 |0=> .inl rfl
 |i+1=>by rw[zQ];cases GA (l.getD i Mh) p&&(decide (zQ l p i<0)||decide ((l.getD i Mh).1<(l.getD (zQ l p i).toNat Mh).1))with|true=>grind|false=>rcases Nn l p i with h|⟨n,h,hn⟩;all_goals grind
theorem Qw (l:aq fH)(p:aM)(i:Nat)(hi:i<l.length)(nx:Int×Int->ar R): (aa (cond (GA l[i] p) (cond (decide (zQ l p i<0)) (some true) (aa (idx l (zQ l p i)) λx4=>some (decide (l[i].1<x4.1)))) (some false)) λq5=>cond q5 (nx ((i:Int),((i+1:Nat):Int))) (nx (zQ l p i,((i+1:Nat):Int))))=nx (zQ l p (i+1),((i+1:Nat):Int)):=by
 rw[zQ,eu hi];cases GA l[i] p;rfl;rcases Nn l p i with h|⟨n,h,hn⟩;rw[h];rfl;have hl:n<l.length:=by omega
 rw[h,al (show¬(n:Int)<0 by omega),aY hl];simp only[af,ae,ab,aA,eu hl,bp,cR];cases decide (l[i].1<l[n].1)<;>rfl
def F9 (l:aq fH)(p:aM):Int:=bif BV l then zQ l p l.length else-1
theorem NP (l:aq fH)(p:aM)(h:F9 l p>=0):∃n:Nat,F9 l p=(n:Int)/\n<l.length:=by unfold F9 at h⊢;cases hr:BV l with|false=>grind|true=>rw[hr]at h;simp only[af]at h⊢;rcases Nn l p l.length with g|g;omega;exact g
theorem aaS (l:aq fH)(p:aM)(h:l.length<=10^9):xM l p=some (F9 l p):=by unfold xM F9;rw[Q6 l h,ab];cases BV l;rfl;simp only[aj,ae,af];refine dc (λi=>(zQ l p i,(i:Int))) l.length (by omega) (λi nx hi=>?_) (λnx=>?_);simp only[qY];rw[jh,aY hi,ai (n:=(i:Int)+1) (by omega) (by omega)];simp only[af,ab,aaW];exact Qw l p i hi nx;simp only[qY];rw[gZ];rfl
theorem abW (l:aq fH)(p:aM)(h:l.length<=10^9):yo l p=some (F9 l p):=by
 have Fq:=dX;unfold yo F9;cases hr:BV l with
 |false=>
  obtain⟨f,hf⟩:∃f,fuel=f+1:=⟨fuel-1,by omega⟩
  rw[hf,aJ];simp only[nv,HA l h,hr,ab];cases decide ((0:Int)<(l.length:Int))<;>rfl
 |true=>simp only[af];refine dc (λi=>(zQ l p i,(i:Int))) l.length (by omega) (λi nx hi=>?_) (λnx=>?_);simp only[nv,HA l h,hr];rw[jh,aY hi,ai (n:=(i:Int)+1) (by omega) (by omega)];simp only[af,ab,abY];exact Qw l p i hi nx;simp only[nv];rw[gZ];rfl
def zy (p:aM):HV:=(p.2.2.2.2.2.2.2.2.1,p.2.2.2.2.2.2.1,p.2.2.2.2.2.2.2.1,p.2.2.2.2.2.2.2.2.2.1,p.2.2.2.2.2.2.2.2.2.2.1)
theorem U2 (p:aM):yJ p=some (zy p):=rfl
theorem VX (p:aM):zj p=some (zy p):=rfl
def aiL:Slot:=(0,(0,0,0,0,0),0)
def xx (s:eQ)(q:Int)(p:aM):Int:=
 bif !im s q|| !ej p then-1 else
 bif decide (F9 s.1 p>=0) then(bif (s.1.getD (F9 s.1 p).toNat Mh).2.2.2.2.2.2.2.1==1 then-1 else(s.1.getD (F9 s.1 p).toNat Mh).2.2.2.2.2.2.2.2) else
 bif decide (findF s.2.1 (zy p)>=0) then(s.2.1.getD (findF s.2.1 (zy p)).toNat aiL).2.2 else HE s.2.2 q (zy p)
theorem aa4 (s:eQ)(q:Int)(p:aM)(h1:s.1.length<=10^9)(h2:s.2.1.length<=10^9)(h3:s.2.2.2.length<=10^9):rl s q p=some (xx s q p):=by unfold rl xx;rw[J0 s q h1 h2 h3,ab,oL,ab];cases im s q;rfl;cases ej p;rfl;simp only[aj,ae,ab,cD,aaS s.1 p h1,U2,SN s.2.1 _ h2,U8 s.2.2 q _ h3];grind[NP,aY,ab,NO]
theorem ab5 (s:eQ)(q:Int)(p:aM)(h1:s.1.length<=10^9)(h2:s.2.1.length<=10^9)(h3:s.2.2.2.length<=10^9):sf s q p=some (xx s q p):=by unfold sf xx;rw[KA s q h1 h2 h3,ab,oU,ab];cases im s q;rfl;cases ej p;rfl;simp only[aj,ae,ab,cD,abW s.1 p h1,VX,Tn s.2.1 _,V1 s.2.2 q _ h3];grind[NP,aY,ab,NO]
def ipB (d:Ip):Bool:=dz d.1 0 255&&(dz d.2.2.1 0 255&&(dz d.2.2.2.1 0 255&&(dz d.2.1 0 65535&&(dz d.2.2.2.2.1 0 4294967295&&(dz d.2.2.2.2.2.1 0 4294967295&&decide ((d.2.2.2.2.2.2.length:Int)<=380))))))
theorem VZ (d:Ip):HB d=some (ipB d):=by simp_all[HB,cx,bM,ipB]
theorem adI (d:Ip):Lb d=some (ipB d):=VZ d
def Oq (d:Ip):Bytes:=((((((bs2 69 (fV d.1)++bQ (20+(d.2.2.2.2.2.2.length:Int)))++bQ d.2.1)++bQ 16384)++bs2 (fV d.2.2.1) (fV d.2.2.2.1))++bQ 0)++fP d.2.2.2.2.1)++fP d.2.2.2.2.2.1
theorem Ot (d:Ip):(Oq d).length<=20:=by have:=bz (20+(d.2.2.2.2.2.2.length));have:=bz d.2.1;have:=bz 16384;have:=bz 0;have:=de d.2.2.2.2.1;have:=de d.2.2.2.2.2.1;simp_all[Oq,Sb];omega
def Oo (d:Ip):Bytes:=wz (Oq d) 10 (bQ (Sd (Oq d)))
theorem YD (d:Ip):yr d=some (bif ipB d then(Oo d,true) else([],false)):=by
 unfold yr;rw[VZ,ab];cases hd:ipB d;rfl;have hn:(d.2.2.2.2.2.2.length)<=380:=by grind[ipB]
 have:=bz (20+(d.2.2.2.2.2.2.length));have:=bz d.2.1;have:=bz 16384;have:=bz 0;have:=de d.2.2.2.2.1;have:=de d.2.2.2.2.2.1;have hl:=Ot d;have e:∀x y,(aK [x,y]).length=2:=λ_ _=>rfl;rw[ai (by omega) (by omega)];simp only[il,jF,ab,aj,ae,af];rw[aP (by grind),aP (by grind),aP (by simp_all;omega),aP (by simp_all;omega),aP (by simp_all;omega),aP (by simp_all;omega),aP (by simp_all;omega)];have hp:((((((aK [69,fV d.1]++bQ (20+(d.2.2.2.2.2.2.length)))++bQ d.2.1)++bQ 16384)++aK [fV d.2.2.1,fV d.2.2.2.1])++bQ 0)++fP d.2.2.2.2.1)++fP d.2.2.2.2.2.1=Oq d:=rfl;rw[hp,Kr _ (by omega),ab,E5 _ _ _ (by omega)];rfl
theorem XM (d:Ip):xP d=some (bif ipB d then(Oo d,true) else([],false)):=by
 unfold xP;rw[adI,ab];cases hd:ipB d;rfl;have hn:(d.2.2.2.2.2.2.length)<=380:=by grind[ipB]
 have:=bz (20+(d.2.2.2.2.2.2.length));have:=bz d.2.1;have:=bz 16384;have:=bz 0;have:=de d.2.2.2.2.1;have:=de d.2.2.2.2.2.1;have hl:=Ot d;have hw:=bz (Sd (Oq d));have e:∀x y,(aK [x,y]).length=2:=λ_ _=>rfl;rw[ai (by omega) (by omega)];simp only[lV,uo,ab,aj,ae,af];rw[aP (by grind),aP (by grind),aP (by simp_all;omega),aP (by simp_all;omega),aP (by simp_all;omega),aP (by simp_all;omega),aP (by simp_all;omega)];have hp:((((((aK [69,fV d.1]++bQ (20+(d.2.2.2.2.2.2.length)))++bQ d.2.1)++bQ 16384)++aK [fV d.2.2.1,fV d.2.2.2.1])++bQ 0)++fP d.2.2.2.2.1)++fP d.2.2.2.2.2.1=Oq d:=rfl;rw[hp,M3 _ (by omega),ab,Eo _ _ _];rfl
def ZE (d:Ip):Bytes×Bool:=bif ipB d then(Oo d++d.2.2.2.2.2.2,true) else([],false)
theorem Ld (d:Ip):(Oo d).length<=20:=by grind[Oo,zd,Ot]
theorem aeK (d:Ip):wB d=some (ZE d):=by grind[wB,ZE,YD,ab,ipB,Ld,aP]
theorem adH (d:Ip):ve d=some (ZE d):=by grind[ve,ZE,XM,ab,ipB,Ld,aP]
def Wz (n:Nat):Bytes:=aK (List.replicate n (0:Int))
theorem LM (n:Nat):(Wz n).length=n:=by simp[Wz,aK]
theorem aeM (n:Nat)(h:n<=10^9):AG (n:Int) 0=some (Wz n):=by unfold AG;rw[zip,aP (by omega),aA];refine dc (λi=>(List.replicate n (0),(i:Int))) n (by omega) (λi nx hi=>?_) (λnx=>?_);simp only[tZ];rw[jh,aY (by simpa using hi),ai (by omega) (by omega)];simp only[af,ab,aA,List.set_replicate_self];rfl;simp only[tZ];rw[gZ];rfl
theorem afO (n:Nat)(h:n<=10^9):Cn 0 (n:Int)=some (Wz n):=by unfold Cn;rw[zip,aP (by omega),aA];refine dc (λi=>(List.replicate n (0),(i:Int))) n (by omega) (λi nx hi=>?_) (λnx=>?_);simp only[vB];rw[aw (by simp;omega),aY (by simpa using hi),ai (by omega) (by omega)];simp only[af,ab,aA,List.set_replicate_self];rfl;simp only[vB];rw[al (by simp)];rfl
def pad (s:Bytes):Bytes:=if s.length<46 then s++Wz (46-s.length) else s
theorem S4 (s:Bytes):(pad s).length=max 46 s.length:=by grind[pad,LM]
theorem af6 (s:Bytes)(h:s.length<=10^9):AE s=some (pad s):=by unfold AE pad;by_cases hc:s.length<46;rw[jh,aH hc,ai (by omega) (by omega),show(46:Int)-(s.length)=((46-s.length:Nat)) by omega,aeM _ (by omega)];simp only[af,ab];rw[aP (by rw[LM];omega)];rw[gZ,aG hc];rfl
theorem afM (s:Bytes)(h:s.length<=10^9):Ai s=some (pad s):=by unfold Ai pad;by_cases hc:s.length<46;rw[gZ,aH hc,ai (by omega) (by omega),show(46:Int)-(s.length)=((46-s.length:Nat)) by omega,afO _ (by omega)];simp only[ae,ab];rw[aP (by rw[LM];omega)];rw[jh,aG hc];rfl
def Bj (e:PG):Bool:=dz e.1 0 281474976710655&&(dz e.2.1 0 281474976710655&&(dz e.2.2.1 (-1) 4095&&(dz e.2.2.2.1 1536 65535&&((e.2.2.2.1 !=33024)&&dz (e.2.2.2.2.length:Int) 46 400))))
theorem LF (e:PG):xw e=some (Bj e):=by simp_all[xw,cx,bM,Bj]
theorem Q1 (e:PG):Bu e=some (Bj e):=LF e
def WL (a:Int):Bytes:=(ir a).getD []
theorem CM (a:Int):ir a=some (WL a)/\(WL a).length<=6:=by
 have h:∃x,ir a=some x/\x.length<=6:=by unfold ir;simp only[il,jF,ab];have h1:=bz (fdiv a (2^(qS 32)));grind[de,aP]
 grind[WL]
theorem afL (a:Int):xX a=some (WL a):=(CM a).1
def QK (e:PG):Bytes:=(bif decide (e.2.2.1>=0) then(((WL e.1++WL e.2.1)++bQ 33024)++bQ e.2.2.1) else WL e.1++WL e.2.1)++bQ e.2.2.2.1++e.2.2.2.2
theorem acW (e:PG):(QK e).length<=18+e.2.2.2.2.length:=by have:=(CM e.1).2;have:=(CM e.2.1).2;grind[bz,QK]
def Ul (e:PG):Bytes×Bool:=bif Bj e then(QK e,true) else([],false)
theorem af5 (e:PG):yk e=some (Ul e):=by
 unfold yk Ul;rw[LF,ab];cases he:Bj e;rfl;have hn:(e.2.2.2.2.length)<=400:=by grind[Bj,bW]
 have:=(CM e.1).2;have:=(CM e.2.1).2;have:=bz 33024;have:=bz e.2.2.1;have:=bz e.2.2.2.1;simp only[(CM _).1,il,ab,aj,ae,af,QK];grind[aP]
theorem afK (e:PG):xI e=some (Ul e):=by
 unfold xI Ul;rw[Q1,ab];cases he:Bj e;rfl;have hn:(e.2.2.2.2.length)<=400:=by grind[Bj,bW]
 have:=(CM e.1).2;have:=(CM e.2.1).2;have:=bz 33024;have:=bz e.2.2.1;have:=bz e.2.2.2.1;simp only[afL,lV,ab,aj,ae,af,QK];grind[aP]
def aiK (p:aM):Bytes×Bool:=C2 p.2.2.2.2.2.2.1 p.2.2.2.2.2.2.2.1 p.2.2.2.2.2.2.2.2
def ipP (p:aM):Bytes×Bool:=ZE (p.2.2.2.1,p.2.2.2.2.1,p.2.2.2.2.2.1,p.2.2.2.2.2.2.2.2.1,p.2.2.2.2.2.2.1,p.2.2.2.2.2.2.2.1,(aiK p).1)
def afw (p:aM):Bytes×Bool:=Ul (p.1,p.2.1,p.2.2.1,2048,pad (ipP p).1)
def ec (p:aM):Bytes×Bool:=bif ej p then afw p else([],false)
theorem SS (p:aM):(ipP p).1.length<=360:=by grind[af2,ipP,ZE,aiK,Ld]
theorem DU (p:aM):fX p=some (ec p):=by have hl:=SS p;unfold fX ec;simp only[oU,GN,aeK,ab];rw[show(ZE (p.2.2.2.1,p.2.2.2.2.1,p.2.2.2.2.2.1,p.2.2.2.2.2.2.2.2.1,p.2.2.2.2.2.2.1,p.2.2.2.2.2.2.2.1,(C2 p.2.2.2.2.2.2.1 p.2.2.2.2.2.2.2.1 p.2.2.2.2.2.2.2.2).1))=ipP p from rfl,af6 _ (by omega),ab,af5];cases ej p<;>rfl
theorem Dv (p:aM):fW p=some (ec p):=by have hl:=SS p;unfold fW ec;simp only[oL,Gt,adH,ab];rw[show(ZE (p.2.2.2.1,p.2.2.2.2.1,p.2.2.2.2.2.1,p.2.2.2.2.2.2.2.2.1,p.2.2.2.2.2.2.1,p.2.2.2.2.2.2.2.1,(C2 p.2.2.2.2.2.2.1 p.2.2.2.2.2.2.2.1 p.2.2.2.2.2.2.2.2).1))=ipP p from rfl,afM _ (by omega),ab,afK];cases ej p<;>rfl
theorem Du (h:ej p=true):(ec p).2=true:=by grind[SS,JH,ej,S4,ec,afw,Ul,Bj,bW]
theorem AY (p:aM):(ec p).1.length<=378:=by grind[SS,S4,ec,afw,Ul,acW]
def fcs (c:Int):Bytes:=aK [fV c,fV (fdiv c (2^(qS 8))),fV (fdiv c (2^(qS 16))),fV (fdiv c (2^(qS 24)))]
def Fh (s:Bytes):Bytes:=s++fcs (QD s)
theorem afy (c:Int):(fcs c).length=4:=rfl
theorem Z2 (s:Bytes)(h:s.length<=10^9):wQ s=some (Fh s):=by unfold wQ;rw[Z1 s h,ab,mL,mL,mL];exact aP (by show s.length+4<=_;omega)
theorem Zz (s:Bytes)(h:s.length<=10^9):vt s=some (Fh s):=by unfold vt;rw[Zy s h,ab,mL,mL,mL];exact aP (by show s.length+4<=_;omega)
def fN (p:aM):Bool:=ej p&&decide ((p.2.2.2.2.2.2.2.2.2.2.2.2.2.2.2.length:Int)<=128)
theorem xv (p:aM):iU p=some (fN p):=by grind[iU,oU,ab,fN]
theorem xo (p:aM):iS p=some (fN p):=by grind[iS,oL,ab,fN]
def Bm (p:aM):Bytes×Bool:=bif fN p then(Fh (ec p).1,true) else([],false)
theorem RG (p:aM):oA p=some (Bm p):=by grind[AY,oA,xv,DU,Z2,ab,Bm]
theorem Q3 (p:aM):om p=some (Bm p):=by grind[AY,om,xo,Dv,Zz,ab,Bm,fN,Du]
theorem Hf (p:aM):(Bm p).1.length<=382:=by grind[AY,Bm,Fh,afy]
def OO (p:aM)(z:Int)(k:Nat):aM:=
 (p.1,p.2.1,p.2.2.1,p.2.2.2.1,tmod (ak (p.2.2.2.2.1+(k:Int))) 65536,p.2.2.2.2.2.1,p.2.2.2.2.2.2.1,p.2.2.2.2.2.2.2.1,p.2.2.2.2.2.2.2.2.1,p.2.2.2.2.2.2.2.2.2.1,p.2.2.2.2.2.2.2.2.2.2.1,
   tmod (ak (p.2.2.2.2.2.2.2.2.2.2.2.1+((k:Int)*z))) 4294967296,p.2.2.2.2.2.2.2.2.2.2.2.2.1,
   (bif decide (((k:Int)+1)*z<(p.2.2.2.2.2.2.2.2.2.2.2.2.2.2.2.length:Int)) then ak (toNat (iD p.2.2.2.2.2.2.2.2.2.2.2.2.2.1&&&~~~ iD 9)) else p.2.2.2.2.2.2.2.2.2.2.2.2.2.1),
   p.2.2.2.2.2.2.2.2.2.2.2.2.2.2.1,(p.2.2.2.2.2.2.2.2.2.2.2.2.2.2.2.take (min ((k+1)*z.toNat) p.2.2.2.2.2.2.2.2.2.2.2.2.2.2.2.length)).drop (k*z.toNat))
def jq (n z:Nat):Nat:=(n+z-1)/z
def C3 (p:aM)(z:Int):aq aM:=bif ej p&&dz z 1 128 then
    (bif (p.2.2.2.2.2.2.2.2.1 !=6)||decide ((p.2.2.2.2.2.2.2.2.2.2.2.2.2.2.2.length:Int)<=z) then [p] else(range (jq p.2.2.2.2.2.2.2.2.2.2.2.2.2.2.2.length z.toNat)).map (OO p z)) else []
theorem Lw {n z k:Nat}(hz:0<z:=by omega):k<jq n z↔k*z<n:=by grind[jq,Nat.lt_div_iff_mul_lt]
theorem B0 (h:ej p=true):p.2.2.2.2.2.2.2.2.2.2.2.2.2.2.2.length<=320:=by grind[ej,Kk,N4]
theorem RN {b:Bytes}{k z:Nat}(hk:k*z<b.length)(hb:b.length<=320):sub b ((k*z:Nat):Int) ((min ((k+1)*z) b.length:Nat):Int)=some ((b.take (min ((k+1)*z) b.length)).drop (k*z)):=by grind[sub]
theorem ab4 (p:aM)(z:Int):E6 p z=some (C3 p z):=by
 unfold E6 C3;simp only[oU,cx,ab];cases hs:ej p;rfl;cases hz:dz z 1 128;rfl;have hz':=bW.1 hz;have hb:=B0 hs;simp only[aj,ae,cW,af,ab,bM,cT];cases hq:(p.2.2.2.2.2.2.2.2.1 !=6)||decide ((p.2.2.2.2.2.2.2.2.2.2.2.2.2.2.2.length)<=z)with
 |true=>rfl
 |false=>
  obtain⟨m,rfl⟩:=aF (show 0<=z by omega);have hN:∀k,k<jq p.2.2.2.2.2.2.2.2.2.2.2.2.2.2.2.length m↔k*m<p.2.2.2.2.2.2.2.2.2.2.2.2.2.2.2.length:=λk=>Lw;have HN:jq p.2.2.2.2.2.2.2.2.2.2.2.2.2.2.2.length m<=320:=by rcases bH 320 (jq p.2.2.2.2.2.2.2.2.2.2.2.2.2.2.2.length m)with h|h;have:=(hN 320).1 h;omega;exact h
  refine dc (λk=>((range k).map (OO p (m)),(k:Int))) (jq p.2.2.2.2.2.2.2.2.2.2.2.2.2.2.2.length m) (by omega) (λk nx hk=>?_) (λnx=>?_);have hkm:=(hN k).1 hk;have hk1:(k+1)*m=k*m+m:=by rw[bZ,dL]
  have e1:(k:Int)*(m)=((k*m:Nat)):=by push_cast;rfl
  have e2:((k:Int)+1)*(m)=(((k+1)*m:Nat)):=by push_cast;rfl
  simp only[yx];rw[ai (n:=(k)+1) (by omega) (by omega),e1,e2,fE (by omega),fE (by omega),jh,af];have e3:(if(((k+1)*m:Nat):Int)<(p.2.2.2.2.2.2.2.2.2.2.2.2.2.2.2.length) then(((k+1)*m:Nat):Int) else(p.2.2.2.2.2.2.2.2.2.2.2.2.2.2.2.length))=((min ((k+1)*m) p.2.2.2.2.2.2.2.2.2.2.2.2.2.2.2.length)):=by split<;>omega
  rw[e3,RN hkm hb,ab,mL,mL];rw[List.range_succ,List.map_append,List.map_singleton];simp only[OO,e1,e2,aA];cases decide ((((k+1)*m:Nat):Int)<(p.2.2.2.2.2.2.2.2.2.2.2.2.2.2.2.length))with|true=>rw[aP (by simp;omega)];rfl|false=>simp only[ae];rw[aP (by simp;omega)];rfl
  have hkm:¬jq p.2.2.2.2.2.2.2.2.2.2.2.2.2.2.2.length m*m<p.2.2.2.2.2.2.2.2.2.2.2.2.2.2.2.length:=λh=>absurd ((hN _).2 h) (mO _);have hub:jq p.2.2.2.2.2.2.2.2.2.2.2.2.2.2.2.length m*m<=320*128:=Nat.mul_le_mul HN (by omega);have e1:((jq p.2.2.2.2.2.2.2.2.2.2.2.2.2.2.2.length m):Int)*(m)=((jq p.2.2.2.2.2.2.2.2.2.2.2.2.2.2.2.length m*m:Nat)):=by push_cast;rfl
  simp only[yx];rw[e1,fE (by omega),gZ];rfl
theorem aa3 (p:aM)(z:Int):Es p z=some (C3 p z):=by
 unfold Es C3;simp only[oL,cQ,ab];cases hs:ej p;rfl;cases hz:dz z 1 128;rfl;have hz':=bW.1 hz;have hb:=B0 hs;simp only[aj,ae,cW,af,ab,bM,cT];cases hq:(p.2.2.2.2.2.2.2.2.1 !=6)||decide ((p.2.2.2.2.2.2.2.2.2.2.2.2.2.2.2.length)<=z)with
 |true=>rfl
 |false=>
  obtain⟨m,rfl⟩:=aF (show 0<=z by omega);have hN:∀k,k<jq p.2.2.2.2.2.2.2.2.2.2.2.2.2.2.2.length m↔k*m<p.2.2.2.2.2.2.2.2.2.2.2.2.2.2.2.length:=λk=>Lw;have HN:jq p.2.2.2.2.2.2.2.2.2.2.2.2.2.2.2.length m<=320:=by rcases bH 320 (jq p.2.2.2.2.2.2.2.2.2.2.2.2.2.2.2.length m)with h|h;have:=(hN 320).1 h;omega;exact h
  refine dc (λk=>((range k).map (OO p (m)),(k:Int))) (jq p.2.2.2.2.2.2.2.2.2.2.2.2.2.2.2.length m) (by omega) (λk nx hk=>?_) (λnx=>?_);have hkm:=(hN k).1 hk;have hk1:(k+1)*m=k*m+m:=by rw[bZ,dL]
  have e1:(k:Int)*(m)=((k*m:Nat)):=by push_cast;rfl
  have e2:((k:Int)+1)*(m)=(((k+1)*m:Nat)):=by push_cast;rfl
  have pa:=RN hkm hb;simp only[xT];rw[ai (n:=(k)+1) (by omega) (by omega),e1,e2,fE (by omega),fE (by omega),jh,af];rw[List.range_succ,List.map_append,List.map_singleton];simp only[OO,e1,e2,aA];by_cases hc:(((k+1)*m:Nat):Int)<(p.2.2.2.2.2.2.2.2.2.2.2.2.2.2.2.length);rw[aw hc];rw[show min ((k+1)*m) p.2.2.2.2.2.2.2.2.2.2.2.2.2.2.2.length=(k+1)*m by omega]at pa⊢;rw[pa,ab,mL,mL,aP (by simp;omega)];rfl;rw[al hc];rw[show min ((k+1)*m) p.2.2.2.2.2.2.2.2.2.2.2.2.2.2.2.length=p.2.2.2.2.2.2.2.2.2.2.2.2.2.2.2.length by omega]at pa⊢;rw[pa,ab,mL,mL,aP (by simp;omega)];rfl;have hkm:¬jq p.2.2.2.2.2.2.2.2.2.2.2.2.2.2.2.length m*m<p.2.2.2.2.2.2.2.2.2.2.2.2.2.2.2.length:=λh=>absurd ((hN _).2 h) (mO _);have hub:jq p.2.2.2.2.2.2.2.2.2.2.2.2.2.2.2.length m*m<=320*128:=Nat.mul_le_mul HN (by omega);have e1:((jq p.2.2.2.2.2.2.2.2.2.2.2.2.2.2.2.length m):Int)*(m)=((jq p.2.2.2.2.2.2.2.2.2.2.2.2.2.2.2.length m*m:Nat)):=by push_cast;rfl
  simp only[xT];rw[e1,fE (by omega),gZ];rfl
theorem Jd (p:aM)(z:Int):(C3 p z).length<=320:=by unfold C3;cases hs:ej p&&dz z 1 128;exact fB _;simp only[ah,bW]at hs;have hb:=B0 hs.1;cases (p.2.2.2.2.2.2.2.2.1 !=6)||decide ((p.2.2.2.2.2.2.2.2.2.2.2.2.2.2.2.length)<=z)with|true=>simp only[af,bw];omega|false=>simp only[af,ae,cn,List.length_range];rcases bH 320 (jq p.2.2.2.2.2.2.2.2.2.2.2.2.2.2.2.length z.toNat)with h|h;have:=(Lw).1 h;omega;exact h
def Nj (acc:cy)(p:aM):cy:=bif (Bm p).2 then acc++[(Bm p).1] else acc
theorem Nk (acc:cy)(p:aM):(Nj acc p).length<=acc.length+1:=by grind[Nj]
def Hg (l:aq aM):cy:=l.foldl Nj []
theorem LV:∀(l:aq aM)(acc:cy),(l.foldl Nj acc).length<=acc.length+l.length
 |[],acc=>by simp
 |p::l,acc=>by have:=LV l (Nj acc p);grind[Nk]
theorem HY:∀(l:aq aM)(acc:cy),(∀x∈acc,x.length<=382)->∀x∈l.foldl Nj acc,x.length<=382
 |[],acc,h=>h
 |p::l,acc,h=>by refine HY l _ (λx hx=>?_);grind[Nj,Hf]
theorem YA (l:aq aM)(h:l.length<=10^9):yp l=some (Hg l):=by
 unfold yp Hg;have:=qJ (T:=nw (λ(y3) (_)=>some y3) l) l (λ(s) i=>(s,(i))) (λi s=>s.length<=i) (λp s=> .ok (Nj s p)) (λs=>some s) (by omega) (λi hi s nx hI=>?hs) (λi hi s s' hI hg=>?hn) (λs nx hI=>?hf) [] (by simp)
 case hs=>
  grind[nw,aY,ai,ab,RG,Nj,aP]
 all_goals grind[Nk,nw,EX]
theorem XJ (l:aq aM)(h:l.length<=10^9):xN l=some (Hg l):=by
 unfold xN Hg;have:=qJ (T:=mS (λ(y3) (_)=>some y3) l (l.length)) l (λ(s) i=>(s,(i))) (λi s=>s.length<=i) (λp s=> .ok (Nj s p)) (λs=>some s) (by omega) (λi hi s nx hI=>?hs) (λi hi s s' hI hg=>?hn) (λs nx hI=>?hf) [] (by simp)
 case hs=>
  grind[mS,aY,ai,ab,Q3,Nj,aP]
 all_goals grind[Nk,mS,EX]
def Rx (p:aM)(z:Int):cy:=Hg (C3 p z)
theorem aeT (p:aM)(z:Int):tX p z=some (Rx p z):=by have:=Jd p z;simp only[tX,ab4,YA _ (show(C3 p z).length<=10^9 by omega),ab];rfl
theorem adR (p:aM)(z:Int):tJ p z=some (Rx p z):=by have:=Jd p z;simp only[tJ,aa3,XJ _ (show(C3 p z).length<=10^9 by omega),ab];rfl
theorem abQ (p:aM)(z:Int):(Rx p z).length<=320/\∀x∈Rx p z,x.length<=382:=by have:=Jd p z;have:=LV (C3 p z) [];exact⟨by grind[Rx,Hg],HY _ [] (by simp)⟩
end
end Go.Pu
