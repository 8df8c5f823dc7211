import Derived.Test.YtfbhfnniblfpbaaGreatDnData
import Derived.Test.YtfbhfnniblfpbaaGreatPure
namespace Go.Pu
open Go.Dn
open List (range)
open BitVec (toNat)
open Int (fdiv tmod)
set_option linter.unusedSimpArgs false
set_option linter.unusedVariables false
noncomputable section
variable {s t x:Bytes} {h:Host} {f:Int->aw Int} {a c:Nat} {p:aS} {R X α σ:Type} {l:ar aA} {m:br}
/- Plain laws of the partial operations and of loops. -/
theorem aj {n:Int}(h1: -9223372036854775808<=n)(h2:n<=9223372036854775807):ak n=n:=by grind[IntKind.wrap,IntKind.bits,IntKind.signed]
@[simp] theorem ab (a:α)(k:α->aw R):aa (some a) k=k a:=rfl
@[simp] theorem ahH (k:α->aw R):aa none k=none:=rfl
@[simp] theorem adf (c:Bool)(x y:α)(k:α->aw R):aa (cond c (some x) (some y)) k=k (cond c x y):=by cases c<;>rfl
theorem cw (c:Bool)(x y:α):cond c (some x) (some y)=some (cond c x y):=by cases c<;>rfl
theorem aQ {n:Nat}{k:aw R}(h:n<=1073741824):room n k=k:=by simp[room,h]
theorem Np (xs:ar α)(i:Nat):idx xs (i:Int)=xs[i]?:=rfl
theorem aX {xs:ar α}{i:Nat}(h:i<xs.length):idx xs (i:Int)=some xs[i]:=by grind[Np]
def upK (step:Nat->σ->(σ->aw R)->aw R)(fin:σ->aw R)(N:Nat):Nat->Nat->σ->aw R
 |0,_,s=>fin s
 |n+1,i,s=>step i s (λs'=>upK step fin N n (i+1) s')
theorem HQ {T:(X->aw R)->X->aw R}(N:Nat)(e:σ->Nat->X)(step:Nat->σ->(σ->aw R)->aw R)(fin:σ->aw R)(hs:∀i s nx,i<N->T nx (e s i)=step i s (λs'=>nx (e s' (i+1))))(hf:∀s nx,T nx (e s N)=fin s): ∀n i s,i<=N->N-i<n->aJ T n (e s i)=upK step fin N (N-i) i s:=by
 intro n;induction n with
 |zero=>intro i s _ h;omega
 |succ n ih=>
  intro i s hi hn;rw[aJ];rcases bQ i N with gV|BD;rw[hs i s _ gV,show N-i=(N-(i+1))+1 by omega,upK];congr 1;funext s';exact ih (i+1) s' (by omega) (by omega);have:i=N:=by omega
  subst this;rw[hf,lM,upK]
def zF (step:α->σ->(σ->aw R)->aw R)(fin:σ->aw R):ar α->σ->aw R
 |[],s=>fin s
 |x::xs,s=>step x s (zF step fin xs)
theorem BG {T:(X->aw R)->X->aw R}(xs:ar α)(e:σ->Nat->X)(step:α->σ->(σ->aw R)->aw R)(fin:σ->aw R)(hs:∀i (h:i<xs.length) s nx,T nx (e s i)=step xs[i] s (λs'=>nx (e s' (i+1))))(hf:∀s nx,T nx (e s xs.length)=fin s): ∀n i s,i<=xs.length->xs.length-i<n->aJ T n (e s i)=zF step fin (xs.drop i) s:=by
 intro n;induction n with
 |zero=>intro i s _ h;omega
 |succ n ih=>
  intro i s hi hn;rw[aJ];rcases bQ i xs.length with gV|BD;rw[hs i gV s _,cl gV,zF];congr 1;funext s';exact ih (i+1) s' (by omega) (by omega);have:i=xs.length:=by omega
  subst this;rw[hf,List.drop_length,zF]
def rG:(t:CT)->t.D->Nat
 | .int _,_=>0
 | .bool,_=>0
 | .str,s=>s.length
 | .sl e,xs=>xs.length+(xs.map (rG e)).sum
 | .pair a b,x=>rG a x.1+rG b x.2
def bu (n:Nat):(t:CT)->t.D->Prop
 | .int _,_=>True
 | .bool,_=>True
 | .str,s=>s.length<=n
 | .sl e,xs=>xs.length<=n/\∀x∈xs,bu n e x
 | .pair a b,x=>bu n a x.1/\bu n b x.2
theorem OX (f:α->Nat):∀(xs:ar α)(x:α),x∈xs->f x<=(xs.map f).sum
 |y::ys,x,h=>by rcases cv.1 h with rfl|h;simp;have:=OX f ys x h;simp;omega
theorem H8 {n:Nat}:∀{t:CT}{x:t.D},rG t x<=n->bu n t x
 | .int _,_,_=>trivial
 | .bool,_,_=>trivial
 | .str,_,h=>h
 | .sl e,xs,h=>by simp only[rG]at h;exact⟨by omega,λx hx=>H8 (by have:=OX (rG e) xs x hx;omega)⟩
 | .pair a b,x,h=>by simp only[rG]at h;exact⟨H8 (by omega),H8 (by omega)⟩
theorem bu.mono {n m:Nat}(h:n<=m:=by omega):∀{t:CT}{x:t.D},bu n t x->bu m t x
 | .int _,_,_=>trivial
 | .bool,_,_=>trivial
 | .str,_,k=>aE k h
 | .sl _,_,k=>⟨aE k.1 h,λx hx=>bu.mono h (k.2 x hx)⟩
 | .pair _ _,_,k=>⟨bu.mono h k.1,bu.mono h k.2⟩
def th:(t:CT)->t.D->Prop
 | .int k,n=>k.min<=n/\n<=k.max
 | .bool,_=>True
 | .str,s=>s.length<=9223372036854775807
 | .sl e,xs=>xs.length<=9223372036854775807/\∀x∈xs,th e x
 | .pair a b,x=>th a x.1/\th b x.2
def lh (l n:Int):Int:=if n<=l then l-n else-1
def Nz {β:Type}(f:α->aw β)(k0:ar β->Int->aw R)(v0:ar α)(nx:ar β×Int->aw R)(x:ar β×Int):aw R:=
 cond (decide (x.2<(List.length v0:Int))) (
  aa (idx v0 x.2) λx1=>
  aa (f x1) λr2=>
  aa (idx x.1 x.2) λ_=>
  aa (idx x.1 x.2) λ_=>
  nx (List.set x.1 (Int.toNat x.2) r2,ak (x.2+1))) (
  k0 x.1 x.2)
noncomputable def Ug {β:Type}(f:α->aw β)(z:β)(a0:ar α):aw (ar β):=
 if 0<=((List.length a0:Int))/\((List.length a0:Int))<=((List.length a0:Int)) then(
 room (Int.toNat ((List.length a0:Int))) (
 aJ (Nz f (λy5 _=>some y5) a0) fuel (List.replicate (Int.toNat ((List.length a0:Int))) z,0))) else none
theorem pa {f:α->aw α}{z:α}{a:ar α}(hn:a.length<=1073741824)(hf:∀x∈a,f x=some x):Ug f z a=some a:=by
 unfold Ug;have xV:=cS;rw[zip,aQ (by omega)]
 have key:=HQ (T:=Nz f (λy5 _=>some y5) a) a.length (λ(_) i=>(a.take i++List.replicate (a.length-i) z,(i))) (λ_ s k=>k s) (λ_=>some a)
  (λi s nx hi=>by
   have h1:(a.take i).length=i:=by simp;omega
   have hl:i<(a.take i++List.replicate (a.length-i) z).length:=by simp;omega
   simp only[Nz];rw[jP];simp only[af,aX hi,ab,hf _ (bh hi),aX hl];congr 1;refine Prod.ext ?_ (aj (by omega) (by omega));simp only[ay];rw[List.set_append_right _ _ (by omega),h1,lM,bj hi,show a.length-i=(a.length-(i+1))+1 by omega,List.replicate_succ,List.set_cons_zero,aN,List.singleton_append])
  (λs nx=>by grind[Nz])
  fuel 0 () (by omega) (by omega)
 simp only[List.take_zero,bR,Nat.sub_zero,ay]at key⊢;have e:((0:Nat):Int)=0:=rfl;rw[e]at key;rw[key];have:∀n i,upK (λ_ (s) k=>k s) (λ_=>some a) a.length n i ()=some a:=by intro n;induction n with|zero=>intro i;rfl|succ n ih=>grind[upK]
 exact this _ _
def Ny (f:α->Int->aw Int)(k0:Int->Int->aw R)(k1:Int->Int->Int->aw R)(v0:ar α)(nx:Int×Int->aw R)(x:Int×Int):aw R:=
 cond (decide (x.2<((List.length v0:Int)))) (
  aa (idx v0 x.2) λx1=>
  aa (f x1 x.1) λr2=>
  cond (decide (r2<0)) (
   k1 r2 (-1) x.2) (
   nx (r2,ak (x.2+1)))) (
  k0 x.1 x.2)
noncomputable def Nx (f:α->Int->aw Int)(a0:ar α)(a1:Int):aw Int:=
 cond (decide ((ak (a1-((List.length a0:Int))))<0)) (
  some (-1)) (
  aJ (Ny f (λy3 _=>some y3) (λ_ y6 _=>some y6) a0) fuel (ak (a1-((List.length a0:Int))),0))
theorem PH {f:α->Int->aw Int}{s:α->Nat}{a:ar α}{l:Int}(h0:0<=l)(h1:l<=1048576)(hm:a.length<=9223372036854775807)(hf:∀x∈a,∀l:Int,0<=l->l<=1048576->∃r,f x l=some r/\((s x:Int)<=l->r=l-s x)/\(¬(s x:Int)<=l->r<0)):Nx f a l=some (lh l ((a.length+(a.map s).sum:Nat):Int)):=by
 unfold Nx;have xV:=cS;rw[aj (by omega) (by omega)];rcases Int.lt_or_le (l-a.length) 0 with aqh|abl;rw[ax aqh];simp only[af,lh];rw[mG];rw[gq];simp only[ae];have key:=BG (T:=Ny f (λy3 _=>some y3) (λ_ y6 _=>some y6) a) a (λ(q) i=>(q,(i))) (λx q k=>aa (f x q) λr=>cond (decide (r<0)) (some (-1)) (k r)) (λq=>some q) (λi hi q nx=>by simp only[Ny];rw[jP];simp only[af,aX hi,ab];rw[aj (by omega) (by omega)];rfl) (λq nx=>by simp only[Ny];rw[gq];rfl) fuel 0 (l-a.length) (by omega) (by omega);have e:((0:Nat):Int)=0:=rfl;rw[e,fa]at key;rw[key];have main:∀(b:ar α)(q:Int),0<=q->q<=1048576->(∀x∈b,x∈a)->zF (λx q k=>aa (f x q) λr=>cond (decide (r<0)) (some (-1)) (k r)) (λq=>some q) b q=some (lh q ((b.map s).sum)):=by intro b;induction b with|nil=>intro q hq _ _;simp[zF,lh,hq]|cons x b ih=>intro q hq Ya hb;obtain⟨r,hr,hr1,Qo⟩:=hf x (hb x (by simp)) q hq Ya;rw[zF,hr,ab];by_cases hle:(s x)<=q;rw[gq];simp only[ae];rw[ih _ (by omega) (by omega) (λy hy=>hb y (by simp[hy]))];simp only[lh,dZ,List.sum_cons];congr 1;split<;>split<;>omega;rw[ax (Qo hle)];simp only[af,lh,dZ,List.sum_cons];rw[mG]
 rw[main a _ (by omega) (by omega) (λx h=>h)];simp only[lh];congr 1;split<;>split<;>omega
def Nk (f:α->α->aw Bool)(k0:Int->aw R)(k1:Bool->Int->aw R)(v0 v1:ar α)(nx:Int->aw R)(x:Int):aw R:=
 cond (decide (x<((List.length v0:Int)))) (
  aa (idx v0 x) λx1=>
  aa (idx v1 x) λx2=>
  aa (f x1 x2) λr3=>
  cond (!r3) (
   k1 false x) (
   nx (ak (x+1)))) (
  k0 x)
noncomputable def SQ (f:α->α->aw Bool)(a0 a1:ar α):aw Bool:=
 cond (((List.length a0:Int)) !=((List.length a1:Int))) (
  some false) (
  aJ (Nk f (λ_=>some true) (λy5 _=>some y5) a0 a1) fuel 0)
theorem kv {f:α->α->aw Bool}{a:ar α}(hm:a.length<=1000000000000)(hf:∀x∈a,f x x=some true):SQ f a a=some true:=by
 unfold SQ;have xV:=cS;have key:=BG (T:=Nk f (λ_=>some true) (λy5 _=>some y5) a a) a (λ(_) i=>(i)) (λx s k=>aa (f x x) λr=>cond (!r) (some false) (k s)) (λ_=>some true) (λi hi s nx=>by grind[Nk,aX,ab,aj]) (λs nx=>by grind[Nk]) fuel 0 () (by omega) (by omega);have main:∀(b:ar α),(∀x∈b,x∈a)->zF (λx s k=>aa (f x x) λr=>cond (!r) (some false) (k s)) (λ_=>some true) b ()=some true:=by intro b;induction b with|nil=>intro _;rfl|cons x b ih=>grind[zF,ab]
 grind
theorem Jy {z:α}{a:ar α}(hn:a.length<=1073741824):Ug some z a=some a:=pa hn (λ_ _=>rfl)
theorem EK [BEq α][LawfulBEq α]{a:ar α}(hm:a.length<=1000000000000):SQ (λx y:α=>some (x==y)) a a=some true:=kv hm (λx _=>by simp)
theorem CL {f:α->Nat}:∀{xs:ar α},(∀x∈xs,f x=0)->(xs.map f).sum=0
 |[],_=>rfl
 |x::xs,h=>by have:=CL (xs:=xs) (λy hy=>h y (by simp[hy]));grind
def du (f:Int->aw Int)(n:Nat):Prop:=∀l:Int,0<=l->l<=1048576->f l=some (lh l n)
theorem du.nil:du (λl=>some l) 0:=λl h0 _=>by simp[lh,h0]
theorem du.len {n m:Nat}(hn:n<=9223372036854775807){k:Int->aw Int}(h:du k m): du (λl=>cond (decide (ak (l-(n:Int))<0)) (some (-1)) (k (ak (l-(n:Int))))) (n+m):=by intro l h0 h1;simp only;rw[aj (by omega) (by omega)];by_cases hl:l-(n)<0;rw[ax hl];simp only[af,lh];rw[mG];rw[aq hl];simp only[ae];rw[h _ (by omega) (by omega)];simp only[lh];congr 1;split<;>split<;>omega
theorem du.sub {k:Int->aw Int}{n m:Nat}(hf:du f n)(h:du k m):du (λl=>aa (f l) λr=>cond (decide (r<0)) (some (-1)) (k r)) (n+m):=by
 intro l h0 h1;simp only;rw[hf l h0 h1,ab];by_cases hl:(n)<=l;have e:lh l n=l-n:=by simp[lh,hl]
 rw[e,gq];simp only[ae];rw[h _ (by omega) (by omega)];simp only[lh];congr 1;split<;>split<;>omega;have e:lh l n= -1:=by simp[lh,hl]
 rw[e];simp only[lh];rw[mG];rfl
theorem du.cast {n m:Nat}(h:du f n)(e:n=m):du f m:=e▸h
theorem du.list {f:α->Int->aw Int}{s:α->Nat}{a:ar α}(hm:a.length<=9223372036854775807)(hf:∀x∈a,du (f x) (s x)):du (Nx f a) (a.length+(a.map s).sum):=λ_ h0 h1=>PH h0 h1 hm (λx hx l h0 h1=>⟨_,hf x hx l h0 h1,λh=>by simp[lh,h],λh=>by simp[lh,h]⟩)
theorem du.flat {n:Nat}(hn:n<=9223372036854775807):du (λl=>cond (decide (ak (l-(n:Int))<0)) (some (-1)) (some (ak (l-(n:Int))))) n:=(du.len hn du.nil).cast (by omega)
theorem du.strs {a:ar (ar UInt8)}(hm:th (.sl .str) a):du (Nx (λx l=>some (ak (l-(x.length:Int)))) a) (rG (.sl .str) a):=λ_ h0 h1=>PH h0 h1 hm.1 (λx hx l h0 h1=>⟨l-x.length,by have:x.length<=9223372036854775807:=hm.2 x hx;grind[aj],λ_=>rfl,λh=>by grind[rG]⟩)
theorem du.use {n:Nat}(hf:du f n){l:Int}(h0:0<=l)(h1:l<=1048576){k:Int->aw Bool}(hk:(n:Int)<=l->k (l-n)=some true): (aa (f l) λr=>cond (decide (r<0)) (some true) (k r))=some true:=by
 rw[hf l h0 h1,ab];by_cases hl:(n)<=l;have e:lh l n=l-n:=by simp[lh,hl]
 rw[e,gq];exact hk hl;have e:lh l n= -1:=by simp[lh,hl]
 rw[e];rfl
theorem GB {T:(Int->aw R)->Int->aw R}{fin hit:aw R}(p:α->Bool)(a:ar α)(h:a.length<=1000000000000)(hs:∀i (hi:i<a.length) nx,T nx (i:Int)=cond (p a[i]) hit (nx ((i+1:Nat):Int)))(hf:∀nx,T nx (a.length:Int)=fin): aJ T fuel 0=cond (a.any p) hit fin:=by
 have xV:=cS;have key:∀n i,i<=a.length->a.length-i<n->aJ T n (i)=cond ((a.drop i).any p) hit fin:=by
  intro n;induction n with
  |zero=>intro i _ h;omega
  |succ n ih=>
   intro i hi hn;rw[aJ];rcases bQ i a.length with gV|BD;rw[hs i gV,cl gV,List.any_cons];cases hq:p a[i]with|true=>rfl|false=>exact ih (i+1) (by omega) (by omega)
   have:i=a.length:=by omega
   subst this;rw[hf,List.drop_length];rfl
 exact key fuel 0 (by omega) (by omega)
theorem pJ {T:(Int->aw R)->Int->aw R}{fin hit:aw R}(p:Nat->Bool)(N:Nat)(h:N<=1000000000000)(hs:∀i nx,i<N->T nx (i:Int)=cond (!(p i)) hit (nx ((i+1:Nat):Int)))(hf:∀nx,T nx (N:Int)=fin): aJ T fuel 0=cond ((range N).all p) fin hit:=by
 have xV:=cS;have key:∀n i,i<=N->N-i<n->aJ T n (i)=cond ((List.range' i (N-i)).all p) fin hit:=by
  intro n;induction n with
  |zero=>intro i _ h;omega
  |succ n ih=>
   intro i hi hn;rw[aJ];rcases bQ i N with gV|BD;rw[hs i _ gV,show N-i=(N-(i+1))+1 by omega,List.range'_succ,bN];cases hq:p i with|false=>rfl|true=>exact ih (i+1) (by omega) (by omega)
   have:i=N:=by omega
   subst this;rw[hf,lM];rfl
 have:=key fuel 0 (by omega) (by omega);rw[Nat.sub_zero,<-List.range_eq_range']at this;exact this
theorem rJ {T:(Int->aw R)->Int->aw R}{fin hit:aw R}(p:α->Bool)(a:ar α)(h:a.length<=1000000000000)(hs:∀i (hi:i<a.length) nx,T nx (i:Int)=cond (!(p a[i])) hit (nx ((i+1:Nat):Int)))(hf:∀nx,T nx (a.length:Int)=fin): aJ T fuel 0=cond (a.all p) fin hit:=by have:=GB (λx=> !(p x)) a h hs hf;grind
theorem K6 {T:(X->aw R)->X->aw R}{fin hit:aw R}(e:Nat->X)(p:Nat->Bool)(N:Nat)(h:N<=1000000000000)(hs:∀i nx,i<N->(∀j,j<i->p j=true)->T nx (e i)=cond (!(p i)) hit (nx (e (i+1))))(hf:(∀j,j<N->p j=true)->∀nx,T nx (e N)=fin): aJ T fuel (e 0)=cond ((range N).all p) fin hit:=by
 have xV:=cS;have key:∀n i,i<=N->N-i<n->(∀j,j<i->p j=true)->aJ T n (e i)=cond ((List.range' i (N-i)).all p) fin hit:=by
  intro n;induction n with
  |zero=>intro i _ h;omega
  |succ n ih=>
   intro i hi hn hp;rw[aJ];rcases bQ i N with gV|BD;rw[hs i _ gV hp,show N-i=(N-(i+1))+1 by omega,List.range'_succ,bN];cases hq:p i with|false=>rfl|true=>refine ih (i+1) (by omega) (by omega) λj hj=>?_;by_cases hji:j=i;rw[hji];exact hq;exact hp j (by omega)
   have:i=N:=by omega
   subst this;rw[hf hp,lM];rfl
 have:=key fuel 0 (by omega) (by omega) (λj hj=>absurd hj (by omega));rw[Nat.sub_zero,<-List.range_eq_range']at this;exact this
theorem HF {T:(Int->aw R)->Int->aw R}{fin:aw R}{hit:Int->aw R}(p:α->Bool)(a:ar α)(h:a.length<=1000000000000)(hs:∀i (hi:i<a.length) nx,T nx (i:Int)=cond (p a[i]) (hit (i:Int)) (nx ((i+1:Nat):Int)))(hf:∀nx,T nx (a.length:Int)=fin): aJ T fuel 0=(match a.findIdx? p with|some i=>hit (i:Int)|none=>fin):=by
 have xV:=cS;have key:∀n i,i<=a.length->a.length-i<n->aJ T n (i)=(match (a.drop i).findIdx? p with|some j=>hit ((i+j:Nat))|none=>fin):=by
  intro n;induction n with
  |zero=>intro i _ h;omega
  |succ n ih=>
   intro i hi hn;rw[aJ];rcases bQ i a.length with gV|BD;rw[hs i gV,cl gV,List.findIdx?_cons];cases hq:p a[i]with|true=>rfl|false=>have:=ih (i+1) (by omega) (by omega);refine this.trans ?_;cases (a.drop (i+1)).findIdx? p with|none=>rfl|some j=>simp only[dg,aY,cc];congr 2;omega
   have:i=a.length:=by omega
   subst this;rw[hf,List.drop_length];rfl
 have:=key fuel 0 (by omega) (by omega);refine this.trans ?_;rw[fa];cases a.findIdx? p with|none=>rfl|some j=>simp only[cm]
theorem cF (a b:Bool):(bif a then b else false)=(a&&b):=by cases a<;>rfl
theorem cT (a b:Bool):(bif a then true else b)=(a||b):=by cases a<;>rfl
theorem cN (a b:Bool):(bif a then false else b)=(!a&&b):=by cases a<;>rfl
def Wi (g:α->σ->Except (aw R) σ)(fin:σ->aw R):ar α->σ->aw R
 |[],s=>fin s
 |x::xs,s=>match g x s with| .error r=>r| .ok s'=>Wi g fin xs s'
theorem Et {T:(X->aw R)->X->aw R}(xs:ar α)(e:σ->Nat->X)(Inv:Nat->σ->Prop)(g:α->σ->Except (aw R) σ)(fin:σ->aw R)(h:xs.length<=1000000000000)(hs:∀i (hi:i<xs.length) s nx,Inv i s->T nx (e s i)=match g xs[i] s with| .error r=>r| .ok s'=>nx (e s' (i+1)))(hn:∀i (hi:i<xs.length) s s',Inv i s->g xs[i] s=.ok s'->Inv (i+1) s')(hf:∀s nx,Inv xs.length s->T nx (e s xs.length)=fin s)(s:σ)(h0:Inv 0 s): aJ T fuel (e s 0)=Wi g fin xs s:=by
 have key:∀n i s,i<=xs.length->xs.length-i<n->Inv i s->aJ T n (e s i)=Wi g fin (xs.drop i) s:=by
  intro n;induction n with
  |zero=>intro i s _ h;omega
  |succ n ih=>
   intro i s hi BZ hI;rw[aJ];rcases bQ i xs.length with gV|BD;rw[hs i gV s _ hI,cl gV,Wi];cases hg:g xs[i] s with|error r=>rfl|ok s'=>exact ih (i+1) s' (by omega) (by omega) (hn i gV s s' hI hg)
   have:i=xs.length:=by omega
   subst this;rw[hf s _ hI,List.drop_length,Wi]
 have xV:=cS;have:=key fuel 0 s (by omega) (by omega) h0;rwa[fa]at this
theorem Kx (f:σ->α->σ)(fin:σ->aw R):∀(xs:ar α)(s:σ),Wi (λx s=> .ok (f s x)) fin xs s=fin (xs.foldl f s)
 |[],_=>rfl
 |x::xs,s=>by exact Kx f fin xs (f s x)
theorem cD {T:(X->aw R)->X->aw R}{fin:aw R}(e:Nat->X)(N:Nat)(h:N<=1000000000000)(hs:∀i nx,i<N->T nx (e i)=nx (e (i+1)))(hf:∀nx,T nx (e N)=fin):aJ T fuel (e 0)=fin:=by rw[K6 (hit:=fin) e (λ_=>true) N h (λi nx hi _=>by rw[hs i nx hi];rfl) (λ_ nx=>hf nx)];grind
theorem gk {l:ar α}{k:aw R}(h:l.length<=10^9):room (List.length ([]:ar α)+l.length) k=k:=aQ (by grind)
theorem PI (a:br)(hm:th (.sl .str) a):du (wZ a) (rG (.sl .str) a):=du.strs hm
theorem ac4 (a:br)(hm:th (.sl .str) a):du (yU a) (rG (.sl .str) a):=
 du.cast (f:=yU a) (du.sub (PI a hm) du.nil) (by simp only[rG];try omega)
theorem WJ (a:ar aA)(hm:th (.sl di) a):du (Av a) (rG (.sl di) a):=(du.flat (n:=a.length) hm.1).cast (by simp only[rG];rw[CL (λx _=>by simp only[rG])];rfl)
theorem H9 (a:eF)(hm:th (.sl (.int .i64)) a):du (ou a) (rG (.sl (.int .i64)) a):=(du.flat (n:=a.length) hm.1).cast (by simp only[rG];rw[CL (λx _=>by simp only[rG])];rfl)
theorem aaG (a:cj)(hm:th fX a):du (vB a) (rG fX a):=
 du.cast (f:=vB a) (du.sub (H9 a.2.2.2 hm.2.2.2) du.nil) (by simp only[rG];try omega)
theorem ag5 (a:gE)(hm:th kH a):du (zS a) (rG kH a):=
 du.cast (f:=zS a) (du.sub (H9 a.2.2 hm.2.2) du.nil) (by simp only[rG];try omega)
theorem afH (a:ar gE)(hm:th (.sl kH) a):du (Ff a) (rG (.sl kH) a):=du.list (f:=zS) (s:=rG kH) hm.1 (λx hx=>ag5 x (hm.2 x hx))
theorem ZC (a:bA)(hm:th fD a):du (xa a) (rG fD a):=
 du.cast (f:=xa a) (du.sub (aaG a.2.1 hm.2.1) (du.sub (afH a.2.2.1 hm.2.2.1) du.nil)) (by simp only[rG];try omega)
theorem ZA (a:dD)(hm:th D0 a):du (wY a) (rG D0 a):=
 du.cast (f:=wY a) (du.len (n:=a.2.2.2.2.2.2.2.length) hm.2.2.2.2.2.2.2 du.nil) (by simp only[rG];try omega)
theorem Sk (a:aS)(hm:th AN a):du (tQ a) (rG AN a):=
 du.cast (f:=tQ a) (du.sub (ZA a.2.2.2.2.2.2.2.2 hm.2.2.2.2.2.2.2.2) du.nil) (by simp only[rG];try omega)
theorem afJ (a:jY)(hm:th IX a):du (Be a) (rG IX a):=
 du.cast (f:=Be a) (du.sub (Sk a.1 hm.1) du.nil) (by simp only[rG];try omega)
theorem Zz (a:bc)(hm:th cW a):du (rk a) (rG cW a):=
 du.cast (f:=rk a) (du.sub (afJ a.2.2.2.1 hm.2.2.2.1) du.nil) (by simp only[rG];try omega)
theorem WK (a:ar bc)(hm:th (.sl cW) a):du (Aw a) (rG (.sl cW) a):=du.list (f:=rk) (s:=rG cW) hm.1 (λx hx=>Zz x (hm.2 x hx))
theorem afF (a:ar cj)(hm:th (.sl fX) a):du (Fc a) (rG (.sl fX) a):=du.list (f:=vB) (s:=rG fX) hm.1 (λx hx=>aaG x (hm.2 x hx))
theorem ZD (a:ar Vector)(hm:th (.sl fw) a):du (Cr a) (rG (.sl fw) a):=(du.flat (n:=a.length) hm.1).cast (by simp only[rG];rw[CL (λx _=>by simp only[rG])];rfl)
theorem afE (a:ar Bool)(hm:th (.sl .bool) a):du (Fb a) (rG (.sl .bool) a):=(du.flat (n:=a.length) hm.1).cast (by simp only[rG];rw[CL (λx _=>by simp only[rG])];rfl)
theorem ac3 (a:Filter)(hm:th jC a):du (yT a) (rG jC a):=
 du.cast (f:=yT a) (du.sub (H9 a.2.2 hm.2.2) du.nil) (by simp only[rG];try omega)
theorem afG (a:ar gi)(hm:th (.sl qe) a):du (Fe a) (rG (.sl qe) a):=(du.flat (n:=a.length) hm.1).cast (by simp only[rG];rw[CL (λx _=>by simp only[rG])];rfl)
theorem afI (a:ar Slot)(hm:th (.sl kW) a):du (Fg a) (rG (.sl kW) a):=(du.flat (n:=a.length) hm.1).cast (by simp only[rG];rw[CL (λx _=>by simp only[rG])];rfl)
theorem Uc (a:ar Slot)(hm:th (.sl kW) a):du (sy a) (rG (.sl kW) a):=
 du.cast (f:=sy a) (du.sub (afI a hm) du.nil) (by simp only[rG];try omega)
theorem ac5 (a:gJ)(hm:th uq a):du (yV a) (rG uq a):=
 du.cast (f:=yV a) (du.len (n:=a.1.length) hm.1 (du.sub (H9 a.2 hm.2) du.nil)) (by simp only[rG];try omega)
theorem WL (a:dW)(hm:th fS a):du (uO a) (rG fS a):=
 du.cast (f:=uO a) (du.sub (afG a.1 hm.1) (du.sub (Uc a.2.1 hm.2.1) (du.sub (ac5 a.2.2 hm.2.2) du.nil))) (by simp only[rG];try omega)
theorem ac6 (a:Stream)(hm:th dE a):du (tR a) (rG dE a):=
 du.cast (f:=tR a) (du.len (n:=a.2.2.1.length) hm.2.2.1 du.nil) (by simp only[rG];try omega)
theorem ZB (a:ar Stream)(hm:th (.sl dE) a):du (Cq a) (rG (.sl dE) a):=du.list (f:=tR) (s:=rG dE) hm.1 (λx hx=>ac6 x (hm.2 x hx))
theorem ag4 (a:Host)(hm:th cK a):du (Df a) (rG cK a):=
 du.cast (f:=Df a) (du.sub (ac4 a.1 hm.1) (du.sub (WJ a.2.1 hm.2.1) (du.sub (ZC a.2.2.1 hm.2.2.1) (du.sub (WK a.2.2.2.1 hm.2.2.2.1) (du.sub (afF a.2.2.2.2.1 hm.2.2.2.2.1) (du.sub (ZD a.2.2.2.2.2.1 hm.2.2.2.2.2.1) (du.sub (afE a.2.2.2.2.2.2.1 hm.2.2.2.2.2.2.1) (du.sub (ac3 a.2.2.2.2.2.2.2.1 hm.2.2.2.2.2.2.2.1) (du.sub (WL a.2.2.2.2.2.2.2.2.1 hm.2.2.2.2.2.2.2.2.1) (du.sub (ZB a.2.2.2.2.2.2.2.2.2.1 hm.2.2.2.2.2.2.2.2.2.1) (du.sub (PI a.2.2.2.2.2.2.2.2.2.2.2.1 hm.2.2.2.2.2.2.2.2.2.2.2.1) (du.sub (H9 a.2.2.2.2.2.2.2.2.2.2.2.2.1 hm.2.2.2.2.2.2.2.2.2.2.2.2.1) (du.sub (H9 a.2.2.2.2.2.2.2.2.2.2.2.2.2.1 hm.2.2.2.2.2.2.2.2.2.2.2.2.2.1) du.nil))))))))))))) (by simp only[rG];try omega)
theorem FP (a:br)(h:bu 1048576 (.sl .str) a):xc a=some a:=Jy (z:=([]:Bytes)) (aE h.1 (by omega))
theorem Sn (a:br)(h:bu 1048576 (.sl .str) a):tU a=some a:=by first|(simp only[tU,FP _ h,ab];done)|(simp only[tU,FP _ h,ab];rfl)
theorem ZE (a:aA)(h:bu 1048576 di a):xb a=some a:=rfl
theorem MI (a:ar aA)(h:bu 1048576 (.sl di) a):Ay a=some a:=pa (f:=xb) (z:=(0,0,0,false)) (aE h.1 (by omega)) (λx hx=>ZE x (h.2 x hx))
theorem NB (a:Ring)(h:bu 1048576 L1 a):Dj a=some a:=rfl
theorem vh (a:eF)(h:bu 1048576 (.sl (.int .i64)) a):ow a=some a:=Jy (z:=0) (aE h.1 (by omega))
theorem Uh (a:cj)(h:bu 1048576 fX a):rl a=some a:=by first|(simp only[rl,vh _ h.2.2.2,ab];done)|(simp only[rl,vh _ h.2.2.2,ab];rfl)
theorem ahc (a:gE)(h:bu 1048576 kH a):vC a=some a:=by first|(simp only[vC,vh _ h.2.2,ab];done)|(simp only[vC,vh _ h.2.2,ab];rfl)
theorem WU (a:ar gE)(h:bu 1048576 (.sl kH) a):Fk a=some a:=pa (f:=vC) (z:=(0,0,([]:eF))) (aE h.1 (by omega)) (λx hx=>ahc x (h.2 x hx))
theorem PV (a:bA)(h:bu 1048576 fD a):rm a=some a:=by first|(simp only[rm,NB _ h.1,Uh _ h.2.1,WU _ h.2.2.1,ab];done)|(simp only[rm,NB _ h.1,Uh _ h.2.1,WU _ h.2.2.1,ab];rfl)
theorem pb (a:cE)(h:bu 1048576 kM a):kz a=some a:=rfl
theorem PR (a:dD)(h:bu 1048576 D0 a):Cw a=some a:=rfl
theorem Ib (a:aS)(h:bu 1048576 AN a):pQ a=some a:=by first|(simp only[pQ,PR _ h.2.2.2.2.2.2.2.2,ab];done)|(simp only[pQ,PR _ h.2.2.2.2.2.2.2.2,ab];rfl)
theorem WW (a:jY)(h:bu 1048576 IX a):xd a=some a:=by first|(simp only[xd,Ib _ h.1,ab];done)|(simp only[xd,Ib _ h.1,ab];rfl)
theorem ZF (a:bc)(h:bu 1048576 cW a):nM a=some a:=by first|(simp only[nM,NB _ h.1,pb _ h.2.1,pb _ h.2.2.1,WW _ h.2.2.2.1,ab];done)|(simp only[nM,NB _ h.1,pb _ h.2.1,pb _ h.2.2.1,WW _ h.2.2.2.1,ab];rfl)
theorem MJ (a:ar bc)(h:bu 1048576 (.sl cW) a):Az a=some a:=pa (f:=nM) (z:=((0,0,0,0),(0,0,0),(0,0,0),((0,0,0,0,0,0,0,0,0,0,0,0,0,0,0,([]:Bytes)),0,0),false,0)) (aE h.1 (by omega)) (λx hx=>ZF x (h.2 x hx))
theorem WS (a:ar cj)(h:bu 1048576 (.sl fX) a):Fi a=some a:=pa (f:=rl) (z:=(0,0,0,([]:eF))) (aE h.1 (by omega)) (λx hx=>Uh x (h.2 x hx))
theorem ada (a:Vector)(h:bu 1048576 fw a):yW a=some a:=rfl
theorem PW (a:ar Vector)(h:bu 1048576 (.sl fw) a):Cy a=some a:=pa (f:=yW) (z:=(0,0,0,0,false,false)) (aE h.1 (by omega)) (λx hx=>ada x (h.2 x hx))
theorem WR (a:ar Bool)(h:bu 1048576 (.sl .bool) a):Fh a=some a:=Jy (z:=false) (aE h.1 (by omega))
theorem Sm (a:Filter)(h:bu 1048576 jC a):tS a=some a:=by first|(simp only[tS,vh _ h.2.2,ab];done)|(simp only[tS,vh _ h.2.2,ab];rfl)
theorem ahb (a:gi)(h:bu 1048576 qe a):Dk a=some a:=rfl
theorem WT (a:ar gi)(h:bu 1048576 (.sl qe) a):Fj a=some a:=pa (f:=Dk) (z:=(0,0,0,0,0,0,0,0,0)) (aE h.1 (by omega)) (λx hx=>ahb x (h.2 x hx))
theorem NA (a:gh)(h:bu 1048576 DZ a):Di a=some a:=rfl
theorem ahd (a:Slot)(h:bu 1048576 kW a):vD a=some a:=by first|(simp only[vD,NA _ h.2.1,ab];done)|(simp only[vD,NA _ h.2.1,ab];rfl)
theorem WV (a:ar Slot)(h:bu 1048576 (.sl kW) a):Fl a=some a:=pa (f:=vD) (z:=(0,(0,0,0,0,0),0)) (aE h.1 (by omega)) (λx hx=>ahd x (h.2 x hx))
theorem KU (a:ar Slot)(h:bu 1048576 (.sl kW) a):nL a=some a:=by first|(simp only[nL,WV _ h,ab];done)|(simp only[nL,WV _ h,ab];rfl)
theorem So (a:gJ)(h:bu 1048576 uq a):tV a=some a:=by first|(simp only[tV,vh _ h.2,ab];done)|(simp only[tV,vh _ h.2,ab];rfl)
theorem MK (a:dW)(h:bu 1048576 fS a):pt a=some a:=by first|(simp only[pt,WT _ h.1,KU _ h.2.1,So _ h.2.2,ab];done)|(simp only[pt,WT _ h.1,KU _ h.2.1,So _ h.2.2,ab];rfl)
theorem ac9 (a:Stream)(h:bu 1048576 dE a):pR a=some a:=by first|(simp only[pR,NA _ h.1,ab];done)|(simp only[pR,NA _ h.1,ab];rfl)
theorem PU (a:ar Stream)(h:bu 1048576 (.sl dE) a):Cx a=some a:=pa (f:=pR) (z:=((0,0,0,0,0),0,([]:Bytes),false)) (aE h.1 (by omega)) (λx hx=>ac9 x (h.2 x hx))
theorem MH (a:gh)(h:bu 1048576 DZ a):Ax a=some a:=rfl
theorem aha (a:Host)(h:bu 1048576 cK a):ov a=some a:=by first|(simp only[ov,Sn _ h.1,MI _ h.2.1,PV _ h.2.2.1,MJ _ h.2.2.2.1,WS _ h.2.2.2.2.1,PW _ h.2.2.2.2.2.1,WR _ h.2.2.2.2.2.2.1,Sm _ h.2.2.2.2.2.2.2.1,MK _ h.2.2.2.2.2.2.2.2.1,PU _ h.2.2.2.2.2.2.2.2.2.1,FP _ h.2.2.2.2.2.2.2.2.2.2.2.1,vh _ h.2.2.2.2.2.2.2.2.2.2.2.2.1,vh _ h.2.2.2.2.2.2.2.2.2.2.2.2.2.1,MH _ h.2.2.2.2.2.2.2.2.2.2.2.2.2.2,ab];done)|(simp only[ov,Sn _ h.1,MI _ h.2.1,PV _ h.2.2.1,MJ _ h.2.2.2.1,WS _ h.2.2.2.2.1,PW _ h.2.2.2.2.2.1,WR _ h.2.2.2.2.2.2.1,Sm _ h.2.2.2.2.2.2.2.1,MK _ h.2.2.2.2.2.2.2.2.1,PU _ h.2.2.2.2.2.2.2.2.2.1,FP _ h.2.2.2.2.2.2.2.2.2.2.2.1,vh _ h.2.2.2.2.2.2.2.2.2.2.2.2.1,vh _ h.2.2.2.2.2.2.2.2.2.2.2.2.2.1,MH _ h.2.2.2.2.2.2.2.2.2.2.2.2.2.2,ab];rfl)
theorem HC (a:eF)(h:bu 1000000000000 (.sl (.int .i64)) a):ot a a=some true:=EK h.1
theorem N4 (a:br)(h:bu 1000000000000 (.sl .str) a):wK a a=some true:=EK h.1
theorem aa2 (a:br)(h:bu 1000000000000 (.sl .str) a):yO a a=some true:=by simp[yO,N4 _ h]
theorem XM (a:aA)(h:bu 1000000000000 di a):rb a a=some true:=by simp[rb]
theorem UQ (a:ar aA)(h:bu 1000000000000 (.sl di) a):As a a=some true:=kv (f:=rb) h.1 (λx hx=>XM x (h.2 x hx))
theorem ZZ (a:Ring)(h:bu 1000000000000 L1 a):zO a a=some true:=by simp[zO]
theorem ZY (a:cj)(h:bu 1000000000000 fX a):vA a a=some true:=by simp[vA,HC _ h.2.2.2]
theorem aga (a:gE)(h:bu 1000000000000 kH a):zQ a a=some true:=by simp[zQ,HC _ h.2.2]
theorem adI (a:ar gE)(h:bu 1000000000000 (.sl kH) a):E8 a a=some true:=kv (f:=zQ) h.1 (λx hx=>aga x (h.2 x hx))
theorem XQ (a:bA)(h:bu 1000000000000 fD a):wL a a=some true:=by simp[wL,ZZ _ h.1,ZY _ h.2.1,adI _ h.2.2.1]
theorem BP (a:cE)(h:bu 1000000000000 kM a):iB a a=some true:=by simp[iB]
theorem XO (a:dD)(h:bu 1000000000000 D0 a):wJ a a=some true:=by simp[wJ]
theorem aa3 (a:aS)(h:bu 1000000000000 AN a):yP a a=some true:=by simp[yP,XO _ h.2.2.2.2.2.2.2.2]
theorem adK (a:jY)(h:bu 1000000000000 IX a):Bd a a=some true:=by simp[Bd,aa3 _ h.1]
theorem XN (a:bc)(h:bu 1000000000000 cW a):re a a=some true:=by simp[re,ZZ _ h.1,BP _ h.2.1,BP _ h.2.2.1,adK _ h.2.2.2.1]
theorem UR (a:ar bc)(h:bu 1000000000000 (.sl cW) a):Au a a=some true:=kv (f:=re) h.1 (λx hx=>XN x (h.2 x hx))
theorem adG (a:ar cj)(h:bu 1000000000000 (.sl fX) a):E6 a a=some true:=kv (f:=vA) h.1 (λx hx=>ZY x (h.2 x hx))
theorem aa6 (a:Vector)(h:bu 1000000000000 fw a):tO a a=some true:=by simp[tO]
theorem XR (a:ar Vector)(h:bu 1000000000000 (.sl fw) a):Ce a a=some true:=kv (f:=tO) h.1 (λx hx=>aa6 x (h.2 x hx))
theorem adF (a:ar Bool)(h:bu 1000000000000 (.sl .bool) a):E5 a a=some true:=EK h.1
theorem aa1 (a:Filter)(h:bu 1000000000000 jC a):yN a a=some true:=by simp[yN,HC _ h.2.2]
theorem af9 (a:gi)(h:bu 1000000000000 qe a):zP a a=some true:=by simp[zP]
theorem adH (a:ar gi)(h:bu 1000000000000 (.sl qe) a):E7 a a=some true:=kv (f:=zP) h.1 (λx hx=>af9 x (h.2 x hx))
theorem ZW (a:gh)(h:bu 1000000000000 DZ a):zN a a=some true:=by simp[zN]
theorem agb (a:Slot)(h:bu 1000000000000 kW a):zR a a=some true:=by simp[zR,ZW _ h.2.1]
theorem adJ (a:ar Slot)(h:bu 1000000000000 (.sl kW) a):E9 a a=some true:=kv (f:=zR) h.1 (λx hx=>agb x (h.2 x hx))
theorem SR (a:ar Slot)(h:bu 1000000000000 (.sl kW) a):sn a a=some true:=by simp[sn,adJ _ h]
theorem aa4 (a:gJ)(h:bu 1000000000000 uq a):yQ a a=some true:=by simp[yQ,HC _ h.2]
theorem US (a:dW)(h:bu 1000000000000 fS a):uH a a=some true:=by simp[uH,adH _ h.1,SR _ h.2.1,aa4 _ h.2.2]
theorem aa5 (a:Stream)(h:bu 1000000000000 dE a):tN a a=some true:=by simp[tN,ZW _ h.1]
theorem XP (a:ar Stream)(h:bu 1000000000000 (.sl dE) a):Cd a a=some true:=kv (f:=tN) h.1 (λx hx=>aa5 x (h.2 x hx))
theorem UP (a:gh)(h:bu 1000000000000 DZ a):uG a a=some true:=by simp[uG]
theorem ZX (a:Host)(h:bu 1000000000000 cK a):ra a a=some true:=by simp[ra,aa2 _ h.1,UQ _ h.2.1,XQ _ h.2.2.1,UR _ h.2.2.2.1,adG _ h.2.2.2.2.1,XR _ h.2.2.2.2.2.1,adF _ h.2.2.2.2.2.2.1,aa1 _ h.2.2.2.2.2.2.2.1,US _ h.2.2.2.2.2.2.2.2.1,XP _ h.2.2.2.2.2.2.2.2.2.1,N4 _ h.2.2.2.2.2.2.2.2.2.2.2.1,HC _ h.2.2.2.2.2.2.2.2.2.2.2.2.1,HC _ h.2.2.2.2.2.2.2.2.2.2.2.2.2.1,UP _ h.2.2.2.2.2.2.2.2.2.2.2.2.2.2]
theorem aiw (a:Act)(hm:th Sx a):du (Fa a) (rG Sx a):=
 du.cast (f:=Fa a) (du.sub (Sk a.2.1 hm.2.1) (du.len (n:=a.2.2.2.2.1.length) hm.2.2.2.2.1 du.nil)) (by simp only[rG];try omega)
theorem aix (a:Act)(h:bu 1048576 Sx a):vl a=some a:=by first|(simp only[vl,Ib _ h.2.1,ab];done)|(simp only[vl,Ib _ h.2.1,ab];rfl)
def dH (a lo hi:Int):Bool:=decide (lo<=a)&&decide (a<=hi)
theorem bM {a lo hi:Int}:dH a lo hi=true↔lo<=a/\a<=hi:=by simp[dH]
theorem cM (a b c:Int):aK a b c=some (dH a b c):=by grind[aK,ab,dH]
theorem dh (a b c:Int):aC a b c=some (dH a b c):=cM a b c
theorem fM {l:ar α}{i:Nat}(h:i<l.length)(d:α):l.getD i d=l[i]:=by grind
def P1 (l:eF)(i:Nat):Bool:=dH (l.getD i 0) 0 4095&& !(decide (0<i)&&decide (l.getD i 0<=l.getD (i-1) 0))
def C2 (f:Filter):Bool:=(range f.2.2.length).all (P1 f.2.2)&&(dH f.1 0 281474976710654&&decide ((f.2.2.length:Int)<=8))
theorem Pt (f:Filter)(h:f.2.2.length<=10^9):uh f=some (C2 f):=by
 unfold uh;rw[pJ (fin:=some (dH f.1 0 281474976710654&&decide ((f.2.2.length:Int)<=8))) (P1 f.2.2) f.2.2.length (by omega) (λi nx hi=>?hs) (λnx=>?hf)]
 case hs=>
  simp only[sE]
  rw[jP,aX hi,aj (n:=(i)+1) (by omega) (by omega)]
  simp only[af,ab,cM,P1,fM hi]
  by_cases h0:0<i
  ·have e:ak ((i)-1)=((i-1:Nat)):=by rw[aj (by omega) (by omega)];omega
   have hp:i-1<f.2.2.length:=by omega
   rw[e,aX hp,ax (show(i:Int)>0 by omega),ax h0,fM hp]
   simp only[af,ab,bF]
   cases dH f.2.2[i] 0 4095<;>cases decide (f.2.2[i]<=f.2.2[i-1])<;>rfl
  ·rw[aq (show¬(i:Int)>0 by omega),aq h0]
   cases dH f.2.2[i] 0 4095<;>rfl
 case hf=>
  simp only[sE]
  rw[gq]
  simp only[ae,cM,ab,cw]
  cases dH f.1 0 281474976710654<;>rfl
 unfold C2;cases (range f.2.2.length).all (P1 f.2.2)<;>rfl
theorem OD (f:Filter)(h:f.2.2.length<=10^9):tF f=some (C2 f):=by
 unfold tF;rw[pJ (fin:=some (dH f.1 0 281474976710654&&decide ((f.2.2.length:Int)<=8))) (P1 f.2.2) f.2.2.length (by omega) (λi nx hi=>?hs) (λnx=>?hf)]
 case hs=>
  simp only[rO]
  rw[jP,aX hi,aj (n:=(i)+1) (by omega) (by omega)]
  simp only[af,ab,dh,P1,fM hi]
  by_cases h0:0<i
  ·have e:ak ((i)-1)=((i-1:Nat)):=by rw[aj (by omega) (by omega)];omega
   have hp:i-1<f.2.2.length:=by omega
   rw[e,aX hp,ax (show(i:Int)>0 by omega),ax h0,fM hp]
   simp only[af,ab,bF,ge_iff_le]
   cases dH f.2.2[i] 0 4095<;>cases decide (f.2.2[i]<=f.2.2[i-1])<;>rfl
  ·rw[aq (show¬(i:Int)>0 by omega),aq h0]
   cases dH f.2.2[i] 0 4095<;>rfl
 case hf=>
  simp only[rO]
  rw[gq]
  simp only[ae,dh,ab,cw]
  cases dH f.1 0 281474976710654<;>rfl
 unfold C2;cases (range f.2.2.length).all (P1 f.2.2)<;>rfl
def Es (r:gi):Bool:=(mE r).getD false
theorem Pz (r:gi):mE r=some (Es r):=by simp_all[mE,cM,cw,Es]
theorem aeB (r:gi):Da r=some (Es r):=Pz r
theorem Wg {r:gi}(h:Es r=true):r.2.2.2.2.2.2.2.1=0\/r.2.2.2.2.2.2.2.2=0:=by
 by_cases h0:r.2.2.2.2.2.2.2.1=0;exact .inl h0;by_cases h1:r.2.2.2.2.2.2.2.2=0;exact .inr h1;exfalso;have e0:(r.2.2.2.2.2.2.2.1==0)=false:=by simp[h0]
 have e1:(r.2.2.2.2.2.2.2.2==0)=false:=by simp[h1]
 revert h;unfold Es;simp only[mE,cM,ab,cw,e0,e1,ae,fy];have z:∀c:Bool,(bif c then false else false)=false:=by intro c;cases c<;>rfl
 simp only[z];intro h;cases h
def CF (l:ar gi):Bool:=l.all Es&&decide ((l.length:Int)<=12)
theorem H2 (l:ar gi)(h:l.length<=10^9):xA l=some (CF l):=by unfold xA;rw[rJ (hit:=some false) (fin:=some (decide ((l.length:Int)<=12))) Es l (by omega) (λi hi nx=>?hs) (λnx=>?hf)];all_goals grind[AA,aX,aj,ab,Pz,CF]
theorem Ru (l:ar gi)(h:l.length<=10^9):Bb l=some (CF l):=by rw[<-H2 l h];rfl
theorem apN (x:Int):((BitVec.ofInt 64 x&&&BitVec.ofInt 64 7).toNat:Int)=x%8:=by
 have h7:(BitVec.ofInt 64 7).toNat=2^3-1:=by decide
 rw[BitVec.toNat_and,h7,Nat.and_two_pow_sub_one_eq_mod];grind[BitVec.toNat_ofInt]
theorem aiL (x:Int):((fR x&&&fR 7).toNat:Int)=x%8:=apN x
theorem agF (x:Int):iJ x 8=some (x%8):=by grind[iJ,aj]
def Is (f:gh):Int:=(f.1%8+f.2.1%8+f.2.2.1%8+f.2.2.2.1%8+f.2.2.2.2%8)%8
theorem Vk (f:gh):0<=Is f/\Is f<8:=by unfold Is;omega
theorem ahA {n:Int}(h:0<=n):tmod n 8=n%8:=eP h
theorem afr (f:gh):zh f=some (Is f):=by
 unfold zh;generalize hL:[f.1,f.2.1,f.2.2.1,f.2.2.2.1,f.2.2.2.2]=L;have hlen:L.length=5:=by rw[<-hL];rfl
 have xV:=cS;have key:=BG (T:=nW (λ(y2) (y3)=>if 8=0 then none else(some (tmod y2 8))) L) L (λ(s) i=>(s,(i))) (λx s k=>k (ak (s+ak (x%8)))) (λs=>some (tmod s 8)) (λi hi s nx=>by simp only[nW];rw[jP,aX hi,aj (by omega) (by omega)];grind[ab,aiL]) (λs nx=>by grind[nW]) fuel 0 0 (by omega) (by omega);refine key.trans ?_;rw[<-hL];simp(disch:=omega)[zF,aj,ahA,Is]
theorem aet (f:gh):yC f=some (Is f):=by
 unfold yC;generalize hL:[f.1,f.2.1,f.2.2.1,f.2.2.2.1,f.2.2.2.2]=L;have hlen:L.length=5:=by rw[<-hL];rfl
 have xV:=cS;have key:=BG (T:=nC (λ(y2) (y3)=>if 8=0 then none else(some (tmod y2 8))) L (L.length)) L (λ(s) i=>(s,(i))) (λx s k=>k (ak (s+(x%8)))) (λs=>some (tmod s 8)) (λi hi s nx=>by grind[nC,aX,aj,ab,agF]) (λs nx=>by grind[nC]) fuel 0 0 (by omega) (by omega);refine key.trans ?_;rw[<-hL];simp(disch:=omega)[zF,aj,ahA,Is]
def gb (t:ar Slot)(i:Nat):Slot:=t.getD i (0,(0,0,0,0,0),0)
theorem yj {t:ar Slot}{i:Nat}(h:i<t.length):gb t i=t[i]:=fM h _
def lF (f:gh)(k:Nat):Nat:=((Is f).toNat+k)%8
theorem K0 (f:gh)(k:Nat):lF f k<8:=Nat.mod_lt _ (by omega)
theorem W2 (f:gh)(k:Nat)(h:k<8):tmod (ak (Is f+(k:Int))) 8=(lF f k:Int):=by have:=Vk f;grind[aj,lF]
def pG (s:Slot)(f:gh):Bool:=(s.1==1)&&decide (s.2.1=f)
theorem SY (p q:gh):((p.1==q.1)&&((p.2.1==q.2.1)&&((p.2.2.1==q.2.2.1)&&((p.2.2.2.1==q.2.2.2.1)&&((p.2.2.2.2==q.2.2.2.2)&&true)))))=decide (p=q):=by grind
def walk (t:ar Slot)(f:gh):Nat->Nat->Int
 |0,_=> -1
 |n+1,k=>if(gb t (lF f k)).1=0 then-1 else if pG (gb t (lF f k)) f then(lF f k:Int) else walk t f n (k+1)
theorem Wv (t:ar Slot)(f:gh)(ht:t.length=8):Br t f=some (walk t f 8 0):=by
 have xV:=cS
 have key:=HQ (T:=vc (λ(y6)=>some (-1)) (λ(y7) (y8)=>some y7) 0 t f) 8 (λ(_) i=>(i))
  (λi s k=>if(gb t (lF f i)).1=0 then some (-1) else if pG (gb t (lF f i)) f then some (lF f i) else k s) (λ_=>some (-1))
  (λi s nx hi=>by
   have hw:lF f i<t.length:=by have:=K0 f i;omega
   simp only[vc,afr];rw[jP,aj (by omega) (by omega)];simp only[af,ab,W2 f i hi,aX hw,yj hw,SY,pG,cw,ab];by_cases h0:t[lF f i].1=0;simp[h0];have e0:(t[lF f i].1==0)=false:=by simp[h0]
   rw[e0,aF h0];cases (t[lF f i].1==1)<;>cases decide (t[lF f i].2.1=f)<;>rfl)
  (λs nx=>by rfl)
  fuel 0 () (by omega) (by omega)
 refine key.trans ?_;have main:∀n i,upK (R:=Int) (λi (s) k=>if(gb t (lF f i)).1=0 then some (-1) else if pG (gb t (lF f i)) f then some (lF f i) else k s) (λ_=>some (-1)) 8 n i ()=some (walk t f n i):=by intro n;induction n with|zero=>intro i;rfl|succ n ih=>intro i;rw[upK,walk];split;rfl;split;rfl;exact ih (i+1)
 exact main 8 0
def Al (f:gh):ar Slot->Int->Int
 |[],_=> -1
 |s::r,i=>if pG s f then i else Al f r (i+1)
theorem VF (t:ar Slot)(f:gh)(h:t.length<=10^9):Db t f=some (Al f t 0):=by
 have xV:=cS;have key:∀n i,i<=t.length->t.length-i<n->aJ (wG (λ(y3)=>some (-1)) (λ(y4) (y5)=>some y4) 0 t ((List.length t)) f) n (i)=some (Al f (t.drop i) i):=by
  intro n;induction n with
  |zero=>intro i _ h;omega
  |succ n ih=>
   intro i hi hn;rw[aJ];simp only[wG];rcases bQ i t.length with gV|BD;rw[jP,aX gV,cl gV,Al,aj (by omega) (by omega)];simp only[af,ab,SY,cw];have e:(bif t[i].1==1 then decide (t[i].2.1=f) else false)=pG t[i] f:=by unfold pG;cases (t[i].1==1)<;>rfl
   rw[e];cases pG t[i] f with|true=>rfl|false=>exact ih (i+1) (by omega) (by omega)
   have:i=t.length:=by omega
   subst this;rw[gq,List.drop_length];rfl
 exact key fuel 0 (by omega) (by omega)
theorem agA (f:gh):Jm f=some ((range 8).map λk=>(lF f k:Int)):=by have xV:=cS;have key:=HQ (T:=yM (λ(y2) (y3)=>some y2) f) 8 (λ(_) i=>((range i).map (λk=>(lF f k)),(i))) (λ_ s k=>k s) (λ_=>some ((range 8).map λk=>(lF f k))) (λi s nx hi=>by grind[yM,aet,aj,ab,W2,aQ,List.range_succ]) (λs nx=>by rfl) fuel 0 () (by omega) (by omega);exact key
def clear (t:ar Slot)(f:gh)(i:Nat):Nat->Nat->Bool
 |0,_=>true
 |n+1,k=>if lF f k=i then true else if(gb t (lF f k)).1=0 then false else clear t f i n (k+1)
theorem abt (k0:Int->aw R)(k1:Bool->Int->aw R)(hit fin:aw R)(h0:∀x,k0 x=fin)(h1:∀x,k1 false x=hit)(v2:Bool)(i:Nat)(Us:ar Slot)(WZ v14:Int)(t:ar Slot)(f:gh)(ht:t.length=8): aJ (nE k0 k1 v2 (i:Int) Us WZ v14 ((range 8).map λk=>(lF f k:Int)) (((range 8).map λk=>(lF f k:Int)).length:Int) t) fuel 0=cond (clear t f i 8 0) fin hit:=by
 have xV:=cS;have hl:((range 8).map λk=>(lF f k:Int)).length=8:=by simp
 have key:=HQ (T:=nE k0 k1 v2 (i) Us WZ v14 ((range 8).map λk=>(lF f k)) (((range 8).map λk=>(lF f k:Int)).length) t) 8 (λ(_) i=>(i))
  (λk s c=>if lF f k=i then fin else if(gb t (lF f k)).1=0 then hit else c s) (λ_=>fin)
  (λk s nx hk=>by
   have hw:lF f k<t.length:=by have:=K0 f k;omega
   simp only[nE];rw[jP,aX (show k<((range 8).map λk=>(lF f k:Int)).length by omega),aj (by omega) (by omega)];simp only[af,ab,List.getElem_map,List.getElem_range,aX hw,yj hw,h0,h1];by_cases e1:lF f k=i;subst e1;simp;have:((lF f k:Int)==(i))=false:=by simp;omega
   rw[this,aF e1];by_cases e2:t[lF f k].1=0;simp[e2];have:(t[lF f k].1==0)=false:=by simp[e2]
   rw[this,aF e2];rfl)
  (λs nx=>by exact h0 _)
  fuel 0 () (by omega) (by omega)
 refine key.trans ?_;have main:∀n k,upK (λk (s) c=>if lF f k=i then fin else if(gb t (lF f k)).1=0 then hit else c s) (λ_=>fin) 8 n k ()=cond (clear t f i n k) fin hit:=by intro n;induction n with|zero=>intro k;rfl|succ n ih=>intro k;rw[upK,clear];split;rfl;split;rfl;exact ih (k+1)
 exact main 8 0
def U4:gh:=(0,0,0,0,0)
theorem U5 (p:gh):((p.1==0)&&((p.2.1==0)&&((p.2.2.1==0)&&((p.2.2.2.1==0)&&((p.2.2.2.2==0)&&true)))))=decide (p=U4):=SY p U4
def R9 (s:Slot):Bool:=dH s.1 0 2&&dH s.2.2 0 3&&((s.1==1)||(s.2.2==0)&&decide (s.2.1=U4))
def nQ (t:ar Slot)(i:Nat):Bool:=R9 (gb t i)&&(!((gb t i).1==1)||(walk t (gb t i).2.1 8 0==(i:Int)))
def vw (t:ar Slot)(i:Nat):Bool:=R9 (gb t i)&&(!((gb t i).1==1)||(Al (gb t i).2.1 t 0==(i:Int))&&clear t (gb t i).2.1 i 8 0)
def xK (t:ar Slot):Bool:=(t.length==8)&&(range 8).all (nQ t)
theorem Sf (t:ar Slot):xB t=some (xK t):=by
 unfold xB xK;by_cases ht:t.length=8
 ·have e:((t.length:Int) !=8)=false:=by rw[ht];rfl
  have e2:(t.length==8)=true:=by rw[ht];rfl
  rw[e,e2];rw[pJ (nQ t) 8 (by omega) (λi nx hi=>?hs) (λnx=>?hf)]
  case hs=>
   have hl:i<t.length:=by omega
   simp only[uX]
   rw[jP,aX hl,aj (by omega) (by omega)]
   simp only[af,ab,cM,cw,U5,Wv t _ ht,nQ,yj hl,R9,bne]
   cases dH t[i].1 0 2<;>cases dH t[i].2.2 0 3<;>cases (t[i].1==1)<;>cases (t[i].2.2==0)<;>cases decide (t[i].2.1=U4)<;>first|rfl|(cases (walk t t[i].2.1 8 0==(i))<;>rfl)
  case hf=>
   simp only[uX]
   rw[gq];rfl
  cases (range 8).all (nQ t)<;>rfl
 have e:((t.length:Int) !=8)=true:=by simp;omega
 have e2:(t.length==8)=false:=by simp[ht]
 rw[e,e2];rfl
theorem Yo (t:ar Slot):sc t=some ((t.length==8)&&(range 8).all (vw t)):=by
 unfold sc;by_cases ht:t.length=8
 ·have e:((t.length:Int) !=8)=false:=by rw[ht];rfl
  have e2:(t.length==8)=true:=by rw[ht];rfl
  rw[e,e2];rw[pJ (vw t) 8 (by omega) (λi nx hi=>?hs) (λnx=>?hf)]
  case hs=>
   have hl:i<t.length:=by omega
   simp only[uC]
   rw[jP,aX hl,aj (by omega) (by omega)]
   simp only[af,ab,dh,cw,U5,VF t _ (show t.length<=10^9 by omega),agA,vw,yj hl,R9,bne]
   rw[abt (λ_=>nx ((i)+1)) (λ(y) (_)=>some y) (some false) (nx ((i)+1)) (λ_=>rfl) (λ_=>rfl) _ _ _ _ _ _ _ ht]
   cases dH t[i].1 0 2<;>cases dH t[i].2.2 0 3<;>cases (t[i].1==1)<;>cases (t[i].2.2==0)<;>cases decide (t[i].2.1=U4)<;>first|rfl|(cases (Al t[i].2.1 t 0==(i))<;>first|rfl|(cases clear t t[i].2.1 i 8 0<;>rfl))
  case hf=>
   simp only[uC]
   rw[gq];rfl
  cases (range 8).all (vw t)<;>rfl
 have e:((t.length:Int) !=8)=true:=by simp;omega
 have e2:(t.length==8)=false:=by simp[ht]
 rw[e,e2];rfl
theorem Ss (t:ar Slot)(f:gh)(i:Nat):∀n k,walk t f n k=(i:Int)->pG (gb t i) f=true/\clear t f i n k=true/\∃j,j<n/\lF f (k+j)=i
 |0,k,h=>by unfold walk at h;omega
 |n+1,k,h=>by
  unfold walk at h;unfold clear;by_cases h0:(gb t (lF f k)).1=0;omega;rw[aF h0]at h;by_cases h1:pG (gb t (lF f k)) f=true;rw[aG h1]at h;have:lF f k=i:=by omega
  subst this;exact⟨h1,by simp,0,by omega,rfl⟩;rw[aF h1]at h;obtain⟨a,b,j,hj,e⟩:=Ss t f i n (k+1) h;refine⟨a,?_,j+1,by omega,by rw[<-e];congr 1;omega⟩;rw[aF h0,b];split<;>rfl
theorem aaM (t:ar Slot)(f:gh)(i:Nat)(hu:pG (gb t i) f=true)(ahx:∀j,j<8->pG (gb t j) f=true->j=i):∀n k,clear t f i n k=true->(∃j,j<n/\lF f (k+j)=i)->walk t f n k=(i:Int)
 |0,k,_,h=>by omega
 |n+1,k,hc,⟨j,hj,e⟩=>by unfold walk;unfold clear at hc;by_cases h1:lF f k=i;rw[h1,aF,aG hu];intro h0;unfold pG at hu;rw[h0]at hu;simp at hu;rw[aF h1]at hc;by_cases h0:(gb t (lF f k)).1=0;rw[aG h0]at hc;cases hc;rw[aF h0]at hc;rw[aF h0,aF (λRm=>h1 (ahx _ (K0 f k) Rm))];refine aaM t f i hu ahx n (k+1) hc ?_;cases j with|zero=>exact absurd e h1|succ j=>exact⟨j,by omega,by rw[<-e];congr 1;omega⟩
theorem ahf (f:gh)(i:Nat)(hi:i<8):∃j,j<8/\lF f (0+j)=i:=by have:=Vk f;refine⟨(i+8-(Is f).toNat)%8,by omega,?_⟩;unfold lF;omega
theorem GM (f:gh):∀(t:ar Slot)(m:Nat),(∃j,j<t.length/\pG (gb t j) f=true)->∃j,j<t.length/\pG (gb t j) f=true/\Al f t m=((m+j:Nat):Int)
 |[],_,h=>by obtain⟨j,hj,_⟩:=h;simp at hj
 |s::r,m,⟨j,hj,e⟩=>by
  unfold Al;by_cases hs:pG s f=true;rw[aG hs];exact⟨0,by simp,by simpa[gb]using hs,by simp⟩;rw[aF hs];cases j with
  |zero=>exact absurd (by simpa[gb]using e) hs
  |succ j=>
   obtain⟨j',h1,h2,h3⟩:=GM f r (m+1) ⟨j,by simpa using hj,by simpa[gb]using e⟩;refine⟨j'+1,by simpa using h1,by simpa[gb]using h2,?_⟩;have:((m:Int)+1)=((m+1:Nat)):=by omega
   rw[this,h3];congr 1;omega
theorem Zd (t:ar Slot)(ht:t.length=8):(range 8).all (vw t)=(range 8).all (nQ t):=by
 rw[fi,aW,aW];simp only[dx];constructor;intro h i hi;have hI:=h i hi;unfold vw at hI;unfold nQ;simp only[ah,de,aP,bD]at hI⊢;refine⟨hI.1,?_⟩;rcases hI.2 with h1|⟨h1,h2⟩;exact .inl h1;by_cases hu:((gb t i).1==1)=true;right;have Rm:pG (gb t i) (gb t i).2.1=true:=by unfold pG;rw[hu];simp
 refine aaM t _ i Rm (λj hj huj=>?_) 8 0 h2 (ahf _ i hi);have hJ:=h j hj;unfold vw at hJ;unfold pG at huj;simp only[ah,bE]at huj;simp only[ah,de,aP,bD]at hJ;rcases hJ.2 with h3|⟨h3,_⟩;rw[huj.1]at h3;cases h3;rw[huj.2]at h3;omega;exact .inl (by simpa using hu);intro h i hi;have hI:=h i hi;unfold nQ at hI;unfold vw;simp only[ah,de,aP,bD]at hI⊢;refine⟨hI.1,?_⟩;rcases hI.2 with h1|h1;exact .inl h1;right;obtain⟨hu,hc,_⟩:=Ss t _ i 8 0 h1;refine⟨?_,hc⟩;obtain⟨j,hj,huj,e⟩:=GM (gb t i).2.1 t 0 ⟨i,by omega,hu⟩;have hJ:=h j (by omega);unfold nQ at hJ;unfold pG at huj;simp only[ah,bE]at huj;simp only[ah,de,aP,bD]at hJ;rcases hJ.2 with h3|h3;rw[huj.1]at h3;cases h3;rw[huj.2,h1]at h3;have e':Al (gb t i).2.1 t 0=((0+j)):=e;omega
theorem Rz (t:ar Slot):sc t=some (xK t):=by
 rw[Yo,xK];by_cases ht:t.length=8;rw[Zd t ht];have e2:(t.length==8)=false:=by simp[ht]
 rw[e2];rfl
def aax (n:Int):Bool:=(n==1)||(n==2)||(n==4)||(n==8)||(n==16)
theorem Yy (n:Int):Bp n=some (aax n):=by grind[Bp,ab,aax]
def Bw (s:gJ)(q:Int):Bool:=dH q 1 4&&((s.1.length:Int)==16)&&aax s.2.length&&s.2.all λx=>dH x 0 (q-1)
theorem Jt (s:gJ)(q:Int)(h:s.2.length<=10^9):uk s q=some (Bw s q):=by
 unfold uk Bw;simp only[cM,Yy,ab,cw,bne];by_cases hq:dH q 1 4=true
 ·rw[rJ (λx=>dH x 0 (q-1)) s.2 (by omega) (λi hi nx=>?hs) (λnx=>?hf)]
  case hs=>
   rw[bM]at hq
   simp only[sL]
   rw[jP,aX hi,aj (by omega) (by omega),aj (by omega) (by omega)]
   simp only[af,ab,cM];rfl
  case hf=>
   simp only[sL]
   rw[gq];rfl
  rw[hq];cases ((s.1.length:Int)==16)<;>cases aax s.2.length<;>cases s.2.all (λx=>dH x 0 (q-1))<;>rfl
 have hq':dH q 1 4=false:=by simpa using hq
 rw[hq'];rfl
theorem OI (s:gJ)(q:Int)(h:s.2.length<=10^9):yJ s q=some (Bw s q):=by rw[<-Jt s q h];rfl
def iH (s:dW)(q:Int):Bool:=CF s.1&&xK s.2.1&&Bw s.2.2 q&&s.1.all (λr=> !(decide (r.2.2.2.2.2.2.2.2>=q)))&&s.2.1.all (λx=> !(decide (x.2.2>=q)))
theorem KM (s:dW)(q:Int)(h1:s.1.length<=10^9)(h2:s.2.1.length<=10^9)(h3:s.2.2.2.length<=10^9):pE s q=some (iH s q):=by
 unfold pE iH;simp only[H2 _ h1,Sf,Jt _ _ h3,ab,cw];rw[rJ (hit:=some false) (fin:=cond (s.2.1.all (λx=> !(decide (x.2.2>=q)))) (some true) (some false)) (λr:gi=> !(decide (r.2.2.2.2.2.2.2.2>=q))) s.1 (by omega) (λi hi nx=>?hs) (λnx=>?hf)]
 case hs=>
  grind[oY,aX,aj,ab]
 case hf=>
  simp only[oY]
  rw[gq]
  simp only[ae]
  rw[rJ (λx:Slot=> !(decide (x.2.2>=q))) s.2.1 (by omega) (λi hi nx=>?hs) (λnx=>?hf)]
  all_goals grind[vn,aX,aj,ab]
 grind
theorem Kd (s:dW)(q:Int)(h1:s.1.length<=10^9)(h2:s.2.1.length<=10^9)(h3:s.2.2.2.length<=10^9):po s q=some (iH s q):=by
 unfold po iH;simp only[Ru _ h1,Rz,OI _ _ h3,ab,cw];rw[rJ (λr:gi=> !((r.2.2.2.2.2.2.2.1==0)&&decide (r.2.2.2.2.2.2.2.2>=q))) s.1 (by omega) (λi hi nx=>?hs) (λnx=>?hf)]
 case hs=>
  simp only[oI]
  rw[jP,aX hi,aj (by omega) (by omega)]
  simp only[af,ab,Bool.not_not,cw]
  cases (s.1[i].2.2.2.2.2.2.2.1==0)<;>rfl
 case hf=>
  simp only[oI]
  rw[gq]
  simp only[ae]
  rw[rJ (λx:Slot=> !((x.1==1)&&decide (x.2.2>=q))) s.2.1 (by omega) (λi hi nx=>?hs) (λnx=>?hf)]
  case hs=>
   simp only[nh]
   rw[jP,aX hi,aj (by omega) (by omega)]
   simp only[af,ab,Bool.not_not,cw]
   cases (s.2.1[i].1==1)<;>rfl
  case hf=>
   simp only[nh]
   rw[gq];rfl
 cases hr:CF s.1 with
 |false=>rfl
 |true=>
  cases ht:xK s.2.1 with
  |false=>rfl
  |true=>
   cases hs:Bw s.2.2 q with
   |false=>rfl
   |true=>
    have hq:1<=q:=by unfold Bw at hs;simp only[ah,bM]at hs;exact hs.1.1.1.1
    have e1:s.1.all (λr=> !((r.2.2.2.2.2.2.2.1==0)&&decide (r.2.2.2.2.2.2.2.2>=q)))=s.1.all (λr=> !(decide (r.2.2.2.2.2.2.2.2>=q))):=by unfold CF at hr;simp only[ah,aW]at hr;rw[fi,aW,aW];refine forall_congr' λr=>forall_congr' λhm=>?_;rcases Wg (hr.1 r hm)with h0|h0;rw[h0];simp;rw[h0];simp only[aq (show¬(0)>=q by omega),jD]
    have e2:s.2.1.all (λx=> !((x.1==1)&&decide (x.2.2>=q)))=s.2.1.all (λx=> !(decide (x.2.2>=q))):=by unfold xK at ht;simp only[ah,aW,dx,bD]at ht;rw[fi,aW,aW];refine forall_congr' λx=>forall_congr' λhm=>?_;obtain⟨i,hi,rfl⟩:=List.mem_iff_getElem.1 hm;have hsl:=ht.2 i (by omega);unfold nQ R9 at hsl;rw[yj hi]at hsl;simp only[ah,de,bD]at hsl;rcases hsl.1.2 with h0|⟨h0,_⟩;rw[h0];simp;rw[h0];simp only[aq (show¬(0)>=q by omega),jD]
    rw[e1,e2];cases s.1.all (λr=> !(decide (r.2.2.2.2.2.2.2.2>=q)))<;>cases s.2.1.all (λx=> !(decide (x.2.2>=q)))<;>rfl
theorem fQ {n:Nat}(h:n<9223372036854775808):ak (n:Int)=(n:Int):=aj (by omega) (by omega)
theorem K1 {n:Nat}(h:n<4294967296:=by omega):IntKind.wrap .u32 (n:Int)=(n:Int):=by grind[IntKind.wrap,IntKind.bits,IntKind.signed]
theorem kt (b:UInt8):b.toNat<256:=b.toNat_lt
def bW (v:Int):Bytes:=(bO v).getD []
theorem hZ (v:Int):bO v=some (bW v):=by grind[bW,bO,cM,ab]
theorem kY (v:Int):cd v=some (bW v):=hZ v
theorem JB (v:Int):(bW v).length=bif dH v 0 65535 then 2 else 0:=by have h:=hZ v;simp only[bO,cM,ab]at h;cases hb:dH v 0 65535<;>rw[hb]at h<;>(rw[<-cB h];rfl)
theorem bt (v:Int):(bW v).length<=2:=by grind[JB]
def jb (v:Int):Bytes:=(ff v).getD []
theorem mR (v:Int):ff v=some (jb v):=by grind[jb,ff,cM,ab]
theorem B6 (v:Int):gv v=some (jb v):=mR v
theorem P4 (v:Int):(jb v).length=bif dH v 0 4294967295 then 4 else 0:=by have h:=mR v;simp only[ff,cM,ab]at h;cases hb:dH v 0 4294967295<;>rw[hb]at h<;>(rw[<-cB h];rfl)
theorem dF (v:Int):(jb v).length<=4:=by grind[P4]
def bI (s:Bytes)(i:Nat):Nat:=(s.getD i 0).toNat
theorem eY (s:Bytes)(i:Nat):bI s i<256:=kt _
theorem kc {i:Nat}(h:i<s.length:=by omega):∃x,idx s (i:Int)=some x/\x.toNat=bI s i:=⟨s[i],aX h,by rw[bI,fM h]⟩
def fJ (s:Bytes)(a n:Int):Bool:=decide (0<=a/\a+n<=(s.length:Int))
theorem Hm (s:Bytes)(a n:Int)(h:s.length<=10^9)(hn:0<=n):oa s a n=some (fJ s a n):=by
 unfold oa fJ;by_cases h0:0<=a;by_cases h1:a<=(s.length:Int)
 rw[ax (show a>=0 from h0),ax h1,aj (by omega) (by omega)];simp only[af,ab];congr 1;rw[decide_eq_decide];omega;rw[ax (show a>=0 from h0),aq h1,aq (show¬(0<=a/\a+n<=(s.length:Int)) by omega)];rfl;rw[aq (show¬a>=0 from h0),aq (show¬(0<=a/\a+n<=(s.length:Int)) by omega)];rfl
def cx (s:Bytes)(a:Int):Int:=bif fJ s a 2 then((bI s a.toNat*256+bI s (a.toNat+1):Nat):Int) else-1
def fg (s:Bytes)(a:Int):Int:=bif fJ s a 4 then(((bI s a.toNat*256+bI s (a.toNat+1))*65536+(bI s (a.toNat+2)*256+bI s (a.toNat+3)):Nat):Int) else-1
theorem sC (s:Bytes)(a:Int)(h:s.length<=10^9):dR s a=some (cx s a):=by unfold dR cx;rw[Hm s a 2 h (by omega),ab];cases hw:fJ s a 2 with|false=>rfl|true=>simp only[fJ,bE]at hw;obtain⟨n,rfl⟩:=aI hw.1;obtain⟨x,hx,ex⟩:=kc (s:=s) (i:=n);obtain⟨y,hy,ey⟩:=kc (s:=s) (i:=n+1);have hxl:=eY s n;have hyl:=eY s (n+1);rw[aj (n:=(n:Int)+1) (by omega) (by omega),hx,show(n:Int)+1=((n+1:Nat):Int) by omega,hy];simp only[ai,ae,ab,ay,af];rw[mG,ex,ey,fQ (by omega),fQ (by omega)];have e8:rH 8=8:=rfl;rw[e8,aj (n:=((bI s n:Nat):Int)*2^8) (by omega) (by omega),aj (by omega) (by omega)];congr 1;all_goals omega
theorem BJ (s:Bytes)(a:Int)(h:s.length<=10^9):ia s a=some (fg s a):=by
 unfold ia fg;rw[Hm s a 4 h (by omega),ab];cases hw:fJ s a 4 with
 |false=>rfl
 |true=>
  simp only[fJ,bE]at hw;obtain⟨n,rfl⟩:=aI hw.1;have w1:fJ s (n:Int) 2=true:=by grind[fJ]
  have w2:fJ s ((n:Int)+2) 2=true:=by grind[fJ]
  have b0:=eY s n;have b1:=eY s (n+1);have b2:=eY s (n+2);have b3:=eY s (n+3);rw[aj (n:=(n:Int)+2) (by omega) (by omega),sC s _ h,sC s _ h];simp only[ai,ae,ab,af,cx,w1,w2,ay];rw[mG,show((n:Int)+2).toNat=n+2 by omega,show n+2+1=n+3 by omega];have e8:rH 16=16:=rfl;rw[e8,aj (n:=((bI s n*256+bI s (n+1):Nat):Int)*2^16) (by omega) (by omega),aj (by omega) (by omega)];congr 1;all_goals omega
theorem aqz (a b:Nat)(ha:a<9223372036854775808)(hb:b<9223372036854775808):toNat (fR (a:Int)|||fR (b:Int))=a|||b:=by show(BitVec.ofInt 64 (a:Int)|||BitVec.ofInt 64 (b:Int)).toNat=_;grind
theorem ahm (a b:Nat)(ha:a<9223372036854775808:=by omega)(hb:b<9223372036854775808:=by omega):toNat (fR (a:Int)&&&fR (b:Int))=a&&&b:=by show(BitVec.ofInt 64 (a:Int)&&&BitVec.ofInt 64 (b:Int)).toNat=_;grind
theorem aaN (a b:Nat)(ha:a<9223372036854775808)(hb:b<9223372036854775808):toNat (fR (a:Int)^^^fR (b:Int))=a^^^b:=by show(BitVec.ofInt 64 (a:Int)^^^BitVec.ofInt 64 (b:Int)).toNat=_;grind
theorem aiK (a b:Nat)(ha:a<4294967296)(hb:b<4294967296):toNat (BitVec.ofInt (IntKind.bits .u32) (a:Int)&&&BitVec.ofInt (IntKind.bits .u32) (b:Int))=a&&&b:=by show(BitVec.ofInt 32 (a:Int)&&&BitVec.ofInt 32 (b:Int)).toNat=_;grind
theorem ahB (a b:Nat)(ha:a<4294967296)(hb:b<4294967296):toNat (BitVec.ofInt (IntKind.bits .u32) (a:Int)^^^BitVec.ofInt (IntKind.bits .u32) (b:Int))=a^^^b:=by show(BitVec.ofInt 32 (a:Int)^^^BitVec.ofInt 32 (b:Int)).toNat=_;grind
theorem Jq (x k y:Nat)(hy:y<2^k:=by omega)(h:2^k*x+y<9223372036854775808:=by omega):ak (toNat (fR ((2^k*x:Nat):Int)|||fR (y:Int)):Int)=((2^k*x+y:Nat):Int):=by rw[aqz _ _ (by omega) (by omega),<-Nat.two_pow_add_eq_or_of_lt hy];exact fQ h
theorem MG (s:Bytes)(a n:Int):(cond (decide (a<0)) (some true) (some (decide (a>(s.length:Int)-n))))=some (!fJ s a n):=by grind[fJ]
theorem xY (s:Bytes)(a:Int)(h:s.length<=10^9):eX s a=some (cx s a):=by unfold eX cx;rw[aj (n:=(s.length:Int)-2) (by omega) (by omega)];rw[MG,ab];cases hw:fJ s a 2 with|false=>rfl|true=>simp only[fJ,bE]at hw;obtain⟨n,rfl⟩:=aI hw.1;obtain⟨x,hx,ex⟩:=kc (s:=s) (i:=n);obtain⟨y,hy,ey⟩:=kc (s:=s) (i:=n+1);have hxl:=eY s n;have hyl:=eY s (n+1);rw[aj (n:=(n:Int)+1) (by omega) (by omega),hx,show(n:Int)+1=((n+1:Nat):Int) by omega,hy];simp only[ai,ae,af,ab,ay];rw[mG,ex,ey,fQ (n:=bI s n) (by omega),fQ (n:=bI s (n+1)) (by omega)];have e8:rH 8=8:=rfl;rw[e8,show((bI s n:Nat):Int)*2^8=((2^8*bI s n:Nat):Int) by omega,fQ (n:=2^8*bI s n) (by omega),Jq (bI s n) 8 (bI s (n+1))];congr 1;all_goals omega
theorem BE (s:Bytes)(a:Int)(h:s.length<=10^9):iz s a=some (fg s a):=by
 unfold iz fg;rw[aj (n:=(s.length:Int)-4) (by omega) (by omega)];rw[MG,ab];cases hw:fJ s a 4 with
 |false=>rfl
 |true=>
  simp only[fJ,bE]at hw;obtain⟨n,rfl⟩:=aI hw.1;obtain⟨x0,h0,e0⟩:=kc (s:=s) (i:=n);obtain⟨x1,h1,e1⟩:=kc (s:=s) (i:=n+1);obtain⟨x2,h2,e2⟩:=kc (s:=s) (i:=n+2);obtain⟨x3,h3,e3⟩:=kc (s:=s) (i:=n+3);have b0:=eY s n;have b1:=eY s (n+1);have b2:=eY s (n+2);have b3:=eY s (n+3)
  rw[aj (n:=(n:Int)+1) (by omega) (by omega),aj (n:=(n:Int)+2) (by omega) (by omega),aj (n:=(n:Int)+3) (by omega) (by omega),h0,show(n:Int)+1=((n+1:Nat):Int) by omega,h1,
   show(n:Int)+2=((n+2:Nat):Int) by omega,h2,show(n:Int)+3=((n+3:Nat):Int) by omega,h3]
  simp only[ai,ae,af,ab,ay];rw[mG,mG,mG,e0,e1,e2,e3];generalize bI s n=p0 at*;generalize bI s (n+1)=p1 at*;generalize bI s (n+2)=p2 at*;generalize bI s (n+3)=p3 at*;have f24:rH 24=24:=rfl;have f16:rH 16=16:=rfl;have f8:rH 8=8:=rfl
  rw[fQ (n:=p0) (by omega),fQ (n:=p1) (by omega),fQ (n:=p2) (by omega),fQ (n:=p3) (by omega),f24,f16,f8,
   show((p0:Nat):Int)*2^24=((2^24*p0:Nat):Int) by omega,show((p1:Nat):Int)*2^16=((2^16*p1:Nat):Int) by omega,show((p2:Nat):Int)*2^8=((2^8*p2:Nat):Int) by omega,
   fQ (n:=2^24*p0) (by omega),fQ (n:=2^16*p1) (by omega),fQ (n:=2^8*p2) (by omega),Jq p0 24 (2^16*p1),
   show 2^24*p0+2^16*p1=2^16*(2^8*p0+p1) by omega,Jq _ 16 (2^8*p2),
   show 2^16*(2^8*p0+p1)+2^8*p2=2^8*(2^8*(2^8*p0+p1)+p2) by omega,Jq _ 8 p3]
  congr 1;all_goals omega
def I5 (c:Nat):Nat:=if c%2=1 then(c/2)^^^3988292384 else c/2
def vN:Nat->Nat->Nat
 |0,c=>c
 |n+1,c=>I5 (vN n c)
def apO (c:Nat)(s:Bytes):Nat:=s.foldl (λc b=>vN 8 (c^^^b.toNat)) c
def adv (s:Bytes):Int:=4294967295-(apO 4294967295 s:Int)
theorem DV {b:Nat}(ha:a<4294967296)(hb:b<4294967296):a^^^b<4294967296:=Nat.xor_lt_two_pow (n:=32) ha hb
theorem aaX (h:c<4294967296):I5 c<4294967296:=by grind[I5,DV]
theorem JM (h:c<4294967296):∀n,vN n c<4294967296
 |0=>h
 |n+1=>aaX (JM h n)
theorem afo (k0:Int->Int->aw R)(k:Int->aw R)(hk:∀x y,k0 x y=k x)(v0:Bytes)(v4:Int)(c:Nat)(h:c<4294967296):aJ (pV k0 v0 v4) fuel ((c:Int),0)=k (vN 8 c:Int):=by
 have xV:=cS
 have key:=HQ (T:=pV k0 v0 v4) 8 (λ(_:Unit) i=>((vN i c:Int),(i:Int))) (λ_ s nx=>nx s) (λ_=>k (vN 8 c:Int))
  (λi s nx hi=>by
   have hc:=JM h i;simp only[pV];have a1:=ahm (vN i c) 1;have x1:=aaN (vN i c/2) 3988292384 (by omega) (by omega);simp only[cO]at a1
   rw[jP,af,a1,Nat.and_one_is_mod,
    show rH 1=1 from rfl,show fdiv ((vN i c:Nat):Int) (2^1)=((vN i c/2:Nat):Int) from by rw[Int.fdiv_eq_ediv_of_nonneg _ (by omega)];rfl,
    show(3988292384:Int)=((3988292384:Nat):Int) from rfl,x1,
    fQ (n:=vN i c%2) (by omega),fQ (n:=(vN i c/2)^^^3988292384) (by have:=DV (a:=vN i c/2) (b:=3988292384) (by omega) (by omega);omega),mG,mG,aj (n:=(i:Int)+1) (by omega) (by omega)]
   show _=nx ((I5 (vN i c):Int),((i+1:Nat):Int));unfold I5;by_cases hp:vN i c%2=1;rw[hp,aG rfl];rfl;have h0:vN i c%2=0:=by omega
   rw[h0,mG];rfl)
  (λs nx=>by simp only[pV];rw[gq,ae,hk])
  fuel 0 () (by omega) (by omega)
 refine key.trans ?_;rfl
theorem aeq (k0:Int->Int->aw R)(k:Int->aw R)(hk:∀x y,k0 x y=k x)(v0:Bytes)(v4:Int)(c:Nat)(h:c<4294967296):aJ (pN k0 v0 v4) fuel ((c:Int),0)=k (vN 8 c:Int):=by
 have xV:=cS
 have key:=HQ (T:=pN k0 v0 v4) 8 (λ(_:Unit) i=>((vN i c:Int),(i:Int))) (λ_ s nx=>nx s) (λ_=>k (vN 8 c:Int))
  (λi s nx hi=>by
   have hc:=JM h i;simp only[pN];have a1:=aiK (vN i c) 1 (by omega) (by omega);have x1:=ahB (vN i c/2) 3988292384 (by omega) (by omega);simp only[cO]at a1
   rw[jP,af,a1,Nat.and_one_is_mod,
    show min (Int.toNat 1) (IntKind.bits .u32)=1 from rfl,show fdiv ((vN i c:Nat):Int) (2^1)=((vN i c/2:Nat):Int) from by rw[Int.fdiv_eq_ediv_of_nonneg _ (by omega)];rfl,
    show(3988292384:Int)=((3988292384:Nat):Int) from rfl,x1,
    K1 (n:=vN i c%2),K1 (n:=(vN i c/2)^^^3988292384) (DV (by omega) (by omega)),mG,aj (n:=(i:Int)+1) (by omega) (by omega)]
   show _=nx ((I5 (vN i c):Int),((i+1:Nat):Int));unfold I5;by_cases hp:vN i c%2=1;rw[hp,aG rfl];rfl;have h0:vN i c%2=0:=by omega
   rw[h0,mG];rfl)
  (λs nx=>by simp only[pN];rw[gq,ae,hk])
  fuel 0 () (by omega) (by omega)
 refine key.trans ?_;rfl
theorem agS (s:Bytes)(h:s.length<=10^9):FE s=some (adv s):=by
 unfold FE;have:=Et (T:=uf (λ(y4:Int) (_:Int)=>some (ak (4294967295-y4))) s) s (λ(c:Nat) i=>((c:Int),(i:Int))) (λ_ c=>c<4294967296) (λb c=> .ok (vN 8 (c^^^b.toNat))) (λc=>some (4294967295-(c:Int))) (by omega) (λi hi c nx hI=>?hs) (λi hi c c' hI hg=>?hn) (λc nx hI=>?hf) 4294967295 (by omega)
 case hs=>
  have hb:=kt s[i]
  simp only[uf]
  rw[jP,aX hi,af,ab,fQ (n:=s[i].toNat) (by omega),aaN c s[i].toNat (by omega) (by omega)]
  have hx:=DV hI (show s[i].toNat<4294967296 by omega)
  rw[fQ (by omega),afo _ (λy=>nx (y,(i:Int)+1)) (λx y=>by grind[aj]) _ _ _ hx];rfl
 case hn=>
  grind[JM,DV,kt]
 case hf=>
  grind[uf,aj]
 rw[Kx]at this;exact this
theorem not_xor (c:Nat)(h:c<4294967296):toNat (BitVec.ofInt (IntKind.bits .u32) (IntKind.max .u32)^^^BitVec.ofInt (IntKind.bits .u32) (c:Int))=4294967295-c:=by show(BitVec.ofInt 32 4294967295^^^BitVec.ofInt 32 (c:Int)).toNat=_;rw[show BitVec.ofInt 32 4294967295=BitVec.allOnes 32 by decide,BitVec.ofInt_natCast,BitVec.allOnes_xor,BitVec.toNat_not,BitVec.toNat_ofNat,Nat.mod_eq_of_lt (show c<2^32 by omega)]
theorem ags (s:Bytes)(h:s.length<=10^9):EZ s=some (adv s):=by
 unfold EZ;have:=Et (T:=tE (λ(y4:Int) (_:Int)=>some (ak (IntKind.wrap .u32 (toNat (BitVec.ofInt (IntKind.bits .u32) (IntKind.max .u32)^^^BitVec.ofInt (IntKind.bits .u32) y4))))) s) s (λ(c:Nat) i=>((c:Int),(i:Int))) (λ_ c=>c<4294967296) (λb c=> .ok (vN 8 (c^^^b.toNat))) (λc=>some (4294967295-(c:Int))) (by omega) (λi hi c nx hI=>?hs) (λi hi c c' hI hg=>?hn) (λc nx hI=>?hf) 4294967295 (by omega)
 case hs=>
  have hb:=kt s[i]
  simp only[tE]
  rw[jP,aX hi,af,ab,K1 (n:=s[i].toNat),ahB c s[i].toNat (by omega) (by omega)]
  have hx:=DV hI (show s[i].toNat<4294967296 by omega)
  rw[K1 hx,aeq _ (λy=>nx (y,(i:Int)+1)) (λx y=>by grind[aj]) _ _ _ hx];rfl
 case hn=>
  grind[JM,DV,kt]
 case hf=>
  simp only[tE]
  rw[gq,ae,not_xor c hI,K1,fQ (by omega)]
  congr 1
  all_goals omega
 rw[Kx]at this;exact this
def NM (s:Bytes)(i:Nat):Nat:=bI s (i/8)/2^(7-i%8)%2
theorem JH (s:Bytes)(i:Nat):NM s i<2:=Nat.mod_lt _ (by omega)
theorem UE (b k:Nat)(hb:b<256)(hk:k<=7):ak (toNat (fR (ak (fdiv (b:Int) ((2^k:Nat):Int)))&&&fR 1))=((b/2^k%2:Nat):Int):=by have e:fdiv (b:Int) ((2^k:Nat):Int)=((b/2^k:Nat):Int):=(Int.ofNat_fdiv b (2^k)).symm;have h1:b/2^k<=b:=Nat.div_le_self _ _;rw[e,fQ (n:=b/2^k) (by omega)];have:=ahm (b/2^k) 1;grind[fQ]
theorem aab (s:Bytes)(i:Nat)(hi:i/8<s.length:=by omega)(h:s.length<=10^9:=by omega):zK s (i:Int)=some ((NM s i:Nat):Int):=by
 have e1:Int.tdiv (i:Int) 8=((i/8:Nat):Int):=(Int.ofNat_tdiv i 8).symm;have e2:tmod (i:Int) 8=((i%8:Nat):Int):=(Int.ofNat_tmod i 8).symm;unfold zK;rw[mG,e1,aj (n:=((i/8:Nat):Int)) (by omega) (by omega),aX hi,ab,mG,e2,aj (n:=7-((i%8:Nat):Int)) (by omega) (by omega),mG];have e3:(2:Int)^(min (Int.toNat (7-((i%8:Nat):Int))) (IntKind.bits .u8))=((2^(7-i%8):Nat):Int):=by grind[Int.toNat,IntKind.bits]
 grind[UE,kt,NM,bI]
theorem aay (s:Bytes)(i:Nat)(hi:i/8<s.length:=by omega)(h:s.length<=10^9:=by omega):Ac s (i:Int)=some ((NM s i:Nat):Int):=by
 have e1:Int.tdiv (i:Int) 8=((i/8:Nat):Int):=(Int.ofNat_tdiv i 8).symm;have e2:tmod (i:Int) 8=((i%8:Nat):Int):=(Int.ofNat_tmod i 8).symm;have hb:=kt s[i/8];unfold Ac;rw[mG,e1,aj (n:=((i/8:Nat):Int)) (by omega) (by omega),aX hi,ab,mG,e2,aj (n:=7-((i%8:Nat):Int)) (by omega) (by omega),mG,fQ (n:=s[i/8].toNat) (by omega)];have e3:(2:Int)^(min (Int.toNat (7-((i%8:Nat):Int))) (IntKind.bits .i64))=((2^(7-i%8):Nat):Int):=by grind[Int.toNat,IntKind.bits]
 have e4:fdiv ((s[i/8].toNat:Nat):Int) ((2^(7-i%8):Nat):Int)=((s[i/8].toNat/2^(7-i%8):Nat):Int):=(Int.ofNat_fdiv _ _).symm;have h1:s[i/8].toNat/2^(7-i%8)<=s[i/8].toNat:=Nat.div_le_self _ _;have key:=UE s[i/8].toNat (7-i%8) hb (by omega);rw[e4,fQ (n:=s[i/8].toNat/2^(7-i%8)) (by omega)]at key;simp_all[NM,bI]
def ZG (s:Bytes)(a:Nat):Nat->Nat
 |0=>0
 |j+1=>2*ZG s a j+NM s (a+j)
theorem afS (s:Bytes)(a:Nat):∀j,ZG s a j<2^j
 |0=>by simp[ZG]
 |j+1=>by have:=afS s a j;grind[JH,ZG]
theorem P2 (s:Bytes)(a j:Nat)(hj:j<=32):ZG s a j<4294967296:=gO (afS s a j) (Nat.pow_le_pow_right (n:=2) (by omega) hj)
def W3 (s:Bytes)(a:Int):Int:=bif ((s.length:Int) !=16)|| !dH a 0 96 then-1 else((ZG s a.toNat 32:Nat):Int)
theorem agB (s:Bytes)(a:Int):wk s a=some (W3 s a):=by
 unfold wk W3;rw[dh];cases hs:(s.length:Int) !=16;case true=>rfl
 cases ha:dH a 0 96;rfl;have h1:=bM.1 ha;have h2:s.length=16:=by simp at hs;omega
 obtain⟨a,rfl⟩:=aI h1.1;simp only[ae,ab,ai,bU,ay];refine cD (λi=>(((ZG s a i:Nat):Int),((a+i:Nat):Int))) 32 (by omega) (λi nx hi=>?_) (λnx=>?_);have hw:=P2 s a i (by omega);have hb:=JH s (a+i);simp only[ql];rw[aj (n:=(a:Int)+32) (by omega) (by omega),jP,af,mG,aab s (a+i),ab,aj (n:=((a+i:Nat):Int)+1) (by omega) (by omega)];have e1:ak (((ZG s a i:Nat):Int)*2^(rH 1))=((2^1*ZG s a i:Nat):Int):=by have:(2:Int)^(rH 1)=2:=rfl;rw[this,aj (by omega) (by omega)];omega
 rw[e1,Jq _ _ _];rw[show(((a+i:Nat):Int)+1)=((a+(i+1):Nat):Int) by omega];rfl;simp only[ql];rw[aj (n:=(a:Int)+32) (by omega) (by omega),gq];rfl
theorem agY (s:Bytes)(a:Int):xv s a=some (W3 s a):=by
 unfold xv W3;rw[cM];cases hs:(s.length:Int) !=16;case true=>rfl
 cases ha:dH a 0 96;rfl;have h1:=bM.1 ha;have h2:s.length=16:=by simp at hs;omega
 obtain⟨a,rfl⟩:=aI h1.1;simp only[ae,ab,ai,bU,ay];refine cD (λi=>(((ZG s a i:Nat):Int),(i:Int))) 32 (by omega) (λi nx hi=>?_) (λnx=>?_);have hw:=P2 s a i (by omega);have hb:=JH s (a+i);simp only[qC];rw[jP,af,aj (n:=(a:Int)+(i:Int)) (by omega) (by omega),show(a:Int)+(i:Int)=((a+i:Nat):Int) by omega,aay s (a+i),ab,aj (n:=(i:Int)+1) (by omega) (by omega)];rw[aj (n:=2*((ZG s a i:Nat):Int)) (by omega) (by omega),aj (by omega) (by omega),ZG];congr 1;simp only[qC];rw[gq];rfl
def Iq (s v:Bytes):Nat->Nat
 |0=>0
 |i+1=>if NM v i=1 then Iq s v i^^^ZG s i 32 else Iq s v i
theorem Oo (s v:Bytes):∀i,Iq s v i<4294967296
 |0=>by simp[Iq]
 |i+1=>by have:=Oo s v i;grind[Iq,DV,P2]
def C6 (s v:Bytes):Int:=bif ((s.length:Int) !=16)||decide ((v.length:Int)>12) then-1 else((Iq s v (8*v.length):Nat):Int)
theorem aes (s v:Bytes):we s v=some (C6 s v):=by
 unfold we C6;cases hs:(s.length:Int) !=16;case true=>rfl
 cases hv:decide ((v.length:Int)>12);case true=>rfl
 have h2:s.length=16:=by simp at hs;omega
 have h3:v.length<=12:=by simp at hv;omega
 simp only[ae,ab,bU];refine cD (λi=>(((Iq s v i:Nat):Int),(i:Int))) (8*v.length) (by omega) (λi nx hi=>?_) (λnx=>?_);have hw:=P2 s i 32 (by omega);have hh:=Oo s v i;have hb:=JH v i;have eW:W3 s (i:Int)=((ZG s i 32:Nat):Int):=by unfold W3;rw[hs,bM.2 (show(0:Int)<=(i:Int)/\(i:Int)<=96 by omega)];rfl
 simp only[qg];rw[aj (n:=8*(v.length:Int)) (by omega) (by omega),jP,af,aab v i,ab,agB,ab,eW,aaN _ _ (by omega) (by omega),aj (n:=(i:Int)+1) (by omega) (by omega),fQ (Nat.lt_trans (DV hh hw) (by omega)),Iq];by_cases h1:NM v i=1;rw[h1,aG rfl];rfl;rw[aF h1,show(((NM v i:Nat):Int)==1)=false from by simp;omega];rfl;simp only[qg];rw[aj (n:=8*(v.length:Int)) (by omega) (by omega),gq];rfl
theorem afq (s v:Bytes):xp s v=some (C6 s v):=by
 unfold xp C6;cases hs:(s.length:Int) !=16;case true=>rfl
 cases hv:decide ((v.length:Int)>12);case true=>rfl
 have h2:s.length=16:=by simp at hs;omega
 have h3:v.length<=12:=by simp at hv;omega
 simp only[ae,ab,bU];refine cD (λi=>(((Iq s v i:Nat):Int),(i:Int))) (8*v.length) (by omega) (λi nx hi=>?_) (λnx=>?_);have hw:=P2 s i 32 (by omega);have hh:=Oo s v i;have hb:=JH v i;have eW:W3 s (i:Int)=((ZG s i 32:Nat):Int):=by unfold W3;rw[hs,bM.2 (show(0:Int)<=(i:Int)/\(i:Int)<=96 by omega)];rfl
 simp only[qy];rw[aj (n:=8*(v.length:Int)) (by omega) (by omega),jP,af,aay v i,ab,agY,ab,eW,aaN _ _ (by omega) (by omega),aj (n:=(i:Int)+1) (by omega) (by omega),fQ (Nat.lt_trans (DV hh hw) (by omega)),Iq];by_cases h1:NM v i=1;rw[h1,aG rfl];rfl;rw[aF h1,show(((NM v i:Nat):Int)==1)=false from by simp;omega];rfl;simp only[qy];rw[aj (n:=8*(v.length:Int)) (by omega) (by omega),gq];rfl
def Ao (f:FW):Bytes:=((jb f.2.1++jb f.2.2.1)++bW f.2.2.2.1)++bW f.2.2.2.2
theorem Yj (f:FW):wg f=some (Ao f):=by have:=dF f.2.1;have:=dF f.2.2.1;have:=bt f.2.2.2.1;have:=bt f.2.2.2.2;simp only[wg,B6,kY,ab];rw[aQ (by omega),aQ (by grind),aQ (by grind)];rfl
theorem Zl (f:FW):xq f=some (Ao f):=by have:=dF f.2.1;have:=dF f.2.2.1;have:=bt f.2.2.2.1;have:=bt f.2.2.2.2;simp only[xq,mR,hZ,ab];rw[aQ (by omega),aQ (by grind),aQ (by grind)];rfl
theorem J7 (s:Bytes)(f:FW):tG s f=some (C6 s (Ao f)):=by grind[tG,Yj,aes,ab]
theorem KH (s:Bytes)(f:FW):ui s f=some (C6 s (Ao f)):=by grind[ui,Zl,afq,ab]
def DE (s:gJ)(f:FW):Int:=bif ((s.2.length:Int)==0)||decide (C6 s.1 (Ao f)<0) then-1 else tmod (C6 s.1 (Ao f)) (s.2.length:Int)
theorem abv (s:gJ)(f:FW):AY s f=some (DE s f):=by grind[AY,DE,J7,ab]
theorem acH (s:gJ)(f:FW):Bm s f=some (DE s f):=by grind[Bm,DE,KH,ab]
theorem Lb (s:gJ)(f:FW)(h:¬DE s f<0):∃n:Nat,DE s f=(n:Int)/\n<s.2.length:=by
 unfold DE at h⊢;cases hc:((s.2.length:Int)==0)||decide (C6 s.1 (Ao f)<0)with
 |true=>grind
 |false=>
  rw[hc]at h;simp only[dB,cC,eI]at hc;simp only[ae]at h⊢;have h1:0<=C6 s.1 (Ao f):=by omega
  rw[eP h1]at h⊢;have:=ga (C6 s.1 (Ao f)) (show(0:Int)<s.2.length by omega);grind[aI]
def H6 (s:gJ)(q:Int)(f:FW):Int:=bif !Bw s q||decide (DE s f<0) then-1 else s.2.getD (DE s f).toNat 0
theorem VG (s:gJ)(q:Int)(f:FW)(h:s.2.length<=10^9):rX s q f=some (H6 s q f):=by unfold rX H6;grind[abv,ab,OI,Lb,of_decide_eq_false,aX]
theorem WC (s:gJ)(q:Int)(f:FW)(h:s.2.length<=10^9):sM s q f=some (H6 s q f):=by unfold sM H6;grind[acH,ab,Jt,Lb,of_decide_eq_false,aX]
theorem Sr (t:ar Slot)(f:FW)(h:∀j,j<8->pG (gb t j) f=false):∀n k,walk t f n k= -1
 |0,_=>rfl
 |n+1,k=>by unfold walk;rw[h _ (K0 f k),Sr t f h n (k+1)];split<;>rfl
theorem L6 (f:FW):∀(t:ar Slot)(m:Int),(∀s∈t,pG s f=false)->Al f t m= -1
 |[],_,_=>rfl
 |s::r,m,h=>by unfold Al;rw[h s (by simp)];exact L6 f r (m+1) (λx hx=>h x (by simp[hx]))
theorem XV (t:ar Slot)(f:FW)(h:xK t=true):Al f t 0=walk t f 8 0:=by simp only[xK,ah,bD,aW,dx]at h;obtain⟨h8,hs⟩:=h;by_cases hex:∃j,j<t.length/\pG (gb t j) f=true;obtain⟨j,hj,hu,e⟩:=GM f t 0 hex;have:=hs j (by omega);simp only[nQ,ah,de,aP,bD]at this;simp only[pG,ah,bD,bE]at hu;rcases this.2 with g|g;rw[hu.1]at g;simp at g;rw[hu.2]at g;rw[show((0:Int))=((0:Nat):Int) from rfl,e,g];omega;have hn:∀j,j<t.length->pG (gb t j) f=false:=λj hj=>Bool.eq_false_iff.2 λhu=>hex ⟨j,hj,hu⟩;rw[Sr t f (λj hj=>hn j (by omega)),L6];intro s uv;obtain⟨j,hj,rfl⟩:=List.getElem_of_mem uv;have:=hn j hj;rwa[yj hj]at this
def findF (t:ar Slot)(f:FW):Int:=bif xK t then walk t f 8 0 else-1
theorem Th (t:ar Slot)(f:FW)(h:t.length<=10^9):yz t f=some (findF t f):=by grind[yz,findF,Rz,ab,VF,XV]
theorem TZ (t:ar Slot)(f:FW):zd t f=some (findF t f):=by grind[zd,findF,Sf,ab,xK,Wv]
theorem aaL (t:ar Slot)(f:FW):∀n k,walk t f n k= -1\/∃m:Nat,walk t f n k=(m:Int)/\m<8
 |0,_=> .inl rfl
 |n+1,k=>by unfold walk;split;exact .inl rfl;split;exact .inr ⟨_,rfl,K0 f k⟩;exact aaL t f n (k+1)
theorem N9 (t:ar Slot)(f:FW)(h:findF t f>=0):∃m:Nat,findF t f=(m:Int)/\m<t.length:=by
 unfold findF at h⊢;cases ht:xK t with
 |false=>grind
 |true=>
  rw[ht]at h;simp only[af]at h⊢;have h8:t.length=8:=by grind[xK]
  rcases aaL t f 8 0 with g|⟨m,g,hm⟩;all_goals grind
def gN (m:br):Bool:=m.all (λx=>(x.length:Int)==128)&&decide ((m.length:Int)<=64)
theorem Fz (m:br)(h:m.length<=10^9):pW m=some (gN m):=by
 unfold pW gN;rw[rJ (fin:=some (decide ((m.length:Int)<=64))) (λx:Bytes=>(x.length:Int)==128) m (by omega) (λi hi nx=>?hs) (λnx=>?hf)]
 case hs=>
  simp only[sI]
  rw[jP,aX hi,aj (by omega) (by omega)];rfl
 all_goals grind[sI]
theorem Jk (m:br)(h:m.length<=10^9):tH m=some (gN m):=Fz m h
def Tt:aA:=(0,0,0,false)
def Lu (m:aA):Bool:=dH m.1 0 7&&(dH m.2.1 0 1023&&dH m.2.2.1 0 63)
def vE (d p:Int)(m:aA):Bool:=(m.1==d)&&(m.2.1==p)
def Tr (l:ar aA)(i:Nat):Bool:=Lu (l.getD i Tt)&&(range i).all (λj=> !(vE (l.getD i Tt).1 (l.getD i Tt).2.1 (l.getD j Tt)))
def fG (l:ar aA):Bool:=decide ((l.length:Int)<=96)&&(range l.length).all (Tr l)
theorem KI (l:ar aA)(h:l.length<=10^9):pB l=some (fG l):=by
 unfold pB fG;rw[pJ (hit:=some false) (fin:=some true) (Tr l) l.length (by omega) (λi nx hi=>?hs) (λnx=>?hf)]
 case hs=>
  simp only[oS]
  rw[jP,aX hi,aj (by omega) (by omega)]
  simp only[af,ab,cM,cw]
  rw[pJ (hit:=some false) (fin:=nx ((i)+1)) (λj=> !(vE l[i].1 l[i].2.1 (l.getD j Tt))) i (by omega) (λj nx hj=>?hs2) (λnx=>?HM)]
  case hs2=>
   grind[np,aX,aj,ab,vE]
  all_goals grind[np,Tr,Lu]
 all_goals grind[oS]
def V2 (l:ar aA)(d p:Int):Int:=match l.findIdx? (vE d p)with|some i=>(i:Int)|none=> -1
theorem Vz (l:ar aA)(d p:Int)(h:l.length<=10^9):nH l d p=some (V2 l d p):=by unfold nH V2;rw[HF (hit:=λi=>some i) (fin:=some (-1)) (vE d p) l (by omega) (λi hi nx=>?hs) (λnx=>?hf)];all_goals grind[tj,aX,aj,ab,vE]
theorem YU (l:ar aA)(i:Nat)(hi:i<l.length):(V2 l l[i].1 l[i].2.1==(i:Int))=(range i).all (λj=> !(vE l[i].1 l[i].2.1 (l.getD j Tt))):=by
 have C8:vE l[i].1 l[i].2.1 l[i]=true:=by simp[vE]
 unfold V2;cases hq:l.findIdx? (vE l[i].1 l[i].2.1)with
 |none=>rw[List.findIdx?_eq_none_iff]at hq;rw[hq l[i] (bh hi)]at C8;cases C8
 |some k=>
  rw[List.findIdx?_eq_some_iff_getElem]at hq;obtain⟨hk,hpk,gV⟩:=hq;rw[fi,aW];simp only[dx,bD,aP];constructor;intro e j hj;have hjl:j<l.length:=by omega
  rw[fM hjl];have:=gV j (by omega);simpa using this;intro Gt;rcases Nat.lt_trichotomy k i with hki|hki|hki;have:=Gt k hki;rw[fM hk,hpk]at this;cases this;omega;have:=gV i hki;rw[C8]at this;simp at this
theorem J8 (l:ar aA)(h:l.length<=10^9):pj l=some (fG l):=by
 unfold pj fG;rw[pJ (hit:=some false) (fin:=some (decide ((l.length:Int)<=96))) (Tr l) l.length (by omega) (λi nx hi=>?hs) (λnx=>?hf)]
 case hs=>
  simp only[oD]
  rw[jP,aX hi,aj (by omega) (by omega)]
  grind[ab,dh,Vz,YU,Tr,Lu,dH]
 all_goals grind[oD]
def L8 (n:Int)(l:eF)(i:Nat):Bool:=dH (l.getD i 0) 0 (n-1)&& !((l.take i).contains (l.getD i 0))
def gn (p:cj):Bool:=dH p.1 0 130944&&(dH p.2.1 1 512&&(dH p.2.2.1 0 16&&(range p.2.2.2.length).all (L8 p.2.2.1 p.2.2.2)))
def Gn (n:Int)(l:eF):ar Bool:=(range n.toNat).map λk:Nat=>l.contains (k:Int)
theorem R4 (n:Int)(l:eF):(Gn n l).length=n.toNat:=by simp[Gn]
theorem HW (n:Int)(l:eF)(k:Nat)(h:k<(Gn n l).length):(Gn n l)[k]=l.contains (k:Int):=by simp[Gn]
theorem acB (n:Int)(l:eF)(k:Nat)(h:k<n.toNat):(Gn n l).set k true=Gn n (l++[(k:Int)]):=by
 apply List.ext_getElem;simp[Gn];intro j h1 h2;rw[List.getElem_set];split;rename_i e;subst e;rw[HW];simp;rename_i e;rw[HW,HW];simp only[List.contains_append];have:([(k:Int)].contains (j))=false:=by simp;omega
 rw[this];simp
theorem V5 {T:(ar Bool×Int->aw Bool)->ar Bool×Int->aw Bool}(n:Int)(l:eF)(hl:l.length<=10^9)
 (hs:∀i (hi:i<l.length)(s:ar Bool) nx,T nx (s,(i:Int))=aa (cond (!(dH l[i] 0 (n-1))) (some true) (aa (idx s l[i]) λx=>some x)) λq=>
  cond q (some false) (aa (idx s l[i]) λ_=>aa (idx s l[i]) λ_=>nx (s.set l[i].toNat true,((i+1:Nat):Int)))) (hf:∀s nx,T nx (s,(l.length:Int))=some true):
 aJ T fuel (List.replicate n.toNat false,0)=some ((range l.length).all (L8 n l)):=by
 have e0:(List.replicate n.toNat false,(0))=(Gn n (l.take 0),((0:Nat):Int)):=by congr 1;simp only[Gn,List.take_zero,List.contains_nil,List.map_const',List.length_range]
 rw[e0,K6 (λi=>(Gn n (l.take i),(i:Int))) (L8 n l) l.length (by omega) (λi nx hi hp=>?hs) (λ_ nx=>hf _ nx)]
 case hs=>
  rw[hs i hi]
  unfold L8
  rw[fM hi]
  by_cases uu:dH l[i] 0 (n-1)=true
  ·have hb:=uu
   rw[bM]at hb
   obtain⟨k,hk⟩:∃k:Nat,l[i]=(k):=⟨l[i].toNat,by omega⟩
   have hkn:k<(Gn n (l.take i)).length:=by rw[R4];omega
   rw[uu,hk,aX hkn,HW]
   simp only[ai,ae,ab,bF,Bool.not_not,ay]
   rw[acB _ _ _ (by rw[R4]at hkn;exact hkn),<-hk,<-bj hi]
  ·have aea:dH l[i] 0 (n-1)=false:=by simpa using uu
   rw[aea];rfl
 cases (range l.length).all (L8 n l)<;>rfl
theorem ue (p:cj)(h:p.2.2.2.length<=10^9):iM p=some (gn p):=by
 unfold iM gn;simp only[cM,ab,cw];by_cases hn:dH p.2.2.1 0 16=true
 ·have hb:=hn;rw[bM]at hb;rw[zip,aQ (by omega),V5 p.2.2.1 p.2.2.2 h (λi hi s nx=>?hs) (λs nx=>?hf)]
  case hs=>
   simp only[xx]
   rw[jP,aX hi,aj (by omega) (by omega),aj (by omega) (by omega)]
   simp only[af,ab,cM];rfl
  case hf=>
   simp only[xx]
   rw[gq];rfl
  rw[hn];cases dH p.1 0 130944<;>cases dH p.2.1 1 512<;>rfl
 have BZ:dH p.2.2.1 0 16=false:=by simpa using hn
 rw[BZ];cases dH p.1 0 130944<;>cases dH p.2.1 1 512<;>rfl
theorem vY (p:cj)(h:p.2.2.2.length<=10^9):iI p=some (gn p):=by
 unfold iI gn;simp only[dh,ab,cw];by_cases hn:dH p.2.2.1 0 16=true
 ·have hb:=hn;rw[bM]at hb;rw[zip,aQ (by omega),V5 p.2.2.1 p.2.2.2 h (λi hi s nx=>?hs) (λs nx=>?hf)]
  case hs=>
   simp only[wu]
   rw[jP,aX hi,aj (by omega) (by omega),aj (by omega) (by omega)]
   simp only[af,ab,dh];rfl
  case hf=>
   simp only[wu]
   rw[gq];rfl
  rw[hn];cases dH p.1 0 130944<;>cases dH p.2.1 1 512<;>rfl
 have BZ:dH p.2.2.1 0 16=false:=by simpa using hn
 rw[BZ];cases dH p.1 0 130944<;>cases dH p.2.1 1 512<;>rfl
def kS (n:Int):Bool:=(n==2)||((n==4)||((n==8)||(n==16)))
theorem E4 (n:Int):sU n=some (kS n):=by grind[sU,ab,kS]
theorem Hf (n:Int):tM n=some (kS n):=E4 n
theorem mP {n:Int}:kS n=true↔n=2\/n=4\/n=8\/n=16:=by simp[kS]
theorem Ey (x:Int)(k:Nat)(hk:k<=64:=by omega):ak x%(2^k:Int)=x%(2^k:Int):=by
 obtain⟨c,hc⟩:∃c:Int,(18446744073709551616)=2^k*c:=⟨2^(64-k),by rw[<-Int.pow_add,show k+(64-k)=64 by omega];rfl⟩
 have:ak x=x\/∃q:Int,ak x=x+18446744073709551616*q:=by right;simp only[ak,gw,IntKind.wrap,IntKind.bits,IntKind.signed];simp;split;exact⟨-(x/18446744073709551616)-1,by omega⟩;exact⟨-(x/18446744073709551616),by omega⟩
 rcases this with h|⟨q,h⟩;all_goals simp_all[Int.mul_assoc]
theorem D1 (x:Int)(k:Nat)(hk:k<63:=by omega):((fR x&&&fR (2^k-1)).toNat:Int)=x%2^k:=by
 have h2:(2)^k<=2^62:=by have:(2)^k<=2^62:=Nat.pow_le_pow_right (by omega) (by omega);exact_mod_cast this
 have hm:(fR (2^k-1)).toNat=2^k-1:=by show(BitVec.ofInt 64 (2^k-1)).toNat=2^k-1;grind
 rw[BitVec.toNat_and,hm,Nat.and_two_pow_sub_one_eq_mod];have hx:0<=x%18446744073709551616:=by omega
 have e:(((x%18446744073709551616).toNat%2^k))=(x%18446744073709551616)%2^k:=by push_cast;rw[Int.toNat_of_nonneg hx]
 refine e.trans ?_;exact Int.emod_emod_of_dvd x ⟨2^(64-k),by rw[<-Int.pow_add,show k+(64-k)=64 by omega];rfl⟩
theorem Ly (x n:Int)(h0:0<n:=by omega)(h1:n<=4611686018427387904:=by omega):iJ x n=some (x%n):=by unfold iJ;have:=Int.emod_nonneg x (show n≠0 by omega);grind[ga,aj]
def cY (r:kU):Int:=if kS r.2.1 then(r.2.2.2-r.2.2.1)%(2*r.2.1) else 0
theorem CI (r:kU):ji r=some (cY r):=by
 unfold ji cY;rw[E4,ab];cases hs:kS r.2.1 with
 |false=>rfl
 |true=>
  congr 1;rcases mP.1 hs with h|h|h|h<;>rw[h];have e:ak (ak (2*2)-1)=2^2-1:=by decide
  rw[e,D1 _ 2,Ey _ 2,aj (by omega) (by omega)];rfl;have e:ak (ak (2*4)-1)=2^3-1:=by decide
  rw[e,D1 _ 3,Ey _ 3,aj (by omega) (by omega)];rfl;have e:ak (ak (2*8)-1)=2^4-1:=by decide
  rw[e,D1 _ 4,Ey _ 4,aj (by omega) (by omega)];rfl;have e:ak (ak (2*16)-1)=2^5-1:=by decide
  rw[e,D1 _ 5,Ey _ 5,aj (by omega) (by omega)];rfl
theorem B4 (r:kU):jg r=some (cY r):=by unfold jg cY;rw[Hf,ab];cases hs:kS r.2.1 with|false=>rfl|true=>have hb:=mP.1 hs;rw[aj (by omega) (by omega)];simp only[Ly _ (2*r.2.1) (show 0<2*r.2.1 by omega),ab];grind[aj]
def fI (r:kU):Bool:=dH r.1 0 130944&&(kS r.2.1&&(dH r.2.2.1 0 (2*r.2.1-1)&&(dH r.2.2.2 0 (2*r.2.1-1)&&decide (cY r<=r.2.1))))
theorem HX {n:Int}(h:kS n=true):ak (ak (2*n)-1)=2*n-1:=by grind[mP,aj]
theorem Aa (r:kU):jz r=some (fI r):=by unfold jz fI;simp only[cM,E4,CI,ab,cw,cF];grind[kS,HX]
theorem zH (r:kU):jv r=some (fI r):=by unfold jv fI;simp only[dh,Hf,B4,ab,cw,cF];grind[kS,HX]
theorem yb (p:cj)(h:p.2.2.2.length<=10^9):jk p=some p:=by grind[jk,aQ]
theorem om (l:eF)(h:l.length<=10^9):fV l=some l:=by grind[fV,aQ]
theorem vq (p:cj)(h:p.2.2.2.length<=10^9):iw p=some p:=by simp_all[iw,om]
def TJ (p:cj)(l:eF):cj:=(p.1,p.2.1,p.2.2.1,p.2.2.2++l)
def Ok (p:cj)(l:eF):Bool:=gn p&&gn (TJ p l)
def Oj (p:cj)(l:eF):cj×Bool:=bif Ok p l then(TJ p l,true) else(p,false)
theorem Pw (p:cj)(l:eF)(h:p.2.2.2.length+l.length<=10^9):gC p l=some (Oj p l):=by unfold gC;rw[yb p (by omega),ab,aQ (by omega),ue p (by omega)];rw[ue (p.1,p.2.1,p.2.2.1,p.2.2.2++l) (by simp;omega)];show _=some (bif gn p&&gn (p.1,p.2.1,p.2.2.1,p.2.2.2++l) then _ else _);cases gn p<;>cases gn (p.1,p.2.1,p.2.2.1,p.2.2.2++l)<;>rfl
theorem OF (p:cj)(l:eF)(h:p.2.2.2.length+l.length<=10^9):fU p l=some (Oj p l):=by unfold fU;rw[vq p (by omega),ab,aQ (by omega),vY p (by omega)];rw[vY (p.1,p.2.1,p.2.2.1,p.2.2.2++l) (by simp;omega)];show _=some (bif gn p&&gn (p.1,p.2.1,p.2.2.1,p.2.2.2++l) then _ else _);cases gn p<;>cases gn (p.1,p.2.1,p.2.2.1,p.2.2.2++l)<;>rfl
theorem adU (p:cj)(l:eF):(Oj p l).2=Ok p l:=by grind[Oj]
def jK (n:Int)(s:gE):Bool:=dH s.2.1 1 n&&dH s.1 0 65535
def ch (l:ar gE):eF:=l.flatMap (·.2.2)
def ed (l:ar gE):Int:=(l.map (·.2.1)).sum
def PZ (t:bA):Bool:=fI t.1&&(gn t.2.1&&(dH t.2.2.2 0 65535&&(t.2.2.1.all (jK t.1.2.1)&&(Ok t.2.1 (ch t.2.2.1)&&decide (ed t.2.2.1<=t.1.2.1)))))
theorem JL (n:Int):∀l:ar gE,l.all (jK n)=true->0<=ed l
 |[],_=>by simp[ed]
 |x::l,h=>by simp only[bN,ah]at h;have:=JL n l h.2;grind[jK,bM,ed]
theorem Sd (p:cj)(n:Int)(hn:0<=n/\n<=16)(fin:Int×eF->aw Bool)(lD:∀s:Int×eF,p.2.2.2.length+s.2.length<=10^9->fin s=some (Ok p s.2&&decide (s.1<=n))):
 ∀(l:ar gE)(sum:Int)(acc:eF),0<=sum->sum+16*l.length<=100000000000->p.2.2.2.length+(acc.length+(ch l).length)<=10^9->
 zF (λx (s:Int×eF) k=>cond (!(jK n x)) (some false) (room (s.2.length+x.2.2.length) (k (ak (s.1+x.2.1),s.2++x.2.2)))) fin l (sum,acc)
  =some (l.all (jK n)&&(Ok p (acc++ch l)&&decide (sum+ed l<=n)))
 |[],sum,acc,h0,h1,h2=>by simp_all[zF,ch,ed]
 |x::l,sum,acc,h0,h1,h2=>by
  have hb:ch (x::l)=x.2.2++ch l:=by simp[ch]
  rw[hb,au]at h2;rw[zF,bN];cases hx:jK n x with
  |false=>rfl
  |true=>
   have AJ:=hx;unfold jK at AJ;simp only[ah,bM]at AJ;simp only[bC,bz,cO]at h1;simp only[ai,ae,bF];rw[aQ (by omega),aj (by omega) (by omega),Sd p n hn fin lD l _ _ (by omega) (by omega) (by rw[au];omega)];rw[hb,aN];have e:sum+x.2.1+ed l=sum+ed (x::l):=by grind[ed]
   rw[e]
theorem Rv (p:cj)(n:Int)(hn:n<=16)(fin:Int×eF->aw Bool)(lD:∀s:Int×eF,p.2.2.2.length+s.2.length<=10^9->fin s=some (Ok p s.2)):
 ∀(l:ar gE)(left:Int)(acc:eF),0<=left->left<=n->p.2.2.2.length+(acc.length+(ch l).length)<=10^9->
 zF (λx (s:Int×eF) k=>cond (decide (x.2.1<1)||(decide (x.2.1>s.1)|| !(dH x.1 0 65535))) (some false) (room (s.2.length+x.2.2.length) (k (ak (s.1-x.2.1),s.2++x.2.2)))) fin l (left,acc)
  =some (l.all (jK n)&&(Ok p (acc++ch l)&&decide (ed l<=left)))
 |[],left,acc,h0,h1,h2=>by rw[zF,lD _ (by exact h2)];simp[ch,ed,h0]
 |x::l,left,acc,h0,h1,h2=>by
  have hb:ch (x::l)=x.2.2++ch l:=by simp[ch]
  have hc:ed (x::l)=x.2.1+ed l:=by simp only[ed,dZ,List.sum_cons]
  rw[hb,au]at h2;rw[zF,bN,hb,hc];by_cases c1:x.2.1<1;have e:jK n x=false:=by unfold jK dH;rw[aq (show¬1<=x.2.1 by omega)];rfl
  rw[e,ax c1];rfl;rw[aq c1];by_cases c2:x.2.1>left;rw[ax c2];cases ha:l.all (jK n)with|false=>simp|true=>have:=JL n l ha;rw[aq (show¬x.2.1+ed l<=left by omega)];simp
  rw[aq c2];have e:jK n x=dH x.1 0 65535:=by have:dH x.2.1 1 n=true:=bM.2 ⟨by omega,by omega⟩;unfold jK;rw[this];rfl
  rw[e];cases dH x.1 0 65535 with
  |false=>rfl
  |true=>
   simp only[cI,ai,ae,bF];rw[aQ (by omega),aj (by omega) (by omega),Rv p n hn fin lD l _ _ (by omega) (by omega) (by rw[au];omega),aN];have e:decide (ed l<=left-x.2.1)=decide (x.2.1+ed l<=left):=by simp;omega
   rw[e]
theorem Zq (t:bA)(h1:t.2.2.1.length<=10^9)(h2:t.2.1.2.2.2.length+(ch t.2.2.1).length<=10^9):BK t=some (PZ t):=by
 unfold BK PZ;simp only[Aa,ue _ (show t.2.1.2.2.2.length<=10^9 by omega),cM,ab,cw];cases hr:fI t.1 with
 |false=>rfl
 |true=>
  have hn:0<=t.1.2.1/\t.1.2.1<=16:=by grind[fI,mP]
  have xV:=cS;have key:=BG (T:=xD (λ(y9) (vM) (_)=>aa (gC t.2.1 vM) λoe=>some (bif oe.2 then decide (y9<=t.1.2.1) else false)) (λ(EC) (_) (_) (_)=>some EC) false t) t.2.2.1 (λ(s) i=>(s.1,s.2,(i))) (λx (s) k=>cond (!(jK t.1.2.1 x)) (some false) (room (s.2.length+x.2.2.length) (k (ak (s.1+x.2.1),s.2++x.2.2)))) (λs=>aa (gC t.2.1 s.2) λoe=>some (oe.2&&decide (s.1<=t.1.2.1))) (λi hi s nx=>by simp(disch:=omega)[xD,ax,aX,aj,cM,jK]) (λs nx=>by grind[xD]) fuel 0 (0,([])) (by omega) (by omega);rw[fa,Sd t.2.1 t.1.2.1 hn _ (λs hs=>by grind[Pw,ab,adU]) _ _ _ (by omega) (by omega) (by simpa using h2)]at key;grind
theorem Yp (t:bA)(h1:t.2.2.1.length<=10^9)(h2:t.2.1.2.2.2.length+(ch t.2.2.1).length<=10^9):BF t=some (PZ t):=by
 unfold BF PZ;simp only[zH,vY _ (show t.2.1.2.2.2.length<=10^9 by omega),dh,ab,cw];cases hr:fI t.1 with
 |false=>rfl
 |true=>
  have hn:0<=t.1.2.1/\t.1.2.1<=16:=by grind[fI,mP]
  have xV:=cS;have key:=BG (T:=wz (λ(_) (y9) (_)=>aa (fU t.2.1 y9) λtf=>some tf.2) (λ(IV) (_) (_) (_)=>some IV) false t.2.2.1 ((List.length t.2.2.1)) t) t.2.2.1 (λ(s) i=>(s.1,s.2,(i))) (λx (s) k=>cond (decide (x.2.1<1)||(decide (x.2.1>s.1)|| !(dH x.1 0 65535))) (some false) (room (s.2.length+x.2.2.length) (k (ak (s.1-x.2.1),s.2++x.2.2)))) (λs=>aa (fU t.2.1 s.2) λoe=>some oe.2) (λi hi s nx=>by simp(disch:=omega)[wz,ax,aX,aj,dh,cw]) (λs nx=>by grind[wz]) fuel 0 (t.1.2.1,([])) (by omega) (by omega);rw[fa,Rv t.2.1 t.1.2.1 (by omega) _ (λs hs=>by grind[OF,ab,adU]) _ _ _ (by omega) (by omega) (by simpa using h2)]at key;grind
def Ky (s:dD):Bool:=dH s.2.1 0 65535&&(dH s.2.2.1 0 65535&&(!decide ((List.length s.2.2.2.2.2.2.2:Int)>320)&&
 (bif s.1==17 then(s.2.2.2.1==0)&&((s.2.2.2.2.1==0)&&((s.2.2.2.2.2.1==0)&&(s.2.2.2.2.2.2.1==0)))
  else(s.1==6)&&(dH s.2.2.2.1 0 4294967295&&(dH s.2.2.2.2.1 0 4294967295&&(dH s.2.2.2.2.2.1 0 31&&dH s.2.2.2.2.2.2.1 0 65535))))))
theorem aaB (s:dD):rA s=some (Ky s):=by simp_all[rA,cM,cw,Bool.and_assoc,Ky]
theorem aaf (s:dD):qU s=some (Ky s):=by simp only[qU,dh,ab,cw,cF,cT,cN,Bool.not_or,Bool.not_not,Bool.and_assoc,Ky];by_cases h:s.1=17;rw[h];rfl;rw[show(s.1==17)=false from by simpa using h];cases s.1==6<;>rfl
def GN (f:Int):Bool:=(f==16)||(f==17)||(f==24)||(f==25)
theorem Oc (f:Int)(h:dH f 0 31=true):(ak (toNat (fR f&&&~~~ fR 9))==16)=GN f:=by
 have key:∀k:Fin 32,(ak (toNat (fR (k.val:Int)&&&~~~ fR 9))==16)=GN (k.val:Int):=by decide
 rw[bM]at h;have:=key ⟨f.toNat,by omega⟩;grind
theorem Ob (f:Int)(h:dH f 0 31=true):qY f=some (GN f):=by
 have key:∀k:Fin 32,((ak (toNat (fR (k.val:Int)&&&fR 16)) !=0)&&(ak (toNat (fR (k.val:Int)&&&~~~ fR 25))==0))=GN (k.val:Int):=by decide
 rw[bM]at h;have:=key ⟨f.toNat,by omega⟩;rw[show((f.toNat:Nat):Int)=f by omega]at this;grind[qY,ab]
theorem LP {s:dD}(h:Ky s=true)(h6:(s.1==6)=true):dH s.2.2.2.2.2.1 0 31=true:=by grind[Ky]
def Md (p:aS):Bool:=dH p.1 0 281474976710655&&(dH p.2.1 0 281474976710655&&(dH p.2.2.1 (-1) 4095&&(dH p.2.2.2.1 0 255&&(dH p.2.2.2.2.2.1 0 255&&(dH p.2.2.2.2.1 0 65535&&(dH p.2.2.2.2.2.2.1 0 4294967295&&(dH p.2.2.2.2.2.2.2.1 0 4294967295&&Ky p.2.2.2.2.2.2.2.2)))))))
def ej (p:aS):Bool:=Md p&&(decide ((List.length p.2.2.2.2.2.2.2.2.2.2.2.2.2.2.2:Int)<=128)||(p.2.2.2.2.2.2.2.2.1==6)&&GN p.2.2.2.2.2.2.2.2.2.2.2.2.2.1)
theorem Ot (h:Md p=true):Ky p.2.2.2.2.2.2.2.2=true:=by grind[Md]
theorem sD (p:aS):hH p=some (ej p):=by unfold hH ej;simp only[cM,aaB,ab,cw,cF,cT,cN,Bool.not_or,Bool.not_not];rw[show(dH p.1 0 281474976710655&&(dH p.2.1 0 281474976710655&&(dH p.2.2.1 (-1) 4095&&(dH p.2.2.2.1 0 255&&(dH p.2.2.2.2.2.1 0 255&&(dH p.2.2.2.2.1 0 65535&&(dH p.2.2.2.2.2.2.1 0 4294967295&&(dH p.2.2.2.2.2.2.2.1 0 4294967295&&Ky p.2.2.2.2.2.2.2.2))))))))=Md p from rfl];grind[Oc,LP,Ot,Bool.or_comm]
theorem pM (p:aS):gA p=some (ej p):=by unfold gA ej;simp only[dh,aaf,ab];grind[Md,Ob,LP,ab]
def hY (q:Nc):Bool:=dH q.1 0 130944&&(kS q.2.1&&dH q.2.2 0 (ak ((ak (2*q.2.1))-1)))
theorem LV (q:Nc):oV q=some (hY q):=by grind[oV,cM,E4,ab,hY]
theorem Lm (q:Nc):oG q=some (hY q):=by grind[oG,dh,Hf,ab,hY]
def aiv:jY:=((0,0,0,0,0,0,0,0,0,0,0,0,0,0,0,([]:Bytes)),0,0)
def afC (p:jY):Bool:=(p.1.1==0)&&((p.1.2.1==0)&&((p.1.2.2.1==0)&&((p.1.2.2.2.1==0)&&((p.1.2.2.2.2.1==0)&&((p.1.2.2.2.2.2.1==0)&&((p.1.2.2.2.2.2.2.1==0)&&((p.1.2.2.2.2.2.2.2.1==0)&&((p.1.2.2.2.2.2.2.2.2.1==0)&&((p.1.2.2.2.2.2.2.2.2.2.1==0)&&((p.1.2.2.2.2.2.2.2.2.2.2.1==0)&&((p.1.2.2.2.2.2.2.2.2.2.2.2.1==0)&&((p.1.2.2.2.2.2.2.2.2.2.2.2.2.1==0)&&((p.1.2.2.2.2.2.2.2.2.2.2.2.2.2.1==0)&&((p.1.2.2.2.2.2.2.2.2.2.2.2.2.2.2.1==0)&&((p.1.2.2.2.2.2.2.2.2.2.2.2.2.2.2.2==([]:Bytes))&&((p.2.1==0)&&((p.2.2==0)&&true)))))))))))))))))
def Ph (r:bc):Bool:=(fI r.1&&(hY r.2.1&&(hY r.2.2.1&&((r.2.1.1==r.2.2.1.1)&&((r.2.1.2.1==r.2.2.1.2.1)&&dH r.2.2.2.2.2 0 1000000000000)))))&&
 (bif r.2.2.2.2.1 then ej r.2.2.2.1.1&&(dH r.2.2.2.1.2.1 0 320&&dH r.2.2.2.1.2.2 1 320) else afC r.2.2.2.1)
theorem T5 (r:bc):ym r=some (Ph r):=by unfold ym Ph afC;simp_all[Aa,LV,cM,sD,cw,bne]
theorem Tm (r:bc):xZ r=some (Ph r):=by unfold xZ Ph afC;simp_all[zH,Lm,dh,pM,cw,bne]
def ta (v:Vector):Bool:=(jj v).getD false
theorem yk (v:Vector):jj v=some (ta v):=by simp_all[jj,rC,cM,cw,ta]
theorem B5 (v:Vector):mL v=some (ta v):=yk v
theorem LM (l:ar α)(p:α->Bool):(range l.length).all (λi=>l[i]?.all p)=l.all p:=by rw[fi,aW,aW];constructor;intro h x hx;obtain⟨i,hi,rfl⟩:=List.getElem_of_mem hx;have:=h i (dx.2 hi);rwa[al hi]at this;intro h i hi;rw[al (dx.1 hi)];exact h _ (bh _)
theorem ZN (l:ar α)(p q:α->Bool):l.all (λx=>p x&&q x)=(l.all p&&l.all q):=by grind
def jZ (h:Host):eF:=[h.2.2.2.2.2.2.2.2.2.2.2.2.2.2.1,h.2.2.2.2.2.2.2.2.2.2.2.2.2.2.2.1,h.2.2.2.2.2.2.2.2.2.2.2.2.2.2.2.2.1,h.2.2.2.2.2.2.2.2.2.2.2.2.2.2.2.2.2.1,h.2.2.2.2.2.2.2.2.2.2.2.2.2.2.2.2.2.2]
def xe (h:Host):Bool:=dH (h.2.2.2.1.length:Int) 1 2&&(((h.2.2.2.2.1.length:Int)==(h.2.2.2.1.length:Int))&&(((h.2.2.2.2.2.1.length:Int)==(h.2.2.2.1.length:Int))&&((h.2.2.2.2.2.2.1.length:Int)==(h.2.2.2.1.length:Int))))
def Wf (h:Host):Bool:=h.2.2.2.1.all Ph&&(h.2.2.2.2.1.all gn&&h.2.2.2.2.2.1.all ta)
def fF (h:Host):Bool:=gN h.1&&(fG h.2.1&&(PZ h.2.2.1&&(C2 h.2.2.2.2.2.2.2.1&&(xe h&&(iH h.2.2.2.2.2.2.2.2.1 (h.2.2.2.1.length:Int)&&(Wf h&&(jZ h).all (λx=>dH x 0 1000000000000)))))))
structure IW (h:Host):Prop where
 a1:h.1.length<=10^9
 a2:h.2.1.length<=10^9
 t1:h.2.2.1.2.2.1.length<=10^9
 t2:h.2.2.1.2.1.2.2.2.length+(ch h.2.2.1.2.2.1).length<=10^9
 f1:h.2.2.2.2.2.2.2.1.2.2.length<=10^9
 s1:h.2.2.2.2.2.2.2.2.1.1.length<=10^9
 s2:h.2.2.2.2.2.2.2.2.1.2.1.length<=10^9
 s3:h.2.2.2.2.2.2.2.2.1.2.2.2.length<=10^9
 p1:∀p∈h.2.2.2.2.1,p.2.2.2.length<=10^9
theorem nk (l:xe h=true):h.2.2.2.1.length<=2/\h.2.2.2.2.1.length=h.2.2.2.1.length/\h.2.2.2.2.2.1.length=h.2.2.2.1.length/\h.2.2.2.2.2.2.1.length=h.2.2.2.1.length:=by grind[xe,bM]
theorem R1 {T:(Int->aw R)->Int->aw R}{fin hit:aw R}(l:xe h=true)(hs:∀i (hi:i<h.2.2.2.1.length) nx,T nx (i:Int)=cond (!(Ph h.2.2.2.1[i]&&(gn (h.2.2.2.2.1[i]'((nk l).2.1▸hi))&&ta (h.2.2.2.2.2.1[i]'((nk l).2.2.1▸hi))))) hit (nx ((i+1:Nat):Int)))(hf:∀nx,T nx (h.2.2.2.1.length:Int)=fin):aJ T fuel 0=cond (Wf h) fin hit:=by
 have hl:=nk l;rw[pJ (fin:=fin) (hit:=hit) (λi=>h.2.2.2.1[i]?.all Ph&&(h.2.2.2.2.1[i]?.all gn&&h.2.2.2.2.2.1[i]?.all ta)) h.2.2.2.1.length (by omega) ?hs hf]
 case hs=>
  grind
 rw[ZN,ZN,LM];have e1:=LM h.2.2.2.2.1 gn;have e2:=LM h.2.2.2.2.2.1 ta;rw[hl.2.1]at e1;rw[hl.2.2.1]at e2;rw[e1,e2];rfl
theorem L5 {T:(Int->aw R)->Int->aw R}{fin hit:aw R}(h:Host)(hs:∀i (hi:i<(jZ h).length) nx,T nx (i:Int)=cond (!(dH (jZ h)[i] 0 1000000000000)) hit (nx ((i+1:Nat):Int)))(hf:∀nx,T nx ((jZ h).length:Int)=fin):aJ T fuel 0=cond ((jZ h).all (λx=>dH x 0 1000000000000)) fin hit:=rJ (λx=>dH x 0 1000000000000) (jZ h) (by simp[jZ]) hs hf
theorem ud (h:Host)(z:IW h):jy h=some (fF h):=by
 unfold jy fF;simp only[Fz _ z.a1,KI _ z.a2,Zq _ z.t1 z.t2,Pt _ z.f1,KM _ _ z.s1 z.s2 z.s3,cM,ab,cw];cases gN h.1;rfl;cases fG h.2.1;rfl;cases PZ h.2.2.1;rfl;cases C2 h.2.2.2.2.2.2.2.1;rfl;simp only[ai,ae,cT,bne];rw[show(!dH (h.2.2.2.1.length:Int) 1 2||(!((h.2.2.2.2.1.length:Int)==(h.2.2.2.1.length:Int))||(!((h.2.2.2.2.2.1.length:Int)==(h.2.2.2.1.length:Int))||(!((h.2.2.2.2.2.2.1.length:Int)==(h.2.2.2.1.length:Int))|| !iH h.2.2.2.2.2.2.2.2.1 (h.2.2.2.1.length:Int)))))= !(xe h&&iH h.2.2.2.2.2.2.2.2.1 (h.2.2.2.1.length:Int)) by unfold xe;simp only[Bool.not_and,Bool.or_assoc]];cases hl:xe h;rfl;cases iH h.2.2.2.2.2.2.2.2.1 (h.2.2.2.1.length:Int);rfl;have hL:=nk hl;simp only[ie,ai,ae,bF];rw[R1 (h:=h) (hit:=some false) (fin:=some ((jZ h).all (λx=>dH x 0 1000000000000))) hl ?hs ?hf]
 case hs=>
  intro i hi nx
  simp only[xt]
  rw[jP,aX hi,aX (hL.2.1▸hi),aX (hL.2.2.1▸hi),aj (n:=(i:Int)+1) (by omega) (by omega)]
  simp only[af,ab,T5,yk,ue _ (z.p1 _ (bh _)),cw,cT,Bool.not_and]
  rfl
 case hf=>
  intro nx
  simp only[xt]
  rw[gq]
  simp only[ae]
  refine(L5 (fin:=some true) (hit:=some false) h ?_ ?_).trans ?_
  ·intro i hi nx
   simp only[uT]
   have rF:i<5:=hi
   change (bif decide ((i:Int)<5) then aa (idx (jZ h) (i:Int)) _ else _)=_
   rw[jP,aX hi,aj (n:=(i:Int)+1) (by omega) (by omega),ab,cM]
   rfl
  ·intro nx
   simp only[uT]
   rw[aq (by simp[jZ])];rfl
  ·cases (jZ h).all (λx=>dH x 0 1000000000000)<;>rfl
 cases Wf h<;>rfl
theorem zG (h:Host)(z:IW h):jt h=some (fF h):=by
 unfold jt fF;simp only[Jk _ z.a1,J8 _ z.a2,Yp _ z.t1 z.t2,OD _ z.f1,Kd _ _ z.s1 z.s2 z.s3,dh,ab,cw];cases gN h.1;rfl;cases fG h.2.1;rfl;cases PZ h.2.2.1;rfl;cases C2 h.2.2.2.2.2.2.2.1;rfl;simp only[ai,ae,cT,bne];rw[show(!dH (h.2.2.2.1.length:Int) 1 2||(!((h.2.2.2.2.1.length:Int)==(h.2.2.2.1.length:Int))||(!((h.2.2.2.2.2.1.length:Int)==(h.2.2.2.1.length:Int))|| !((h.2.2.2.2.2.2.1.length:Int)==(h.2.2.2.1.length:Int)))))= !(xe h) by unfold xe;simp only[Bool.not_and]];cases hl:xe h;rfl;have hL:=nk hl;simp only[ai,ae,bF];rw[R1 (h:=h) (hit:=some false) (fin:=some ((jZ h).all (λx=>dH x 0 1000000000000)&&iH h.2.2.2.2.2.2.2.2.1 (h.2.2.2.1.length:Int))) hl ?hs ?hf]
 case hs=>
  intro i hi nx
  simp only[wi]
  rw[jP,aX hi,aX (hL.2.1▸hi),aX (hL.2.2.1▸hi),aj (n:=(i:Int)+1) (by omega) (by omega)]
  simp only[af,ab,Tm,B5,vY _ (z.p1 _ (bh _)),cw,cT,Bool.not_and]
  rfl
 case hf=>
  intro nx
  simp only[wi]
  rw[gq]
  simp only[ae]
  refine(L5 (fin:=some (iH h.2.2.2.2.2.2.2.2.1 (h.2.2.2.1.length:Int))) (hit:=some false) h ?_ ?_).trans ?_
  ·intro i hi nx
   simp only[uy]
   have rF:i<5:=hi
   change (bif decide ((i:Int)<5) then aa (idx (jZ h) (i:Int)) _ else _)=_
   rw[jP,aX hi,aj (n:=(i:Int)+1) (by omega) (by omega),ab,dh]
   rfl
  ·intro nx
   simp only[uy]
   rw[aq (by simp[jZ])];rfl
  ·cases (jZ h).all (λx=>dH x 0 1000000000000)<;>rfl
 cases Wf h<;>cases iH h.2.2.2.2.2.2.2.2.1 (h.2.2.2.1.length:Int)<;>cases (jZ h).all (λx=>dH x 0 1000000000000)<;>rfl
def hasB (l:eF)(v:Int):Bool:=l.any (·==v)
theorem agV (l:eF)(v:Int)(h:l.length<=10^9):vL l v=some (hasB l v):=by
 unfold vL hasB;rw[GB (hit:=some true) (fin:=some false) (λx:Int=>x==v) l (by omega) (λi hi nx=>?hs) (λnx=>?hf)]
 case hs=>
  simp(disch:=omega)[xG,ax,aX,aj]
 all_goals grind[xG]
theorem agv (l:eF)(v:Int)(h:l.length<=10^9):vy l v=some (hasB l v):=by
 unfold vy hasB;rw[GB (hit:=some true) (fin:=some false) (λx:Int=>x==v) l (by omega) (λi hi nx=>?hs) (λnx=>?hf)]
 case hs=>
  simp(disch:=omega)[wD,ax,aX,aj]
 all_goals grind[wD]
theorem WH (l:ar α)(j:Nat)(h:j<=l.length):sub l (j:Int) (l.length:Int)=some (l.drop j):=by simp_all[sub]
def zD (f:Filter)(p:aS):Bool:=C2 f&&(((p.1==f.1)||((p.1==281474976710655)||f.2.1))&&((p.2.2.1== -1)||hasB f.2.2 p.2.2.1))
theorem Vs (f:Filter)(p:aS)(h:f.2.2.length<=10^9):AU f p=some (zD f p):=by grind[AU,OD,agv,ab,zD]
theorem Wr (f:Filter)(p:aS)(h:f.2.2.length<=10^9):Bk f p=some (zD f p):=by grind[Bk,Pt,agV,ab,zD]
def preB (a b n:Int):Bool:=fdiv a (2^(min (Int.toNat (ak (32-n))) (IntKind.bits .i64)))==fdiv b (2^(min (Int.toNat (ak (32-n))) (IntKind.bits .i64)))
theorem R2 {r:gi}(h:Es r=true):0<=r.2.2.2.1/\r.2.2.2.1<=32:=by grind[Es,mE,cM,ab,dH]
def adu (r:gi)(p:aS):Bool:=preB r.2.2.1 p.2.2.2.2.2.2.1 r.2.2.2.1&&(dH p.2.2.2.2.2.2.2.2.2.2.1 r.2.2.2.2.1 r.2.2.2.2.2.1&&((r.2.2.2.2.2.2.1== -2)||(r.2.2.2.2.2.2.1==p.2.2.1)))
def Ha (r:gi)(p:aS):Bool:=Es r&&(ej p&&(((r.2.1==0)||(r.2.1==p.2.2.2.2.2.2.2.2.1))&&adu r p))
theorem agy (a b n:Int)(h0:0<=n)(h1:n<=32):pq a b n=some (preB a b n):=by grind[pq,preB,aj]
theorem abA (r:gi)(p:aS):rV r p=some (Ha r p):=by unfold rV Ha;rw[aeB,ab];grind[R2,pM,agy,dh,ab,adu]
theorem acL (r:gi)(p:aS):sK r p=some (Ha r p):=by
 unfold sK Ha;rw[Pz,ab];cases hr:Es r;rfl;have hp:=R2 hr;have hw:¬ak (32-r.2.2.2.1)<0:=by grind[aj]
 simp only[sD,AB,aF hw,cM,ab,adu];rw[show(fdiv r.2.2.1 (2^(min (Int.toNat (ak (32-r.2.2.2.1))) (IntKind.bits .i64)))==fdiv p.2.2.2.2.2.2.1 (2^(min (Int.toNat (ak (32-r.2.2.2.1))) (IntKind.bits .i64))))=preB r.2.2.1 p.2.2.2.2.2.2.1 r.2.2.2.1 from rfl];cases ej p<;>cases r.2.1==0<;>cases r.2.1==p.2.2.2.2.2.2.2.2.1<;>cases preB r.2.2.1 p.2.2.2.2.2.2.1 r.2.2.2.1<;>cases dH p.2.2.2.2.2.2.2.2.2.2.1 r.2.2.2.2.1 r.2.2.2.2.2.1<;>cases r.2.2.2.2.2.2.1== -2<;>rfl
def MA:gi:=(0,0,0,0,0,0,0,0,0)
def AE (l:ar gi)(p:aS):Nat->Int
 |0=> -1
 |i+1=>bif Ha (l.getD i MA) p&&(decide (AE l p i<0)||decide ((l.getD i MA).1<(l.getD (AE l p i).toNat MA).1)) then(i:Int) else AE l p i
theorem NJ (l:ar gi)(p:aS):∀i,AE l p i= -1\/∃n:Nat,AE l p i=(n:Int)/\n<i
 |0=> .inl rfl
 |i+1=>by rw[AE];cases Ha (l.getD i MA) p&&(decide (AE l p i<0)||decide ((l.getD i MA).1<(l.getD (AE l p i).toNat MA).1))with|true=>grind|false=>rcases NJ l p i with h|⟨n,h,hn⟩;all_goals grind
theorem QV (l:ar gi)(p:aS)(i:Nat)(hi:i<l.length)(nx:Int×Int->aw R): (aa (cond (Ha l[i] p) (cond (decide (AE l p i<0)) (some true) (aa (idx l (AE l p i)) λx4=>some (decide (l[i].1<x4.1)))) (some false)) λq5=>cond q5 (nx ((i:Int),((i+1:Nat):Int))) (nx (AE l p i,((i+1:Nat):Int))))=nx (AE l p (i+1),((i+1:Nat):Int)):=by
 rw[AE,fM hi];cases Ha l[i] p;rfl;rcases NJ l p i with h|⟨n,h,hn⟩;rw[h];rfl;have hl:n<l.length:=by omega
 rw[h,aq (show¬(n:Int)<0 by omega),aX hl];simp only[af,ae,ab,ay,fM hl,bF,cI];cases decide (l[i].1<l[n].1)<;>rfl
def GL (l:ar gi)(p:aS):Int:=bif CF l then AE l p l.length else-1
theorem Oa (l:ar gi)(p:aS)(h:GL l p>=0):∃n:Nat,GL l p=(n:Int)/\n<l.length:=by unfold GL at h⊢;cases hr:CF l with|false=>grind|true=>rw[hr]at h;simp only[af]at h⊢;rcases NJ l p l.length with g|g;omega;exact g
theorem aby (l:ar gi)(p:aS)(h:l.length<=10^9):yA l p=some (GL l p):=by unfold yA GL;rw[Ru l h,ab];cases CF l;rfl;simp only[ai,ae,af];refine cD (λi=>(AE l p i,(i:Int))) l.length (by omega) (λi nx hi=>?_) (λnx=>?_);simp only[rP];rw[jP,aX hi,aj (n:=(i:Int)+1) (by omega) (by omega)];simp only[af,ab,abA];exact QV l p i hi nx;simp only[rP];rw[gq];rfl
theorem acJ (l:ar gi)(p:aS)(h:l.length<=10^9):ze l p=some (GL l p):=by
 have xV:=cS;unfold ze GL;cases hr:CF l with
 |false=>
  obtain⟨f,hf⟩:∃f,fuel=f+1:=⟨fuel-1,by omega⟩
  rw[hf,aJ];simp only[nT,H2 l h,hr,ab];cases decide ((0:Int)<(l.length:Int))<;>rfl
 |true=>simp only[af];refine cD (λi=>(AE l p i,(i:Int))) l.length (by omega) (λi nx hi=>?_) (λnx=>?_);simp only[nT,H2 l h,hr];rw[jP,aX hi,aj (n:=(i:Int)+1) (by omega) (by omega)];simp only[af,ab,acL];exact QV l p i hi nx;simp only[nT];rw[gq];rfl
def mI (p:aS):FW:=(p.2.2.2.2.2.2.2.2.1,p.2.2.2.2.2.2.1,p.2.2.2.2.2.2.2.1,p.2.2.2.2.2.2.2.2.2.1,p.2.2.2.2.2.2.2.2.2.2.1)
theorem OE (p:aS):vx p=some (mI p):=rfl
theorem Pv (p:aS):vK p=some (mI p):=rfl
def aju:Slot:=(0,(0,0,0,0,0),0)
def yn (s:dW)(q:Int)(p:aS):Int:=
 bif !iH s q|| !ej p then-1 else
 bif decide (GL s.1 p>=0) then(bif (s.1.getD (GL s.1 p).toNat MA).2.2.2.2.2.2.2.1==1 then-1 else(s.1.getD (GL s.1 p).toNat MA).2.2.2.2.2.2.2.2) else
 bif decide (findF s.2.1 (mI p)>=0) then(s.2.1.getD (findF s.2.1 (mI p)).toNat aju).2.2 else H6 s.2.2 q (mI p)
theorem abI (s:dW)(q:Int)(p:aS)(h1:s.1.length<=10^9)(h2:s.2.1.length<=10^9)(h3:s.2.2.2.length<=10^9):rY s q p=some (yn s q p):=by unfold rY yn;rw[Kd s q h1 h2 h3,ab,pM,ab];cases iH s q;rfl;cases ej p;rfl;simp only[ai,ae,ab,bU,aby s.1 p h1,OE,Th s.2.1 _ h2,VG s.2.2 q _ h3];grind[Oa,aX,ab,N9]
theorem acS (s:dW)(q:Int)(p:aS)(h1:s.1.length<=10^9)(h2:s.2.1.length<=10^9)(h3:s.2.2.2.length<=10^9):sN s q p=some (yn s q p):=by unfold sN yn;rw[KM s q h1 h2 h3,ab,sD,ab];cases iH s q;rfl;cases ej p;rfl;simp only[ai,ae,ab,bU,acJ s.1 p h1,Pv,TZ s.2.1 _,WC s.2.2 q _ h3];grind[Oa,aX,ab,N9]
def aaP (a b:Int):Int:=(oP a b).getD 0
theorem Nv (a b:Int):oP a b=some (aaP a b):=by grind[aaP,oP,cM,ab]
theorem Vt (a b:Int):AW a b=some (aaP a b):=Nv a b
theorem afX {a b:Int}(h:0<=a/\a<=65535)(k:0<=b/\b<=65535):0<=aaP a b/\aaP a b<=65535:=by have e:=Nv a b;simp only[oP,cM,ab,bM.2 h,bM.2 k,ai,ae]at e;rw[aj (n:=a+b) (by omega) (by omega)]at e;by_cases hc:a+b>65535;rw[ax hc,af,aj (by omega) (by omega)]at e;rw[<-cB e];omega;rw[aq hc,ae]at e;rw[<-cB e];omega
def sw (s:Bytes):Nat->Int
 |0=>0
 |j+1=>aaP (sw s j) ((bI s (2*j)*256+bI s (2*j+1):Nat):Int)
theorem afD (s:Bytes):∀j,0<=sw s j/\sw s j<=65535
 |0=>by simp[sw]
 |j+1=>by have b0:=eY s (2*j);have b1:=eY s (2*j+1);exact afX (afD s j) (by omega)
theorem I3 {i:Nat}(h:s.length<=i:=by omega):bI s i=0:=by simp_all[bI]
theorem agX (s:Bytes)(h:s.length<=10^9):zw s=some (sw s ((s.length+1)/2)):=by
 unfold zw;refine cD (λj=>(sw s j,((2*j:Nat):Int))) ((s.length+1)/2) (by omega) (λj nx hj=>?_) (λnx=>?_);have b0:=eY s (2*j);have b1:=eY s (2*j+1);obtain⟨x,hx,ex⟩:=kc (s:=s) (i:=2*j);simp only[sP];rw[jP,af,hx,ab,mG,aj (n:=((2*j:Nat):Int)+1) (by omega) (by omega),aj (n:=((2*j:Nat):Int)+2) (by omega) (by omega),ex,fQ (by omega)];have e8:rH 8=8:=rfl;have en:((2*j:Nat):Int)+2=((2*(j+1):Nat):Int):=by omega
 rw[e8,aj (n:=((bI s (2*j):Nat):Int)*2^8) (by omega) (by omega)];by_cases hc:2*j+1<s.length;obtain⟨y,hy,ey⟩:=kc (s:=s) (i:=2*j+1) hc;rw[jP,af,show((2*j:Nat):Int)+1=((2*j+1:Nat):Int) by omega,hy,ab,ey,fQ (n:=bI s (2*j+1)) (by omega),aj (by omega) (by omega),Nv,ab,en,show((bI s (2*j):Nat):Int)*2^8+((bI s (2*j+1):Nat):Int)=((bI s (2*j)*256+bI s (2*j+1):Nat):Int) by omega];rfl;have hz:=I3 (s:=s) (i:=2*j+1);rw[gq,ae,Nv,ab,en,show((bI s (2*j):Nat):Int)*2^8=((bI s (2*j)*256+bI s (2*j+1):Nat):Int) by rw[hz];omega];rfl;simp only[sP];rw[gq];rfl
theorem agz (s:Bytes)(h:s.length<=10^9):yK s=some (sw s ((s.length+1)/2)):=by
 unfold yK;refine cD (λj=>(sw s j,((2*j:Nat):Int))) ((s.length+1)/2) (by omega) (λj nx hj=>?_) (λnx=>?_);have b0:=eY s (2*j);have b1:=eY s (2*j+1);obtain⟨x,hx,ex⟩:=kc (s:=s) (i:=2*j);simp only[sa];rw[jP,af,hx,ab,mG,aj (n:=((2*j:Nat):Int)+1) (by omega) (by omega),aj (n:=((2*j:Nat):Int)+2) (by omega) (by omega),ex,fQ (by omega)];have e8:rH 8=8:=rfl;have en:((2*j:Nat):Int)+2=((2*(j+1):Nat):Int):=by omega
 rw[e8,show((bI s (2*j):Nat):Int)*2^8=((2^8*bI s (2*j):Nat):Int) by omega,fQ (n:=2^8*bI s (2*j)) (by omega)];by_cases hc:2*j+1<s.length;obtain⟨y,hy,ey⟩:=kc (s:=s) (i:=2*j+1) hc;rw[jP,af,show((2*j:Nat):Int)+1=((2*j+1:Nat):Int) by omega,hy,ab,ey,fQ (n:=bI s (2*j+1)) (by omega),Jq (bI s (2*j)) 8 (bI s (2*j+1)),Vt,ab,en,show 2^8*bI s (2*j)+bI s (2*j+1)=bI s (2*j)*256+bI s (2*j+1) by omega];rfl;have hz:=I3 (s:=s) (i:=2*j+1);rw[gq,ae,Vt,ab,en,show((2^8*bI s (2*j):Nat):Int)=((bI s (2*j)*256+bI s (2*j+1):Nat):Int) by rw[hz];omega];rfl;simp only[sa];rw[gq];rfl
def SH (s:Bytes):Int:=65535-sw s ((s.length+1)/2)
theorem KD (s:Bytes)(h:s.length<=10^9):kK s=some (SH s):=by have:=afD s ((s.length+1)/2);simp only[kK,agX s h,ab];rw[aj (by omega) (by omega)];rfl
theorem Nq (s:Bytes)(h:s.length<=10^9):je s=some (SH s):=by have:=afD s ((s.length+1)/2);simp only[je,agz s h,ab];rw[aj (by omega) (by omega)];rfl
def xj (s:Bytes)(a:Int)(p:Bytes):Bytes:=bif fJ s a (p.length:Int) then(s.take a.toNat++p)++s.drop (a.toNat+p.length) else s
theorem zY (s:Bytes)(a:Int)(p:Bytes):(xj s a p).length=s.length:=by grind[xj,fJ]
theorem Wb (s:Bytes)(a:Int)(p:Bytes)(h:s.length<=10^9)(hw:fJ s a (p.length:Int)=true): (aa (sub s 0 a) λx2=>room (List.length x2+List.length p) (aa (sub s (ak (a+((List.length p:Int)))) ((List.length s:Int))) λx3=>room (List.length (x2++p)+List.length x3) (some ((x2++p)++x3))))=some (xj s a p):=by
 have hw':=hw;simp only[fJ,bE]at hw';obtain⟨n,rfl⟩:=aI hw'.1;have e1:sub s 0 (n:Int)=some (s.take n):=by grind[sub]
 have e2:sub s (((n+p.length:Nat):Int)) (s.length:Int)=some (s.drop (n+p.length)):=by grind[sub,df]
 rw[e1,aj (by omega) (by omega),show(n:Int)+(p.length:Int)=((n+p.length:Nat):Int) by omega,e2,ab,aQ (by grind),ab,aQ (by grind)];grind[xj]
theorem FC (s:Bytes)(a:Int)(p:Bytes)(h:s.length<=10^9):eE s a p=some (xj s a p):=by grind[eE,Hm,ab,xj,Wb]
theorem EX (s:Bytes)(a:Int)(p:Bytes)(h:s.length<=10^9:=by omega)(hp:p.length<=10^9:=by omega):fH s a p=some (xj s a p):=by
 unfold fH;rw[aj (n:=(s.length:Int)-(p.length:Int)) (by omega) (by omega)];cases hw:fJ s a (p.length:Int)with
 |true=>have hw':=hw;simp only[fJ,bE]at hw';rw[aq (show¬a<0 by omega),aq (show¬a>(s.length:Int)-(p.length:Int) by omega)];exact Wb s a p h hw
 |false=>
  have hp:xj s a p=s:=by grind[xj]
  rw[hp];simp only[fJ,eI]at hw;by_cases h0:a<0;all_goals simp(disch:=omega)[ax]
def bs2 (x y:Int):Bytes:=aM [x,y]
theorem SE (x y:Int):(bs2 x y).length=2:=rfl
def Bg (a b k n:Int):Bool:=dH a 0 4294967295&&(dH b 0 4294967295&&(dH k 0 255&&dH n 0 65535))
def yh (a b k n:Int):Bytes:=((jb a++jb b)++bs2 0 (gw k))++bW n
theorem HU (a b k n:Int):(yh a b k n).length<=12:=by grind[dF,bt,yh,SE]
theorem FB (a b k n:Int):jN a b k n=some (bif Bg a b k n then(yh a b k n,true) else([],false)):=by have:=dF a;have:=dF b;have:=bt n;unfold jN Bg;simp only[cM,ab,mR,hZ];cases dH a 0 4294967295;rfl;cases dH b 0 4294967295;rfl;cases dH k 0 255;rfl;cases dH n 0 65535;rfl;simp only[ai,ae,dX,af,ab];have e:(aM [0,gw k]).length=2:=rfl;rw[aQ (by omega),aQ (by grind),aQ (by grind)];rfl
theorem OH (a b k n:Int):qn a b k n=some (bif Bg a b k n then(yh a b k n,true) else([],false)):=FB a b k n
def bare (g:dD):Bytes:=bif g.1==6 then
    (((((bW g.2.1++bW g.2.2.1)++jb g.2.2.2.1)++jb g.2.2.2.2.1)++bs2 80 (gw g.2.2.2.2.2.1))++bW g.2.2.2.2.2.2.1)++jb 0++g.2.2.2.2.2.2.2
 else(((bW g.2.1++bW g.2.2.1)++bW (8+(g.2.2.2.2.2.2.2.length:Int)))++bW 0)++g.2.2.2.2.2.2.2
theorem SB (g:dD):(bare g).length<=20+g.2.2.2.2.2.2.2.length:=by have:=bt g.2.1;have:=bt g.2.2.1;have:=dF g.2.2.2.1;have:=dF g.2.2.2.2.1;have:=bt g.2.2.2.2.2.2.1;have:=dF 0;have:=bt 0;have:=bt (8+(g.2.2.2.2.2.2.2.length:Int));unfold bare;cases g.1==6<;>simp only[af,ae,au,SE]<;>omega
theorem adb:bW 0++bW 0=jb 0:=by rfl
theorem aep (g:dD)(h:g.2.2.2.2.2.2.2.length<=1000000):sj g=some (bare g):=by have:=bt g.2.1;have:=bt g.2.2.1;have:=dF g.2.2.2.1;have:=dF g.2.2.2.2.1;have:=bt g.2.2.2.2.2.2.1;have:=bt 0;have:=bt (8+(g.2.2.2.2.2.2.2.length:Int));have e:∀x,(aM [80,gw x]).length=2:=λ_=>rfl;unfold sj bare;rw[aj (n:=8+(g.2.2.2.2.2.2.2.length:Int)) (by omega) (by omega)];simp only[kY,B6,ab];rw[aQ (by omega)];cases g.1==6 with|true=>simp only[af];rw[aQ (by simp only[au,e];omega),aQ (by simp only[au,e];omega),aQ (by simp only[au,e];omega),aQ (by simp only[au,e];omega),aQ (by simp only[au,e];omega),aQ (by simp only[au,e];omega),aQ (by simp only[au,e];omega)];rw[<-adb];simp only[bs2,aN]|false=>simp only[ae];rw[aQ (by simp only[au];omega),aQ (by simp only[au];omega),aQ (by simp only[au];omega)]
def aaE (a b:Int)(g:dD):Int:=bif (SH (yh a b g.1 ((bare g).length:Int)++bare g)==0)&&(g.1==17) then 65535 else SH (yh a b g.1 ((bare g).length:Int)++bare g)
def aau (a b:Int)(g:dD):Bytes:=xj (bare g) (bif g.1==6 then 16 else 6) (bW (aaE a b g))
def Pn (a b:Int)(g:dD):Bool:=Ky g&&Bg a b g.1 ((bare g).length:Int)
def DP (a b:Int)(g:dD):Bytes×Bool:=bif Pn a b g then(aau a b g,true) else([],false)
theorem Kz {g:dD}(h:Ky g=true):g.2.2.2.2.2.2.2.length<=320:=by grind[Ky]
theorem Hl (a b:Int)(g:dD):jL a b g=some (DP a b g):=by
 unfold jL DP Pn;rw[aaB,ab];cases hg:Ky g;rfl;have hb:=Kz hg;have hl:=SB g;have hp:=HU a b g.1 ((bare g).length:Int);have:=bt g.2.1;have:=bt g.2.2.1;have:=dF g.2.2.2.1;have:=dF g.2.2.2.2.1;have:=bt g.2.2.2.2.2.2.1;have:=dF 0;have:=bt 0;have:=bt (8+(g.2.2.2.2.2.2.2.length:Int));have e:∀x,(aM [80,gw x]).length=2:=λ_=>rfl;rw[aj (n:=8+(g.2.2.2.2.2.2.2.length:Int)) (by omega) (by omega)];simp only[hZ,mR,ab,ai,ae,bF];rw[aQ (by omega)];cases h6:g.1==6 with
 |true=>
  have adY:bare g=(((((bW g.2.1++bW g.2.2.1)++jb g.2.2.2.1)++jb g.2.2.2.2.1)++aM [80,gw g.2.2.2.2.2.1])++bW g.2.2.2.2.2.2.1)++jb 0++g.2.2.2.2.2.2.2:=by unfold bare;rw[h6];rfl
  simp only[af];rw[aQ (by grind),aQ (by grind),aQ (by grind),aQ (by grind),aQ (by grind),aQ (by grind),<-adY,FB,ab];cases Bg a b g.1 ((bare g).length:Int);rfl;simp only[af,ai,ae];rw[aQ (by omega),KD _ (by grind)];simp only[ab,cw,FC _ _ _ (show(bare g).length<=10^9 by omega),aau,aaE,h6,af,cF];cases (SH (yh a b g.1 ((bare g).length:Int)++bare g)==0)&&(g.1==17)<;>rfl
 |false=>
  have adY:bare g=(((bW g.2.1++bW g.2.2.1)++bW (8+(g.2.2.2.2.2.2.2.length:Int)))++bW 0)++g.2.2.2.2.2.2.2:=by unfold bare;rw[h6];rfl
  simp only[ae];rw[aQ (by simp_all;omega),aQ (by simp_all;omega),aQ (by simp_all;omega),<-adY,FB,ab];cases Bg a b g.1 ((bare g).length:Int);rfl;simp only[af,ai,ae];rw[aQ (by omega),KD _ (by simp_all;omega)];simp only[ab,cw,FC _ _ _ (show(bare g).length<=10^9 by omega),aau,aaE,h6,ae,cF];cases (SH (yh a b g.1 ((bare g).length:Int)++bare g)==0)&&(g.1==17)<;>rfl
theorem G3 (a b:Int)(g:dD):jF a b g=some (DP a b g):=by
 unfold jF DP Pn;rw[aaf,ab];cases hg:Ky g;rfl;have hb:=Kz hg;have hl:=SB g;have hp:=HU a b g.1 ((bare g).length:Int);have J1:ft g.1=some (bif g.1==6 then 16 else 6):=by unfold ft;rw[cw]
 have w1:=bt 65535;have w2:=bt (SH (yh a b g.1 ((bare g).length:Int)++bare g));simp only[aep g (by omega),OH,ab,ai,ae,bF];cases Bg a b g.1 ((bare g).length:Int);rfl;simp only[af,ai,ae];rw[aQ (by omega),Nq _ (by grind)];simp only[ab,cw,J1,kY,EX _ _ _ (show(bare g).length<=10^9 by omega) (show(bW 65535).length<=10^9 by omega),EX _ _ _ (show(bare g).length<=10^9 by omega) (show(bW (SH (yh a b g.1 ((bare g).length:Int)++bare g))).length<=10^9 by omega),aau,aaE,cF];grind
theorem agQ (a b:Int)(g:dD):(DP a b g).1.length<=340:=by unfold DP;cases h:Pn a b g with|false=>exact eH _|true=>simp only[Pn,ah]at h;have:=Kz h.1;have:=SB g;show(xj _ _ _).length<=340;rw[zY];omega
def ipB (d:Ip):Bool:=dH d.1 0 255&&(dH d.2.2.1 0 255&&(dH d.2.2.2.1 0 255&&(dH d.2.1 0 65535&&(dH d.2.2.2.2.1 0 4294967295&&(dH d.2.2.2.2.2.1 0 4294967295&&decide ((d.2.2.2.2.2.2.length:Int)<=380))))))
theorem Ww (d:Ip):H3 d=some (ipB d):=by simp_all[H3,cM,cw,ipB]
theorem aev (d:Ip):Lo d=some (ipB d):=Ww d
def ON (d:Ip):Bytes:=((((((bs2 69 (gw d.1)++bW (20+(d.2.2.2.2.2.2.length:Int)))++bW d.2.1)++bW 16384)++bs2 (gw d.2.2.1) (gw d.2.2.2.1))++bW 0)++jb d.2.2.2.2.1)++jb d.2.2.2.2.2.1
theorem OO (d:Ip):(ON d).length<=20:=by have:=bt (20+(d.2.2.2.2.2.2.length));have:=bt d.2.1;have:=bt 16384;have:=bt 0;have:=dF d.2.2.2.2.1;have:=dF d.2.2.2.2.2.1;simp_all[ON,SE];omega
def OM (d:Ip):Bytes:=xj (ON d) 10 (bW (SH (ON d)))
theorem Zm (d:Ip):zl d=some (bif ipB d then(OM d,true) else([],false)):=by
 unfold zl;rw[Ww,ab];cases hd:ipB d;rfl;have hn:(d.2.2.2.2.2.2.length)<=380:=by grind[ipB]
 have:=bt (20+(d.2.2.2.2.2.2.length));have:=bt d.2.1;have:=bt 16384;have:=bt 0;have:=dF d.2.2.2.2.1;have:=dF d.2.2.2.2.2.1;have hl:=OO d;have e:∀x y,(aM [x,y]).length=2:=λ_ _=>rfl;rw[aj (by omega) (by omega)];simp only[hZ,mR,ab,ai,ae,af];rw[aQ (by grind),aQ (by grind),aQ (by simp_all;omega),aQ (by simp_all;omega),aQ (by simp_all;omega),aQ (by simp_all;omega),aQ (by simp_all;omega)];have hp:((((((aM [69,gw d.1]++bW (20+(d.2.2.2.2.2.2.length)))++bW d.2.1)++bW 16384)++aM [gw d.2.2.1,gw d.2.2.2.1])++bW 0)++jb d.2.2.2.2.1)++jb d.2.2.2.2.2.1=ON d:=rfl;rw[hp,KD _ (by omega),ab,FC _ _ _ (by omega)];rfl
theorem Yk (d:Ip):yF d=some (bif ipB d then(OM d,true) else([],false)):=by
 unfold yF;rw[aev,ab];cases hd:ipB d;rfl;have hn:(d.2.2.2.2.2.2.length)<=380:=by grind[ipB]
 have:=bt (20+(d.2.2.2.2.2.2.length));have:=bt d.2.1;have:=bt 16384;have:=bt 0;have:=dF d.2.2.2.2.1;have:=dF d.2.2.2.2.2.1;have hl:=OO d;have hw:=bt (SH (ON d));have e:∀x y,(aM [x,y]).length=2:=λ_ _=>rfl;rw[aj (by omega) (by omega)];simp only[kY,B6,ab,ai,ae,af];rw[aQ (by grind),aQ (by grind),aQ (by simp_all;omega),aQ (by simp_all;omega),aQ (by simp_all;omega),aQ (by simp_all;omega),aQ (by simp_all;omega)];have hp:((((((aM [69,gw d.1]++bW (20+(d.2.2.2.2.2.2.length)))++bW d.2.1)++bW 16384)++aM [gw d.2.2.1,gw d.2.2.2.1])++bW 0)++jb d.2.2.2.2.1)++jb d.2.2.2.2.2.1=ON d:=rfl;rw[hp,Nq _ (by omega),ab,EX _ _ _];rfl
def ipR (d:Ip):Bytes×Bool:=bif ipB d then(OM d++d.2.2.2.2.2.2,true) else([],false)
theorem Lq (d:Ip):(OM d).length<=20:=by grind[OM,zY,OO]
theorem afs (d:Ip):xn d=some (ipR d):=by grind[xn,ipR,Zm,ab,ipB,Lq,aQ]
theorem aeu (d:Ip):vZ d=some (ipR d):=by grind[vZ,ipR,Yk,ab,ipB,Lq,aQ]
def Ez (n:Nat):Bytes:=aM (List.replicate n (0:Int))
theorem LZ (n:Nat):(Ez n).length=n:=by simp[Ez,aM]
theorem Wx (n:Nat)(h:n<=10^9:=by omega):sT (n:Int) 0=some (Ez n):=by unfold sT;rw[zip,aQ (by omega),ay];refine cD (λi=>(List.replicate n (0),(i:Int))) n (by omega) (λi nx hi=>?_) (λnx=>?_);simp only[uZ];rw[jP,aX (by simpa using hi),aj (by omega) (by omega)];simp only[af,ab,ay,List.set_replicate_self];rfl;simp only[uZ];rw[gq];rfl
theorem aae (n:Nat)(h:n<=10^9:=by omega):oq 0 (n:Int)=some (Ez n):=by unfold oq;rw[zip,aQ (by omega),ay];refine cD (λi=>(List.replicate n (0),(i:Int))) n (by omega) (λi nx hi=>?_) (λnx=>?_);simp only[wF];rw[ax (by simp;omega),aX (by simpa using hi),aj (by omega) (by omega)];simp only[af,ab,ay,List.set_replicate_self];rfl;simp only[wF];rw[aq (by simp)];rfl
def pad (s:Bytes):Bytes:=if s.length<46 then s++Ez (46-s.length) else s
theorem TH (s:Bytes):(pad s).length=max 46 s.length:=by grind[pad,LZ]
theorem agW (s:Bytes)(h:s.length<=10^9):Bn s=some (pad s):=by unfold Bn pad;by_cases hc:s.length<46;rw[jP,aG hc,aj (by omega) (by omega),show(46:Int)-(s.length)=((46-s.length:Nat)) by omega,Wx _];simp only[af,ab];rw[aQ (by rw[LZ];omega)];rw[gq,aF hc];rfl
theorem agx (s:Bytes)(h:s.length<=10^9):AZ s=some (pad s):=by unfold AZ pad;by_cases hc:s.length<46;rw[gq,aG hc,aj (by omega) (by omega),show(46:Int)-(s.length)=((46-s.length:Nat)) by omega,aae _];simp only[ae,ab];rw[aQ (by rw[LZ];omega)];rw[jP,aF hc];rfl
def BQ (e:P7):Bool:=dH e.1 0 281474976710655&&(dH e.2.1 0 281474976710655&&(dH e.2.2.1 (-1) 4095&&(dH e.2.2.2.1 1536 65535&&((e.2.2.2.1 !=33024)&&dH (e.2.2.2.2.length:Int) 46 400))))
theorem LR (e:P7):yl e=some (BQ e):=by simp_all[yl,cM,cw,BQ]
theorem Rq (e:P7):B8 e=some (BQ e):=LR e
def Xf (a:Int):Bytes:=(iO a).getD []
theorem Dz (a:Int):iO a=some (Xf a)/\(Xf a).length<=6:=by
 have h:∃x,iO a=some x/\x.length<=6:=by unfold iO;simp only[hZ,mR,ab];have h1:=bt (fdiv a (2^(rH 32)));grind[dF,aQ]
 grind[Xf]
theorem agw (a:Int):yL a=some (Xf a):=(Dz a).1
def Q6 (e:P7):Bytes:=(bif decide (e.2.2.1>=0) then(((Xf e.1++Xf e.2.1)++bW 33024)++bW e.2.2.1) else Xf e.1++Xf e.2.1)++bW e.2.2.2.1++e.2.2.2.2
theorem adL (e:P7):(Q6 e).length<=18+e.2.2.2.2.length:=by have:=(Dz e.1).2;have:=(Dz e.2.1).2;grind[bt,Q6]
def UT (e:P7):Bytes×Bool:=bif BQ e then(Q6 e,true) else([],false)
theorem agU (e:P7):yZ e=some (UT e):=by
 unfold yZ UT;rw[LR,ab];cases he:BQ e;rfl;have hn:(e.2.2.2.2.length)<=400:=by grind[BQ,bM]
 have:=(Dz e.1).2;have:=(Dz e.2.1).2;have:=bt 33024;have:=bt e.2.2.1;have:=bt e.2.2.2.1;simp only[(Dz _).1,hZ,ab,ai,ae,af,Q6];grind[aQ]
theorem agu (e:P7):yw e=some (UT e):=by
 unfold yw UT;rw[Rq,ab];cases he:BQ e;rfl;have hn:(e.2.2.2.2.length)<=400:=by grind[BQ,bM]
 have:=(Dz e.1).2;have:=(Dz e.2.1).2;have:=bt 33024;have:=bt e.2.2.1;have:=bt e.2.2.2.1;simp only[agw,kY,ab,ai,ae,af,Q6];grind[aQ]
def ajt (p:aS):Bytes×Bool:=DP p.2.2.2.2.2.2.1 p.2.2.2.2.2.2.2.1 p.2.2.2.2.2.2.2.2
def ipP (p:aS):Bytes×Bool:=ipR (p.2.2.2.1,p.2.2.2.2.1,p.2.2.2.2.2.1,p.2.2.2.2.2.2.2.2.1,p.2.2.2.2.2.2.1,p.2.2.2.2.2.2.2.1,(ajt p).1)
def agd (p:aS):Bytes×Bool:=UT (p.1,p.2.1,p.2.2.1,2048,pad (ipP p).1)
def eS (p:aS):Bytes×Bool:=bif ej p then agd p else([],false)
theorem To (p:aS):(ipP p).1.length<=360:=by grind[agQ,ipP,ipR,ajt,Lq]
theorem HZ (p:aS):hG p=some (eS p):=by have hl:=To p;unfold hG eS;simp only[sD,Hl,afs,ab];rw[show(ipR (p.2.2.2.1,p.2.2.2.2.1,p.2.2.2.2.2.1,p.2.2.2.2.2.2.2.2.1,p.2.2.2.2.2.2.1,p.2.2.2.2.2.2.2.1,(DP p.2.2.2.2.2.2.1 p.2.2.2.2.2.2.2.1 p.2.2.2.2.2.2.2.2).1))=ipP p from rfl,agW _ (by omega),ab,agU];cases ej p<;>rfl
theorem HN (p:aS):gY p=some (eS p):=by have hl:=To p;unfold gY eS;simp only[pM,G3,aeu,ab];rw[show(ipR (p.2.2.2.1,p.2.2.2.2.1,p.2.2.2.2.2.1,p.2.2.2.2.2.2.2.2.1,p.2.2.2.2.2.2.1,p.2.2.2.2.2.2.2.1,(DP p.2.2.2.2.2.2.1 p.2.2.2.2.2.2.2.1 p.2.2.2.2.2.2.2.2).1))=ipP p from rfl,agx _ (by omega),ab,agu];cases ej p<;>rfl
theorem Ec (h:ej p=true):(eS p).2=true:=by grind[To,Md,ej,TH,eS,agd,UT,BQ,bM]
theorem xX (p:aS):(eS p).1.length<=378:=by grind[To,TH,eS,agd,UT,adL]
def fcs (c:Int):Bytes:=aM [gw c,gw (fdiv c (2^(rH 8))),gw (fdiv c (2^(rH 16))),gw (fdiv c (2^(rH 24)))]
def FU (s:Bytes):Bytes:=s++fcs (adv s)
theorem agf (c:Int):(fcs c).length=4:=rfl
theorem aaA (s:Bytes)(h:s.length<=10^9):xE s=some (FU s):=by unfold xE;rw[agS s h,ab,mG,mG,mG];exact aQ (by show s.length+4<=_;omega)
theorem aad (s:Bytes)(h:s.length<=10^9):wA s=some (FU s):=by unfold wA;rw[ags s h,ab,mG,mG,mG];exact aQ (by show s.length+4<=_;omega)
def jI (p:aS):Bool:=ej p&&decide ((p.2.2.2.2.2.2.2.2.2.2.2.2.2.2.2.length:Int)<=128)
theorem FA (p:aS):mT p=some (jI p):=by grind[mT,sD,ab,jI]
theorem EW (p:aS):mJ p=some (jI p):=by grind[mJ,pM,ab,jI]
def GP (p:aS):Bytes×Bool:=bif jI p then(FU (eS p).1,true) else([],false)
theorem acK (p:aS):uR p=some (GP p):=by grind[xX,uR,FA,HZ,aaA,ab,GP]
theorem abz (p:aS):uw p=some (GP p):=by grind[xX,uw,EW,HN,aad,ab,GP,jI,Ec]
theorem abe (p:aS):(GP p).1.length<=382:=by grind[xX,GP,FU,agf]
def O9 (p:aS)(z:Int)(k:Nat):aS:=
 (p.1,p.2.1,p.2.2.1,p.2.2.2.1,tmod (ak (p.2.2.2.2.1+(k:Int))) 65536,p.2.2.2.2.2.1,p.2.2.2.2.2.2.1,p.2.2.2.2.2.2.2.1,p.2.2.2.2.2.2.2.2.1,p.2.2.2.2.2.2.2.2.2.1,p.2.2.2.2.2.2.2.2.2.2.1,
   tmod (ak (p.2.2.2.2.2.2.2.2.2.2.2.1+((k:Int)*z))) 4294967296,p.2.2.2.2.2.2.2.2.2.2.2.2.1,
   (bif decide (((k:Int)+1)*z<(p.2.2.2.2.2.2.2.2.2.2.2.2.2.2.2.length:Int)) then ak (toNat (fR p.2.2.2.2.2.2.2.2.2.2.2.2.2.1&&&~~~ fR 9)) else p.2.2.2.2.2.2.2.2.2.2.2.2.2.1),
   p.2.2.2.2.2.2.2.2.2.2.2.2.2.2.1,(p.2.2.2.2.2.2.2.2.2.2.2.2.2.2.2.take (min ((k+1)*z.toNat) p.2.2.2.2.2.2.2.2.2.2.2.2.2.2.2.length)).drop (k*z.toNat))
def jJ (n z:Nat):Nat:=(n+z-1)/z
def DR (p:aS)(z:Int):ar aS:=bif ej p&&dH z 1 128 then
    (bif (p.2.2.2.2.2.2.2.2.1 !=6)||decide ((p.2.2.2.2.2.2.2.2.2.2.2.2.2.2.2.length:Int)<=z) then [p] else(range (jJ p.2.2.2.2.2.2.2.2.2.2.2.2.2.2.2.length z.toNat)).map (O9 p z)) else []
theorem LI {n z k:Nat}(hz:0<z:=by omega):k<jJ n z↔k*z<n:=by grind[jJ,Nat.lt_div_iff_mul_lt]
theorem yq (h:ej p=true):p.2.2.2.2.2.2.2.2.2.2.2.2.2.2.2.length<=320:=by grind[ej,Kz,Ot]
theorem Sh {b:Bytes}{k z:Nat}(hk:k*z<b.length)(hb:b.length<=320):sub b ((k*z:Nat):Int) ((min ((k+1)*z) b.length:Nat):Int)=some ((b.take (min ((k+1)*z) b.length)).drop (k*z)):=by grind[sub]
theorem acR (p:aS)(z:Int):FG p z=some (DR p z):=by
 unfold FG DR;simp only[sD,cM,ab];cases hs:ej p;rfl;cases hz:dH z 1 128;rfl;have hz':=bM.1 hz;have hb:=yq hs;simp only[ai,ae,dX,af,ab,cw,cT];cases hq:(p.2.2.2.2.2.2.2.2.1 !=6)||decide ((p.2.2.2.2.2.2.2.2.2.2.2.2.2.2.2.length)<=z)with
 |true=>rfl
 |false=>
  obtain⟨m,rfl⟩:=aI (show 0<=z by omega);have hN:∀k,k<jJ p.2.2.2.2.2.2.2.2.2.2.2.2.2.2.2.length m↔k*m<p.2.2.2.2.2.2.2.2.2.2.2.2.2.2.2.length:=λk=>LI;have Ie:jJ p.2.2.2.2.2.2.2.2.2.2.2.2.2.2.2.length m<=320:=by rcases bQ 320 (jJ p.2.2.2.2.2.2.2.2.2.2.2.2.2.2.2.length m)with h|h;have:=(hN 320).1 h;omega;exact h
  refine cD (λk=>((range k).map (O9 p (m)),(k:Int))) (jJ p.2.2.2.2.2.2.2.2.2.2.2.2.2.2.2.length m) (by omega) (λk nx hk=>?_) (λnx=>?_);have hkm:=(hN k).1 hk;have hk1:(k+1)*m=k*m+m:=by rw[cn,dN]
  have e1:(k:Int)*(m)=((k*m:Nat)):=by push_cast;rfl
  have e2:((k:Int)+1)*(m)=(((k+1)*m:Nat)):=by push_cast;rfl
  simp only[zv];rw[aj (n:=(k)+1) (by omega) (by omega),e1,e2,fQ (by omega),fQ (by omega),jP,af];have e3:(if(((k+1)*m:Nat):Int)<(p.2.2.2.2.2.2.2.2.2.2.2.2.2.2.2.length) then(((k+1)*m:Nat):Int) else(p.2.2.2.2.2.2.2.2.2.2.2.2.2.2.2.length))=((min ((k+1)*m) p.2.2.2.2.2.2.2.2.2.2.2.2.2.2.2.length)):=by split<;>omega
  rw[e3,Sh hkm hb,ab,mG,mG];rw[List.range_succ,List.map_append,List.map_singleton];simp only[O9,e1,e2,ay];cases decide ((((k+1)*m:Nat):Int)<(p.2.2.2.2.2.2.2.2.2.2.2.2.2.2.2.length))with|true=>rw[aQ (by simp;omega)];rfl|false=>simp only[ae];rw[aQ (by simp;omega)];rfl
  have hkm:¬jJ p.2.2.2.2.2.2.2.2.2.2.2.2.2.2.2.length m*m<p.2.2.2.2.2.2.2.2.2.2.2.2.2.2.2.length:=λh=>absurd ((hN _).2 h) (nw _);have hub:jJ p.2.2.2.2.2.2.2.2.2.2.2.2.2.2.2.length m*m<=320*128:=Nat.mul_le_mul Ie (by omega);have e1:((jJ p.2.2.2.2.2.2.2.2.2.2.2.2.2.2.2.length m):Int)*(m)=((jJ p.2.2.2.2.2.2.2.2.2.2.2.2.2.2.2.length m*m:Nat)):=by push_cast;rfl
  simp only[zv];rw[e1,fQ (by omega),gq];rfl
theorem abH (p:aS)(z:Int):E0 p z=some (DR p z):=by
 unfold E0 DR;simp only[pM,dh,ab];cases hs:ej p;rfl;cases hz:dH z 1 128;rfl;have hz':=bM.1 hz;have hb:=yq hs;simp only[ai,ae,dX,af,ab,cw,cT];cases hq:(p.2.2.2.2.2.2.2.2.1 !=6)||decide ((p.2.2.2.2.2.2.2.2.2.2.2.2.2.2.2.length)<=z)with
 |true=>rfl
 |false=>
  obtain⟨m,rfl⟩:=aI (show 0<=z by omega);have hN:∀k,k<jJ p.2.2.2.2.2.2.2.2.2.2.2.2.2.2.2.length m↔k*m<p.2.2.2.2.2.2.2.2.2.2.2.2.2.2.2.length:=λk=>LI;have Ie:jJ p.2.2.2.2.2.2.2.2.2.2.2.2.2.2.2.length m<=320:=by rcases bQ 320 (jJ p.2.2.2.2.2.2.2.2.2.2.2.2.2.2.2.length m)with h|h;have:=(hN 320).1 h;omega;exact h
  refine cD (λk=>((range k).map (O9 p (m)),(k:Int))) (jJ p.2.2.2.2.2.2.2.2.2.2.2.2.2.2.2.length m) (by omega) (λk nx hk=>?_) (λnx=>?_);have hkm:=(hN k).1 hk;have hk1:(k+1)*m=k*m+m:=by rw[cn,dN]
  have e1:(k:Int)*(m)=((k*m:Nat)):=by push_cast;rfl
  have e2:((k:Int)+1)*(m)=(((k+1)*m:Nat)):=by push_cast;rfl
  have pZ:=Sh hkm hb;simp only[yI];rw[aj (n:=(k)+1) (by omega) (by omega),e1,e2,fQ (by omega),fQ (by omega),jP,af];rw[List.range_succ,List.map_append,List.map_singleton];simp only[O9,e1,e2,ay];by_cases hc:(((k+1)*m:Nat):Int)<(p.2.2.2.2.2.2.2.2.2.2.2.2.2.2.2.length);rw[ax hc];rw[show min ((k+1)*m) p.2.2.2.2.2.2.2.2.2.2.2.2.2.2.2.length=(k+1)*m by omega]at pZ⊢;rw[pZ,ab,mG,mG,aQ (by simp;omega)];rfl;rw[aq hc];rw[show min ((k+1)*m) p.2.2.2.2.2.2.2.2.2.2.2.2.2.2.2.length=p.2.2.2.2.2.2.2.2.2.2.2.2.2.2.2.length by omega]at pZ⊢;rw[pZ,ab,mG,mG,aQ (by simp;omega)];rfl;have hkm:¬jJ p.2.2.2.2.2.2.2.2.2.2.2.2.2.2.2.length m*m<p.2.2.2.2.2.2.2.2.2.2.2.2.2.2.2.length:=λh=>absurd ((hN _).2 h) (nw _);have hub:jJ p.2.2.2.2.2.2.2.2.2.2.2.2.2.2.2.length m*m<=320*128:=Nat.mul_le_mul Ie (by omega);have e1:((jJ p.2.2.2.2.2.2.2.2.2.2.2.2.2.2.2.length m):Int)*(m)=((jJ p.2.2.2.2.2.2.2.2.2.2.2.2.2.2.2.length m*m:Nat)):=by push_cast;rfl
  simp only[yI];rw[e1,fQ (by omega),gq];rfl
theorem Jw (p:aS)(z:Int):(DR p z).length<=320:=by unfold DR;cases hs:ej p&&dH z 1 128;exact eH _;simp only[ah,bM]at hs;have hb:=yq hs.1;cases (p.2.2.2.2.2.2.2.2.1 !=6)||decide ((p.2.2.2.2.2.2.2.2.2.2.2.2.2.2.2.length)<=z)with|true=>simp only[af,bl];omega|false=>simp only[af,ae,cr,List.length_range];rcases bQ 320 (jJ p.2.2.2.2.2.2.2.2.2.2.2.2.2.2.2.length z.toNat)with h|h;have:=(LI).1 h;omega;exact h
def NG (acc:br)(p:aS):br:=bif (GP p).2 then acc++[(GP p).1] else acc
theorem NH (acc:br)(p:aS):(NG acc p).length<=acc.length+1:=by grind[NG]
def HJ (l:ar aS):br:=l.foldl NG []
theorem L7:∀(l:ar aS)(acc:br),(l.foldl NG acc).length<=acc.length+l.length
 |[],acc=>by simp
 |p::l,acc=>by have:=L7 l (NG acc p);grind[NH]
theorem Io:∀(l:ar aS)(acc:br),(∀x∈acc,x.length<=382)->∀x∈l.foldl NG acc,x.length<=382
 |[],acc,h=>h
 |p::l,acc,h=>by refine Io l _ (λx hx=>?_);grind[NG,abe]
theorem Zj (l:ar aS)(h:l.length<=10^9):zg l=some (HJ l):=by
 unfold zg HJ;have:=Et (T:=nV (λ(y3) (_)=>some y3) l) l (λ(s) i=>(s,(i))) (λi s=>s.length<=i) (λp s=> .ok (NG s p)) (λs=>some s) (by omega) (λi hi s nx hI=>?hs) (λi hi s s' hI hg=>?hn) (λs nx hI=>?hf) [] (by simp)
 case hs=>
  grind[nV,aX,aj,ab,acK,NG,aQ]
 all_goals grind[NH,nV,Kx]
theorem Yh (l:ar aS)(h:l.length<=10^9):yB l=some (HJ l):=by
 unfold yB HJ;have:=Et (T:=nB (λ(y3) (_)=>some y3) l (l.length)) l (λ(s) i=>(s,(i))) (λi s=>s.length<=i) (λp s=> .ok (NG s p)) (λs=>some s) (by omega) (λi hi s nx hI=>?hs) (λi hi s s' hI hg=>?hn) (λs nx hI=>?hf) [] (by simp)
 case hs=>
  grind[nB,aX,aj,ab,abz,NG,aQ]
 all_goals grind[NH,nB,Kx]
def R6 (p:aS)(z:Int):br:=HJ (DR p z)
theorem afz (p:aS)(z:Int):uV p z=some (R6 p z):=by have:=Jw p z;simp only[uV,acR,Zj _ (show(DR p z).length<=10^9 by omega),ab];rfl
theorem aeC (p:aS)(z:Int):uA p z=some (R6 p z):=by have:=Jw p z;simp only[uA,abH,Yh _ (show(DR p z).length<=10^9 by omega),ab];rfl
theorem acD (p:aS)(z:Int):(R6 p z).length<=320/\∀x∈R6 p z,x.length<=382:=by have:=Jw p z;have:=L7 (DR p z) [];exact⟨by grind[R6,HJ],Io _ [] (by simp)⟩
theorem D8 {a:Int}(h0:0<=a:=by omega)(h:a+2<=(s.length:Int):=by omega):0<=cx s a/\cx s a<=65535:=by grind[eY,cx,fJ]
theorem D9 {a:Int}(h0:0<=a:=by omega)(h:a+4<=(s.length:Int):=by omega):0<=fg s a/\fg s a<=4294967295:=by grind[eY,fg,fJ]
theorem aeO {x y:Int}(hx:0<=x/\x<=65535)(hy:0<=y/\y<=4294967295):ak (toNat (fR (ak (x*2^(rH 32)))|||fR y))=x*4294967296+y:=by have e:(2:Int)^(rH 32)=4294967296:=rfl;obtain⟨x,rfl⟩:=aI hx.1;obtain⟨y,rfl⟩:=aI hy.1;rw[e,aj (n:=(x:Int)*4294967296) (by omega) (by omega),show(x:Int)*4294967296=((2^32*x:Nat):Int) by omega,Jq x 32 y];omega
theorem aaj {x y:Int}(hx:0<=x/\x<=65535)(hy:0<=y/\y<=4294967295):ak (ak (x*2^(rH 32))+y)=x*4294967296+y:=by grind[IntKind.bits,aj]
theorem DA {l:ar α}{n:Int}(h0:0<=n)(h1:n<=(l.length:Int)):sub l 0 n=some (l.take n.toNat):=by grind[sub]
theorem sX {l:ar α}(k:Nat)(h:k<=l.length:=by omega){a:Int}(ha:a=(k:Int):=by omega):sub l a (l.length:Int)=some (l.drop k):=by simp_all[sub]
theorem KR {l:ar α}(k:Nat){a n:Int}(ha:a=(k:Int))(h0:a<=n)(h1:n<=(l.length:Int)):sub l a n=some ((l.take n.toNat).drop k):=by grind[sub]
def EH (s:Bytes):Bytes×Bool:=bif decide ((s.length:Int)<4) then([],false) else bif FU (s.take ((s.length:Int)-4).toNat)==s then(s.take ((s.length:Int)-4).toNat,true) else([],false)
theorem Zg (s:Bytes)(h:s.length<=10^9):za s=some (EH s):=by unfold za EH;rw[aj (n:=(s.length:Int)-4) (by omega) (by omega)];by_cases h4:(s.length:Int)<4;rw[ax h4];rfl;rw[aq h4,DA (by omega) (by omega)];simp only[ae,ab,aaA _ (show(s.take ((s.length:Int)-4).toNat).length<=10^9 by rw[bm];omega)];cases FU (s.take ((s.length:Int)-4).toNat)==s<;>rfl
theorem Ye (s:Bytes)(h:s.length<=10^9):yx s=some (EH s):=by unfold yx EH;rw[aj (n:=(s.length:Int)-4) (by omega) (by omega)];by_cases h4:(s.length:Int)<4;rw[ax (show(s.length:Int)-4<0 by omega),ax h4];rfl;rw[aq (show¬(s.length:Int)-4<0 by omega),aq h4,DA (by omega) (by omega)];simp only[ae,ab,aad _ (show(s.take ((s.length:Int)-4).toNat).length<=10^9 by rw[bm];omega)];cases FU (s.take ((s.length:Int)-4).toNat)==s<;>rfl
def agc:P7:=(0,0,0,0,([]:Bytes))
def IB (s:Bytes)(a:Int):Int:=cx s a*4294967296+fg s (a+2)
def N0 (s:Bytes):P7:=(IB s 0,IB s 6,cx s 14,cx s 16,s.drop 18)
def D3 (s:Bytes):P7:=(IB s 0,IB s 6, -1,cx s 12,s.drop 14)
def fP (s:Bytes):P7×Bool:=bif decide ((s.length:Int)<18) then(agc,false) else
 bif cx s 12==33024 then(bif BQ (N0 s) then(N0 s,true) else(agc,false)) else bif BQ (D3 s) then(D3 s,true) else(agc,false)
theorem T0 (s:Bytes)(h:s.length<=10^9):zn s=some (fP s):=by unfold zn fP;by_cases h8:(s.length:Int)<18;rw[ax h8];rfl;rw[aq h8];simp only[ae,sC s _ h,BJ s _ h,ab];rw[mG,mG,sX (l:=s) 14 (by omega) (show(14:Int)=((14:Nat):Int) from rfl),ab,sX (l:=s) 18 (by omega) (show(18:Int)=((18:Nat):Int) from rfl)];rw[aaj (D8 (s:=s) (a:=0)) (D9 (s:=s) (a:=2)),aaj (D8 (s:=s) (a:=6)) (D9 (s:=s) (a:=8))];simp only[ab,LR];rw[show((cx s 0*4294967296+fg s 2,cx s 6*4294967296+fg s 8,cx s 14,cx s 16,s.drop 18):P7)=N0 s from rfl,show((cx s 0*4294967296+fg s 2,cx s 6*4294967296+fg s 8, -1,cx s 12,s.drop 14):P7)=D3 s from rfl];cases cx s 12==33024<;>cases BQ (N0 s)<;>cases BQ (D3 s)<;>rfl
theorem J9 (s:Bytes)(h:s.length<=10^9):tI s=some (fP s):=by
 unfold tI fP;by_cases h4:(s.length:Int)<14;rw[ax h4,ax (show(s.length:Int)<18 by omega)];rfl;rw[aq h4];simp only[ae,xY s _ h,BE s _ h,ab];rw[mG,mG,sX (l:=s) 14 (by omega) (show(14:Int)=((14:Nat):Int) from rfl),ab];rw[aeO (D8 (s:=s) (a:=0)) (D9 (s:=s) (a:=2)),aeO (D8 (s:=s) (a:=6)) (D9 (s:=s) (a:=8))];simp only[ab,Rq];rw[show((cx s 0*4294967296+fg s 2,cx s 6*4294967296+fg s 8, -1,cx s 12,s.drop 14):P7)=D3 s from rfl];by_cases h8:(s.length:Int)<18;have hB:BQ (D3 s)=false:=by
  unfold BQ D3;have:dH ((s.drop 14).length:Int) 46 400=false:=by rw[Bool.eq_false_iff,ne_eq,bM,bf];omega
  simp only[this,jD]
 rw[ax h8,aq (show¬(s.length:Int)>=18 by omega),hB];cases cx s 12==33024<;>rfl;rw[aq h8,ax (show(s.length:Int)>=18 by omega),sX (l:=s) 18 (by omega) (show(18:Int)=((18:Nat):Int) from rfl)];simp only[ab];rw[show((cx s 0*4294967296+fg s 2,cx s 6*4294967296+fg s 8,cx s 14,cx s 16,s.drop 18):P7)=N0 s from rfl];cases cx s 12==33024<;>cases BQ (N0 s)<;>cases BQ (D3 s)<;>rfl
def ip0:Ip:=(0,0,0,0,0,0,([]:Bytes))
def Jn (s:Bytes):Ip:=((bI s 1:Int),cx s 4,(bI s 8:Int),(bI s 9:Int),fg s 12,fg s 16,(s.take (cx s 2).toNat).drop 20)
def mr (s:Bytes):Ip×Bool:=bif decide ((s.length:Int)<20)||(decide (cx s 2<20)||decide (cx s 2>(s.length:Int))) then(ip0,false) else
 bif (ipR (Jn s)).2&&((ipR (Jn s)).1==s.take (cx s 2).toNat) then(Jn s,true) else(ip0,false)
theorem Wz (s:Bytes)(h:s.length<=10^9):Bo s=some (mr s):=by
 unfold Bo mr;simp only[sC s _ h,BJ s _ h,ab];by_cases h1:(s.length:Int)<20;rw[ax h1];rfl;by_cases h2:cx s 2<20;rw[aq h1,ax h2];rfl;by_cases h3:cx s 2>(s.length:Int);rw[aq h1,aq h2,ax h3];rfl;rw[aq h1,aq h2,aq h3];have b1:=kt (s[1]'(by omega));have b8:=kt (s[8]'(by omega));have b9:=kt (s[9]'(by omega));have i1:idx s 1=some (s[1]'(by omega)):=aX (i:=1) (by omega);have i8:idx s 8=some (s[8]'(by omega)):=aX (i:=8) (by omega);have i9:idx s 9=some (s[9]'(by omega)):=aX (i:=9) (by omega);simp only[ae,ab,bU,i1,i8,i9];rw[KR (l:=s) 20 (show(20:Int)=((20:Nat):Int) from rfl) (by omega) (by omega),DA (by omega) (by omega),fQ (n:=(s[1]'(by omega)).toNat) (by omega),fQ (n:=(s[8]'(by omega)).toNat) (by omega),fQ (n:=(s[9]'(by omega)).toNat) (by omega)];have e:(((s[1]'(by omega)).toNat:Int),cx s 4,((s[8]'(by omega)).toNat:Int),((s[9]'(by omega)).toNat:Int),fg s 12,fg s 16,(s.take (cx s 2).toNat).drop 20)=Jn s:=by grind[Jn,bI]
 simp only[ab,e,afs];cases (ipR (Jn s)).2<;>cases (ipR (Jn s)).1==s.take (cx s 2).toNat<;>rfl
theorem VA (s:Bytes)(h:s.length<=10^9):Ba s=some (mr s):=by
 unfold Ba mr;simp only[xY s _ h,BE s _ h,ab];by_cases h1:(s.length:Int)<20;rw[ax h1];rfl;by_cases h2:cx s 2<20;rw[aq h1,ax h2];rfl;by_cases h3:cx s 2>(s.length:Int);rw[aq h1,aq h2,ax h3];rfl;rw[aq h1,aq h2,aq h3];have b1:=kt (s[1]'(by omega));have b8:=kt (s[8]'(by omega));have b9:=kt (s[9]'(by omega));have i1:idx s 1=some (s[1]'(by omega)):=aX (i:=1) (by omega);have i8:idx s 8=some (s[8]'(by omega)):=aX (i:=8) (by omega);have i9:idx s 9=some (s[9]'(by omega)):=aX (i:=9) (by omega);simp only[ae,ab,bU,i1,i8,i9];rw[KR (l:=s) 20 (show(20:Int)=((20:Nat):Int) from rfl) (by omega) (by omega),DA (by omega) (by omega),fQ (n:=(s[1]'(by omega)).toNat) (by omega),fQ (n:=(s[8]'(by omega)).toNat) (by omega),fQ (n:=(s[9]'(by omega)).toNat) (by omega)];have e:(((s[1]'(by omega)).toNat:Int),cx s 4,((s[8]'(by omega)).toNat:Int),((s[9]'(by omega)).toNat:Int),fg s 12,fg s 16,(s.take (cx s 2).toNat).drop 20)=Jn s:=by grind[Jn,bI]
 simp only[ab,e,aeu];cases (ipR (Jn s)).2<;>cases (ipR (Jn s)).1==s.take (cx s 2).toNat<;>rfl
def ais:dD:=(0,0,0,0,0,0,0,([]:Bytes))
def Po (k:Int)(s:Bytes):dD:=(k,cx s 0,cx s 2,fg s 4,fg s 8,(bI s 13:Int),cx s 14,s.drop 20)
def TU (k:Int)(s:Bytes):dD:=(k,cx s 0,cx s 2,0,0,0,0,s.drop 8)
def ua (a b k:Int)(s:Bytes):dD×Bool:=
 bif (k==6)&&decide ((s.length:Int)>=20) then(bif (DP a b (Po k s)).2&&((DP a b (Po k s)).1==s) then(Po k s,true) else(ais,false)) else
 bif (k==17)&&decide ((s.length:Int)>=8) then(bif (DP a b (TU k s)).2&&((DP a b (TU k s)).1==s) then(TU k s,true) else(ais,false)) else(ais,false)
theorem T1 (a b k:Int)(s:Bytes)(h:s.length<=10^9):qD a b k s=some (ua a b k s):=by
 unfold qD ua;simp only[sC s _ h,BJ s _ h,ab];rw[show(aa (cond (k==6) (some (decide ((s.length:Int)>=20))) (some false)):(Bool->aw (dD×Bool))->aw (dD×Bool))=λK=>K ((k==6)&&decide ((s.length:Int)>=20)) from by funext K;cases k==6<;>rfl];rw[show(aa (cond (k==17) (some (decide ((s.length:Int)>=8))) (some false)):(Bool->aw (dD×Bool))->aw (dD×Bool))=λK=>K ((k==17)&&decide ((s.length:Int)>=8)) from by funext K;simp_all];simp only;cases h1:(k==6)&&decide ((s.length:Int)>=20)with
 |true=>
  simp only[ah,bE]at h1;have bb:=kt (s[13]'(by omega));have i:idx s 13=some (s[13]'(by omega)):=aX (i:=13) (by omega);have e:(k,cx s 0,cx s 2,fg s 4,fg s 8,((s[13]'(by omega)).toNat:Int),cx s 14,s.drop 20)=Po k s:=by grind[Po,bI]
  simp only[af,i,ab];rw[sX (l:=s) 20 (by omega) (show(20:Int)=((20:Nat):Int) from rfl),fQ (n:=(s[13]'(by omega)).toNat) (by omega)];simp only[ab,e,Hl];cases (DP a b (Po k s)).2<;>cases (DP a b (Po k s)).1==s<;>rfl
 |false=>simp only[ae];cases h2:(k==17)&&decide ((s.length:Int)>=8)with|false=>rfl|true=>simp only[ah,bE]at h2;rw[sX (l:=s) 8 (by omega) (show(8:Int)=((8:Nat):Int) from rfl)];simp only[af,ab,show((k,cx s 0,cx s 2,0,0,0,0,s.drop 8):dD)=TU k s from rfl,Hl];cases (DP a b (TU k s)).2<;>cases (DP a b (TU k s)).1==s<;>rfl
theorem Ti (a b k:Int)(s:Bytes)(h:s.length<=10^9):qm a b k s=some (ua a b k s):=by
 unfold qm ua;simp only[xY s _ h,BE s _ h,ab];rw[show(aa (cond (k==6) (some (decide ((s.length:Int)>=20))) (some false)):(Bool->aw (dD×Bool))->aw (dD×Bool))=λK=>K ((k==6)&&decide ((s.length:Int)>=20)) from by funext K;cases k==6<;>rfl];rw[show(aa (cond (k==17) (some (decide ((s.length:Int)>=8))) (some false)):(Bool->aw (dD×Bool))->aw (dD×Bool))=λK=>K ((k==17)&&decide ((s.length:Int)>=8)) from by funext K;simp_all];simp only;cases h1:(k==6)&&decide ((s.length:Int)>=20)with
 |true=>
  simp only[ah,bE]at h1;have bb:=kt (s[13]'(by omega));have i:idx s 13=some (s[13]'(by omega)):=aX (i:=13) (by omega);have e:(k,cx s 0,cx s 2,fg s 4,fg s 8,((s[13]'(by omega)).toNat:Int),cx s 14,s.drop 20)=Po k s:=by grind[Po,bI]
  simp only[af,i,ab];rw[sX (l:=s) 20 (by omega) (show(20:Int)=((20:Nat):Int) from rfl),fQ (n:=(s[13]'(by omega)).toNat) (by omega)];simp only[ab,e,G3];cases (DP a b (Po k s)).2<;>cases (DP a b (Po k s)).1==s<;>rfl
 |false=>simp only[ae];cases h2:(k==17)&&decide ((s.length:Int)>=8)with|false=>rfl|true=>simp only[ah,bE]at h2;rw[sX (l:=s) 8 (by omega) (show(8:Int)=((8:Nat):Int) from rfl)];simp only[af,ab,show((k,cx s 0,cx s 2,0,0,0,0,s.drop 8):dD)=TU k s from rfl,G3];cases (DP a b (TU k s)).2<;>cases (DP a b (TU k s)).1==s<;>rfl
def pk0:aS:=(0,0,0,0,0,0,0,0,0,0,0,0,0,0,0,([]:Bytes))
def vH (s:Bytes):aS×Int:=
 let e:=fP s
 bif !e.2||(e.1.2.2.2.1 !=2048) then(pk0,2) else
 let i:=mr e.1.2.2.2.2
 bif !i.2 then(pk0,3) else
 let g:=ua i.1.2.2.2.2.1 i.1.2.2.2.2.2.1 i.1.2.2.2.1 i.1.2.2.2.2.2.2
 bif !g.2 then(pk0,4) else
 bif !ej (e.1.1,e.1.2.1,e.1.2.2.1,i.1.1,i.1.2.1,i.1.2.2.1,i.1.2.2.2.2.1,i.1.2.2.2.2.2.1,g.1) then(pk0,5) else
 ((e.1.1,e.1.2.1,e.1.2.2.1,i.1.1,i.1.2.1,i.1.2.2.1,i.1.2.2.2.2.1,i.1.2.2.2.2.2.1,g.1),0)
theorem Fp (s:Bytes):(fP s).1.2.2.2.2.length<=s.length:=by grind[fP,agc,N0,D3]
theorem Mt (s:Bytes):(mr s).1.2.2.2.2.2.2.length<=s.length:=by grind[mr,ip0,Jn]
theorem H0 (s:Bytes)(h:s.length<=10^9):iD s=some (vH s):=by
 have h1:=Fp s;unfold iD vH;rw[T0 s h,ab];generalize fP s=e at h1⊢;have h2:=Mt e.1.2.2.2.2;simp only;cases e.2;rfl;cases e.1.2.2.2.1 !=2048;case true=>rfl
 simp only[ai,ae,ab,bU,Wz _ (show e.1.2.2.2.2.length<=10^9 by omega)];generalize mr e.1.2.2.2.2=i at h2⊢;cases i.2;rfl;simp only[ai,ae,ab,T1 _ _ _ _ (show i.1.2.2.2.2.2.2.length<=10^9 by omega)];generalize ua i.1.2.2.2.2.1 i.1.2.2.2.2.2.1 i.1.2.2.2.1 i.1.2.2.2.2.2.2=g;cases g.2;rfl;simp only[ai,ae,ab,sD];cases ej (e.1.1,e.1.2.1,e.1.2.2.1,i.1.1,i.1.2.1,i.1.2.2.1,i.1.2.2.2.2.1,i.1.2.2.2.2.2.1,g.1)<;>rfl
theorem HO (s:Bytes)(h:s.length<=10^9):iA s=some (vH s):=by
 have h1:=Fp s;unfold iA vH;rw[J9 s h,ab];generalize fP s=e at h1⊢;have h2:=Mt e.1.2.2.2.2;simp only;cases e.2;rfl;cases e.1.2.2.2.1 !=2048;case true=>rfl
 simp only[ai,ae,ab,bU,VA _ (show e.1.2.2.2.2.length<=10^9 by omega)];generalize mr e.1.2.2.2.2=i at h2⊢;cases i.2;rfl;simp only[ai,ae,ab,Ti _ _ _ _ (show i.1.2.2.2.2.2.2.length<=10^9 by omega)];generalize ua i.1.2.2.2.2.1 i.1.2.2.2.2.2.1 i.1.2.2.2.1 i.1.2.2.2.2.2.2=g;cases g.2;rfl;simp only[ai,ae,ab,pM];cases ej (e.1.1,e.1.2.1,e.1.2.2.1,i.1.1,i.1.2.1,i.1.2.2.1,i.1.2.2.2.2.1,i.1.2.2.2.2.2.1,g.1)<;>rfl
def Eo (s:Bytes):aS×Int:=
 let c:=EH s
 bif !c.2 then(pk0,1) else
 let r:=vH c.1
 bif r.2 !=0 then(pk0,r.2) else
 bif !jI r.1 then(pk0,5) else(r.1,0)
theorem NU (s:Bytes):(EH s).1.length<=s.length:=by grind[EH]
theorem acM (s:Bytes)(h:s.length<=10^9):xy s=some (Eo s):=by
 have h1:=NU s;unfold xy Eo;rw[Zg s h,ab];generalize EH s=c at h1⊢;simp only;cases c.2;rfl;simp only[ai,ae,ab,H0 _ (show c.1.length<=10^9 by omega)];generalize vH c.1=r;cases r.2 !=0;case true=>rfl
 simp only[ae,ab,FA];cases jI r.1<;>rfl
theorem abC (s:Bytes)(h:s.length<=10^9):wv s=some (Eo s):=by
 have h1:=NU s;unfold wv Eo;rw[Ye s h,ab];generalize EH s=c at h1⊢;simp only;cases c.2;rfl;simp only[ai,ae,ab,HO _ (show c.1.length<=10^9 by omega)];generalize vH c.1=r;cases r.2 !=0;case true=>rfl
 simp only[ae,ab,EW];cases jI r.1<;>rfl
theorem fT (a:br)(h:a.length<=1073741824:=by omega):dc a=some a:=by simp_all[dc,kR,aQ]
theorem hU (a:br)(h:a.length<=1073741824:=by omega):dp a=some a:=by grind[dp,aQ]
theorem MW (l:br)(h:l.length<=10^9):kR l=some l:=by grind[kR,gk]
theorem OB (f:Filter)(h:f.2.2.length<=10^9):uE f=some f:=by grind[uE,om,ab]
theorem Ps (f:Filter)(h:f.2.2.length<=10^9):Bv f=some f:=by simp only[Bv,gk h,bR]
theorem Ar (l:ar Stream)(h:l.length<=10^9:=by omega):kQ l=some l:=by grind[kQ,gk]
theorem Qs (t:ar Slot)(h:t.length<=10^9):wC t=some t:=by grind[wC,gk]
theorem OC (s:gJ)(h:s.2.length<=10^9):uF s=some s:=by grind[uF,om,ab]
theorem Qr (s:dW)(h1:s.1.length<=10^9)(h2:s.2.1.length<=10^9)(h3:s.2.2.2.length<=10^9):qq s=some s:=by simp only[qq,gk h1,Qs _ h2,OC _ h3,ab,bR]
theorem QJ (t:ar Slot)(h:t.length<=10^9):Bq t=some t:=by grind[Bq,gk]
theorem QI (s:dW)(h1:s.1.length<=10^9)(h2:s.2.1.length<=10^9)(h3:s.2.2.2.length<=10^9):Bs s=some s:=by simp only[Bs,gk h1,QJ _ h2,gk h3,ab,bR]
theorem R7 (l:ar gE)(i:Nat)(hi:i<l.length):l.take i++[(l[i].1,l[i].2.1,l[i].2.2)]=l.take (i+1):=(bj hi).symm
theorem J5 (l:ar gE)(h:l.length<=10^9)(hx:∀x∈l,x.2.2.length<=10^9):tL l=some l:=by unfold tL;refine(cD (λi=>(l.take i,(i:Int))) l.length (by omega) (λi nx hi=>?_) (λnx=>?_));simp only[sm];rw[jP,aX hi,aj (by omega) (by omega)];simp only[af,ab,om _ (hx _ (bh hi))];rw[aQ (by simp;omega),R7 l i hi];rfl;simp only[sm];rw[gq,df];rfl
structure Xn (t:bA):Prop where
 p:t.2.1.2.2.2.length<=10^9
 w:t.2.2.1.length<=10^9
 x:∀x∈t.2.2.1,x.2.2.length<=10^9
theorem Jj (t:bA)(z:Xn t):qV t=some t:=by simp only[qV,vq _ z.p,J5 _ z.w z.x,ab]
theorem CH (t:bA)(z:Xn t):jl t=some t:=by have h:=z.w;unfold jl;simp only[yb _ z.p,ab];refine(cD (λi=>((i:Int),t.1,t.2.1,t.2.2.1.take i,t.2.2.2)) t.2.2.1.length (by omega) (λi nx hi=>?_) (λnx=>?_));simp only[vf];rw[jP,aX hi,aj (by omega) (by omega)];simp only[af,ab,gk (z.x _ (bh hi)),bR];rw[aQ (by simp;omega),R7 _ i hi];rfl;simp only[vf];rw[gq,df];rfl
theorem ahy (z:bu 1000000000 cK h):Xn h.2.2.1:=⟨z.2.2.1.2.1.2.2.2.1,z.2.2.1.2.2.1.1,λx hx=>(z.2.2.1.2.2.1.2 x hx).2.2.1⟩
theorem kx (h:Host)(z:bu 1000000000 cK h):gR h=some h:=by have hp:h.2.2.2.2.1.length<=10^9:=z.2.2.2.2.1.1;have hm:h.1.length<=10^9:=z.1.1;unfold gR;simp only[fT _ (show h.1.length<=1073741824 by omega),wB,gk z.2.1.1,Jj _ (ahy z),gk z.2.2.2.1.1,ab,bR];refine(cD (λi=>((i:Int),h.1,h.2.1,h.2.2.1,h.2.2.2.1,h.2.2.2.2.1.take i,h.2.2.2.2.2)) h.2.2.2.2.1.length (by omega) (λi nx hi=>?_) (λnx=>?_));simp only[sk];rw[jP,aX hi,aj (by omega) (by omega)];simp only[af,ab,vq _ (z.2.2.2.2.1.2 _ (bh hi)).2.2.2.1];rw[aQ (by simp;omega),<-bj hi];rfl;simp only[sk];rw[gq,df];simp only[ae,gk z.2.2.2.2.2.1.1,gk z.2.2.2.2.2.2.1.1,OB _ z.2.2.2.2.2.2.2.1.2.2.1,Qr _ z.2.2.2.2.2.2.2.2.1.1.1 z.2.2.2.2.2.2.2.2.1.2.1.1 z.2.2.2.2.2.2.2.2.1.2.2.2.1,Ar _ z.2.2.2.2.2.2.2.2.2.1.1,MW _ z.2.2.2.2.2.2.2.2.2.2.2.1.1,om _ z.2.2.2.2.2.2.2.2.2.2.2.2.1.1,om _ z.2.2.2.2.2.2.2.2.2.2.2.2.2.1.1,ab,bR]
theorem kC (h:Host)(z:bu 1000000000 cK h):iE h=some h:=by have hp:h.2.2.2.2.1.length<=10^9:=z.2.2.2.2.1.1;have hm:h.1.length<=10^9:=z.1.1;unfold iE;simp only[hU _ (show h.1.length<=1073741824 by omega),gk z.2.1.1,CH _ (ahy z),gk z.2.2.2.1.1,ab,bR];refine(cD (λi=>((i:Int),h.1,h.2.1,h.2.2.1,h.2.2.2.1,h.2.2.2.2.1.take i,h.2.2.2.2.2)) h.2.2.2.2.1.length (by omega) (λi nx hi=>?_) (λnx=>?_));simp only[vg];rw[jP,aX hi,aj (by omega) (by omega)];simp only[af,ab,yb _ (z.2.2.2.2.1.2 _ (bh hi)).2.2.2.1];rw[aQ (by simp;omega),<-bj hi];rfl;simp only[vg];rw[gq,df];simp only[ae,gk z.2.2.2.2.2.1.1,gk z.2.2.2.2.2.2.1.1,Ps _ z.2.2.2.2.2.2.2.1.2.2.1,QI _ z.2.2.2.2.2.2.2.2.1.1.1 z.2.2.2.2.2.2.2.2.1.2.1.1 z.2.2.2.2.2.2.2.2.1.2.2.2.1,gk z.2.2.2.2.2.2.2.2.2.1.1,gk z.2.2.2.2.2.2.2.2.2.2.2.1.1,gk z.2.2.2.2.2.2.2.2.2.2.2.2.1.1,gk z.2.2.2.2.2.2.2.2.2.2.2.2.2.1.1,ab,bR]
theorem ZU:∀l:ar gE,(ch l).length<=rG (.sl kH) l
 |[]=>by simp[ch]
 |x::l=>by have:=ZU l;grind[ch,rG]
def atF (f:FW)(s:Stream):Bool:=decide (s.1=f)
def M9 (l:ar Stream)(f:FW):Int:=match l.findIdx? (atF f)with|some i=>(i:Int)|none=> -1
theorem afA (l:ar Stream)(f:FW)(h:l.length<=10^9):sO l f=some (M9 l f):=by unfold sO M9;rw[HF (p:=atF f) (hit:=λi=>some i) (fin:=some (-1)) l (by omega) (λi hi nx=>?hs) (λnx=>?hf)];all_goals grind[tt,aX,aj,ab,atF]
theorem aeD (l:ar Stream)(f:FW)(h:l.length<=10^9):rZ l f=some (M9 l f):=by unfold rZ M9;rw[HF (p:=atF f) (hit:=λi=>some i) (fin:=some (-1)) l (by omega) (λi hi nx=>?hs) (λnx=>?hf)];all_goals grind[ti,aX,aj,ab,atF]
def Zx:Stream:=((0,0,0,0,0),0,([]:Bytes),false)
def body (p:aS):Bytes:=p.2.2.2.2.2.2.2.2.2.2.2.2.2.2.2
def udp (p:aS):Bytes:=bW ((body p).length:Int)++body p
def Aj (p:aS)(b:Int):Bool:=ak (toNat (fR p.2.2.2.2.2.2.2.2.2.2.2.2.2.1&&&fR b)) !=0
def qK (s:Stream)(p:aS):Int:=(s.2.1-p.2.2.2.2.2.2.2.2.2.2.2.1)%4294967296
def ag9 (s:Stream)(p:aS):Stream:=(s.1,(s.2.1+((body p).length:Int)-qK s p)%4294967296,s.2.2.1++(body p).drop (qK s p).toNat,Aj p 1)
def BN (l:ar Stream)(p:aS):ar Stream:=
 bif !ej p then l else
 match l.findIdx? (atF (mI p))with
 |none=>
  bif p.2.2.2.2.2.2.2.2.1==17 then l++[(mI p,0,udp p,false)] else
  bif Aj p 2 then l++[(mI p,tmod (ak (p.2.2.2.2.2.2.2.2.2.2.2.1+1)) 4294967296,([]:Bytes),false)] else l
 |some i=>
  bif p.2.2.2.2.2.2.2.2.1==17 then l.set i ((l.getD i Zx).1,(l.getD i Zx).2.1,(l.getD i Zx).2.2.1++udp p,(l.getD i Zx).2.2.2) else
  bif Aj p 2 then l else
  bif (l.getD i Zx).2.2.2||Aj p 4 then l else
  bif decide (qK (l.getD i Zx) p<=((body p).length:Int)) then l.set i (ag9 (l.getD i Zx) p) else l
theorem Ux (s:Stream)(p:aS):0<=qK s p/\qK s p<4294967296:=by unfold qK;omega
theorem aeR (x:Int):ak (toNat (fR x&&&fR 4294967295))=x%4294967296:=by have:=D1 x 32;grind[aj]
theorem afT (x:Int):ak x%4294967296=x%4294967296:=by have:=Ey x 32;omega
theorem KB (l:ar α)(x y:α):(l++[x]).set l.length y=l++[y]:=by grind
theorem aaa {l:ar α}{i:Nat}(h:i<l.length)(x:α):idx (l.set i x) (i:Int)=some x:=by rw[Np,List.getElem?_set_self h]
theorem AR (l:ar α)(x:α):idx (l++[x]) (l.length:Int)=some x:=by grind[Np]
theorem NN (h:ej p=true):(body p).length<=320:=yq h
theorem Tf (l:ar Stream)(p:aS)(h:bu 900000000 (.sl dE) l):AX l p=some (BN l p):=by
 have hl:l.length<=900000000:=h.1;unfold AX BN;simp only[Ar l,pM,ab,OE,aeD l _ (show l.length<=10^9 by omega),kY];cases hs:ej p;rfl;have hb:=NN hs;have hw:=bt ((body p).length:Int);simp only[ai,ae];rw[show p.2.2.2.2.2.2.2.2.2.2.2.2.2.2.2=body p from rfl];cases hf:l.findIdx? (atF (mI p))with
 |none=>
  have e1:M9 l (mI p)= -1:=by rw[M9,hf]
  simp only[e1,show decide ((-1:Int)<0)=true from rfl,af];cases p.2.2.2.2.2.2.2.2.1==17 with|true=>simp only[af];rw[aQ (by simp;omega),AR,ab];simp only;rw[aQ (by omega),aQ (by simp only[au,eh];omega),ab,ay];simp only[ab,AR,KB,bR];rfl|false=>simp only[ae];rw[show(ak (toNat (fR p.2.2.2.2.2.2.2.2.2.2.2.2.2.1&&&fR 2)) !=0)=Aj p 2 from rfl];cases Aj p 2 with|true=>simp only[af];rw[mG,aQ (by simp;omega)]|false=>rfl
 |some i=>
  obtain⟨hi,_⟩:=List.findIdx?_eq_some_iff_getElem.1 hf;have hd:(l[i].2.2.1).length<=900000000:=(h.2 _ (bh hi)).2.2.1;have e1:M9 l (mI p)=(i:Int):=by rw[M9,hf]
  simp only[e1,aq (show¬(i:Int)<0 by omega),ae,aX hi,ab,fM hi,ay];cases p.2.2.2.2.2.2.2.2.1==17 with
  |true=>simp only[af];rw[aQ (by omega),aQ (by simp only[au];omega)];rfl
  |false=>
   simp only[ae];rw[show(ak (toNat (fR p.2.2.2.2.2.2.2.2.2.2.2.2.2.1&&&fR 2)) !=0)=Aj p 2 from rfl,show(ak (toNat (fR p.2.2.2.2.2.2.2.2.2.2.2.2.2.1&&&fR 4)) !=0)=Aj p 4 from rfl,show(ak (toNat (fR p.2.2.2.2.2.2.2.2.2.2.2.2.2.1&&&fR 1)) !=0)=Aj p 1 from rfl];cases Aj p 2;case true=>rfl
   simp only[ae];rw[show(aa (cond l[i].2.2.2 (some true) (some (Aj p 4))):(Bool->aw (ar Stream))->aw (ar Stream))=λK=>K (l[i].2.2.2||Aj p 4) from by funext K;cases l[i].2.2.2<;>rfl];simp only;cases l[i].2.2.2||Aj p 4;case true=>rfl
   simp only[ae,Ly _ 4294967296,ab,afT];rw[show(l[i].2.1-p.2.2.2.2.2.2.2.2.2.2.2.1)%4294967296=qK l[i] p from rfl];have ha:=Ux l[i] p;by_cases hq:qK l[i] p<=((body p).length:Int)
   rw[ax hq,sX (l:=body p) (qK l[i] p).toNat];simp only[af,ab];rw[aQ (by rw[bf];omega)];simp only[aaa hi,ab,ei];refine congrArg some (congrArg (l.set i) ?_);simp only[ag9];rw[show(ak (l[i].2.1+((body p).length:Int))-qK l[i] p)%4294967296=(l[i].2.1+((body p).length:Int)-qK l[i] p)%4294967296 from by rw[Int.sub_emod,afT,<-Int.sub_emod]];rw[aq hq];rfl
theorem TX (l:ar Stream)(p:aS)(h:bu 900000000 (.sl dE) l):Bl l p=some (BN l p):=by
 have hl:l.length<=900000000:=h.1;unfold Bl BN;rw[gk (by omega)];simp only[bR,sD,ab,Pv,afA l _ (show l.length<=10^9 by omega),hZ];cases hs:ej p;rfl;have hb:=NN hs;have hw:=bt ((body p).length:Int);simp only[ai,ae];rw[show p.2.2.2.2.2.2.2.2.2.2.2.2.2.2.2=body p from rfl];cases hf:l.findIdx? (atF (mI p))with
 |none=>
  have e1:M9 l (mI p)= -1:=by rw[M9,hf]
  simp only[e1,show decide ((-1:Int)<0)=true from rfl,af];cases p.2.2.2.2.2.2.2.2.1==17 with|true=>simp only[af];rw[aQ (by simp;omega),AR,ab];simp only;rw[aQ (by simp only[eh];omega),aQ (by simp only[au,eh];omega),ab,ay];simp only[ab,AR,KB,bR];rfl|false=>simp only[ae];rw[show(ak (toNat (fR p.2.2.2.2.2.2.2.2.2.2.2.2.2.1&&&fR 2)) !=0)=Aj p 2 from rfl];cases Aj p 2 with|true=>simp only[af];rw[mG,aQ (by simp;omega)]|false=>rfl
 |some i=>
  obtain⟨hi,_⟩:=List.findIdx?_eq_some_iff_getElem.1 hf;have hd:(l[i].2.2.1).length<=900000000:=(h.2 _ (bh hi)).2.2.1;have e1:M9 l (mI p)=(i:Int):=by rw[M9,hf]
  simp only[e1,aq (show¬(i:Int)<0 by omega),ae,aX hi,ab,fM hi,ay];cases p.2.2.2.2.2.2.2.2.1==17 with
  |true=>simp only[af];rw[aQ (by omega),aQ (by simp only[au];omega),aN];rfl
  |false=>
   simp only[ae];rw[show(ak (toNat (fR p.2.2.2.2.2.2.2.2.2.2.2.2.2.1&&&fR 2)) !=0)=Aj p 2 from rfl,show(ak (toNat (fR p.2.2.2.2.2.2.2.2.2.2.2.2.2.1&&&fR 4)) !=0)=Aj p 4 from rfl,show(ak (toNat (fR p.2.2.2.2.2.2.2.2.2.2.2.2.2.1&&&fR 1)) !=0)=Aj p 1 from rfl];cases Aj p 2;case true=>rfl
   simp only[ae];rw[show(aa (cond l[i].2.2.2 (some true) (some (Aj p 4))):(Bool->aw (ar Stream))->aw (ar Stream))=λK=>K (l[i].2.2.2||Aj p 4) from by funext K;cases l[i].2.2.2<;>rfl];simp only;cases l[i].2.2.2||Aj p 4;case true=>rfl
   simp only[ae,aeR,ab,afT];rw[show(l[i].2.1-p.2.2.2.2.2.2.2.2.2.2.2.1)%4294967296=qK l[i] p from rfl];have ha:=Ux l[i] p;by_cases hq:qK l[i] p<=((body p).length:Int)
   rw[ax hq,sX (l:=body p) (qK l[i] p).toNat];simp only[af,ab];rw[aQ (by rw[bf];omega)];simp only[aaa hi,ab,ei,aF (show¬(4294967296:Nat)=0 by omega)];refine congrArg some (congrArg (l.set i) ?_);simp only[ag9];have e:tmod (ak (ak (l[i].2.1%4294967296+((body p).length:Int))-qK l[i] p)) 4294967296=(l[i].2.1+((body p).length:Int)-qK l[i] p)%4294967296:=by rw[aj (n:=l[i].2.1%4294967296+((body p).length:Int)) (by omega) (by omega),aj (by omega) (by omega),eP (by omega)];omega
   rw[e];rw[aq hq];rfl
theorem SO {l:ar Stream}{n:Nat}(h:bu n (.sl dE) l):bu (n+322) (.sl dE) (BN l p):=by
 have h':bu (n+322) (.sl dE) l:=h.mono;unfold BN;cases hs:ej p;exact h';have hb:=NN hs;have hw:=bt ((body p).length:Int);have hu:(udp p).length<=322:=by simp only[udp,au];omega
 simp only[ai,ae];have app:∀x:Stream,x.2.2.1.length<=n+322->bu (n+322) (.sl dE) (l++[x]):=by intro x hx;refine⟨?_,λy hy=>?_⟩;have:l.length<=n:=h.1;simp only[au,bl];omega;rcases az.1 hy with g|g;exact h'.2 y g;rw[eL.1 g];exact⟨⟨bV,bV,bV,bV,bV⟩,bV,hx,bV⟩
 have put:∀(i:Nat)(x:Stream),x.2.2.1.length<=n+322->bu (n+322) (.sl dE) (l.set i x):=by intro i x hx;refine⟨?_,λy hy=>?_⟩;show(l.set i x).length<=_;rw[aH];exact h'.1;rcases List.mem_or_eq_of_mem_set hy with g|rfl;exact h'.2 y g;exact⟨⟨bV,bV,bV,bV,bV⟩,bV,hx,bV⟩
 split;cases p.2.2.2.2.2.2.2.2.1==17 with|true=>exact app _ (show(udp p).length<=_ by omega)|false=>cases Aj p 2 with|true=>exact app _ (eH _)|false=>exact h'
 ·rename_i i hf;obtain⟨hi,_⟩:=List.findIdx?_eq_some_iff_getElem.1 hf;have hd:(l[i].2.2.1).length<=n:=(h.2 _ (bh hi)).2.2.1;simp only[fM hi];cases p.2.2.2.2.2.2.2.2.1==17 with
  |true=>exact put _ _ (by simp only[au];omega)
  |false=>
   cases Aj p 2;case true=>exact h'
   cases l[i].2.2.2||Aj p 4;case true=>exact h'
   cases decide (qK l[i] p<=((body p).length:Int))with|false=>exact h'|true=>exact put _ _ (by simp only[ag9,au,bf];omega)
theorem jn {y:Bytes}{i:Nat}(h:i<x.length):bI (x++y) i=bI x i:=by grind[bI]
theorem vp {y:Bytes}{i:Nat}(h:x.length<=i):bI (x++y) i=bI y (i-x.length):=by grind[bI]
theorem UH {i n:Nat}(h:i<n):bI (x.take n) i=bI x i:=by grind[bI]
theorem oh {i n:Nat}:bI (x.drop n) i=bI x (n+i):=by grind[bI]
theorem aaq {p:Bytes}{i:Nat}(h:i<a\/a+p.length<=i):bI (xj s (a:Int) p) i=bI s i:=by
 unfold xj fJ;by_cases hw:(0:Int)<=a/\(a:Int)+(p.length:Int)<=(s.length:Int)
 rw[ax hw,af,ay];have ht:(s.take a).length=a:=by rw[bm];omega
 rcases h with h|h;rw[jn (by rw[au];omega),jn (by omega),UH h];rw[vp (by rw[au];omega),oh,au,ht];congr 1;omega;rw[aq hw];rfl
theorem aap {p:Bytes}{j:Nat}(hw:a+p.length<=s.length)(hj:j<p.length):bI (xj s (a:Int) p) (a+j)=bI p j:=by unfold xj fJ;rw[ax ⟨by omega,by omega⟩,af,ay];grind[jn,vp]
theorem xU:cx s (a:Int)=bif decide (a+2<=s.length) then((bI s a*256+bI s (a+1):Nat):Int) else-1:=by grind[cx,fJ]
theorem GQ (hl:s.length=t.length)(h0:bI s a=bI t a)(h1:bI s (a+1)=bI t (a+1)):cx s (a:Int)=cx t (a:Int):=by grind[xU]
theorem Oh {k:Nat}:cx (s.drop k) (a:Int)=cx s ((k+a:Nat):Int):=by rw[xU,xU,oh,oh,bf,show k+(a+1)=k+a+1 by omega,show decide (a+2<=s.length-k)=decide (k+a+2<=s.length) from decide_eq_decide.2 (by omega)]
theorem HK:fg s (a:Int)=bif decide (a+4<=s.length) then(((bI s a*256+bI s (a+1))*65536+(bI s (a+2)*256+bI s (a+3)):Nat):Int) else-1:=by grind[fg,fJ]
theorem Oi {k:Nat}:fg (s.drop k) (a:Int)=fg s ((k+a:Nat):Int):=by rw[HK,HK,oh,oh,oh,oh,bf,show k+(a+1)=k+a+1 by omega,show k+(a+2)=k+a+2 by omega,show k+(a+3)=k+a+3 by omega,show decide (a+4<=s.length-k)=decide (k+a+4<=s.length) from decide_eq_decide.2 (by omega)]
theorem U8 (hl:s.length=t.length)(h:∀j,j<4->bI s (a+j)=bI t (a+j)):fg s (a:Int)=fg t (a:Int):=by rw[HK,HK,hl,show bI s a=bI t a from h 0 (by omega),h 1 (by omega),h 2 (by omega),h 3 (by omega)]
def bX (s:Bytes):Nat:=bif cx s 12==33024 then 18 else 14
def iK (s:Bytes):Nat:=bI s (bX s+9)
def M7 (k:Nat):Nat:=bif (k:Int)==6 then 16 else 6
def xJ (s:Bytes):Nat:=bX s+10
def rD (s:Bytes):Nat:=bX s+20+M7 (iK s)
theorem H5 (k:Nat):M7 k=16/\k=6\/M7 k=6/\k≠6:=by grind[M7]
theorem JI (s:Bytes):bX s=18/\(cx s 12==33024)=true\/bX s=14/\(cx s 12==33024)=false:=by grind[bX]
theorem Ln (k:Nat)(h:k<256):ft (k:Int)=some (M7 k:Int):=by grind[ft,M7]
theorem Ke (s:Bytes)(h:s.length<=10^9):qZ s=some ((xJ s:Int),(rD s:Int)):=by
 unfold qZ;rw[xY s 12 h,ab];have hk:=eY s (bX s+9)
 have core:∀o:Nat,bX s=o->(o=18\/o=14)->(bif decide (ak ((o:Int)+9)<(s.length:Int)) then
  aa (idx s (ak ((o:Int)+9))) λx2=>aa (ft (ak ((UInt8.toNat x2:Int)))) λr3=>some (ak ((o:Int)+10),ak ((ak ((o:Int)+20))+r3))
  else aa (ft 0) λr4=>some (ak ((o:Int)+10),ak ((ak ((o:Int)+20))+r4)))=some ((xJ s:Int),(rD s:Int)):=by
  intro o ho h2
  have hs:=H5 (iK s)
  rw[aj (n:=(o:Int)+9) (by omega) (by omega),aj (n:=(o:Int)+10) (by omega) (by omega),aj (n:=(o:Int)+20) (by omega) (by omega)]
  unfold xJ rD
  rw[ho]
  by_cases hl:o+9<s.length
  ·obtain⟨x,hx,ex⟩:=kc hl
   rw[jP,af,show(o:Int)+9=((o+9:Nat):Int) by omega,hx,ab,ex,fQ (by rw[<-ho];omega),Ln _ (by rw[<-ho];exact hk),ab,show bI s (o+9)=iK s by unfold iK;rw[ho],aj (by omega) (by omega)]
   congr 1
  ·have hz:iK s=0:=by unfold iK;rw[ho];exact I3
   have h0:ft 0=some (M7 0:Int):=Ln 0 (by omega)
   rw[gq,ae,h0,ab,<-hz,aj (by omega) (by omega)]
   congr 1
 rcases JI s with⟨h1,h2⟩|⟨h1,h2⟩;rw[h2,af];exact core 18 h1 (.inl rfl);rw[h2,ae];exact core 14 h1 (.inr rfl)
theorem Py (s:Bytes)(h:s.length<=10^9):xF s=some (bif decide (s.length<bX s+46) then(-1, -1) else((xJ s:Int),(rD s:Int))):=by
 unfold xF;rw[sC s 12 h,ab];have hk:=eY s (bX s+9)
 have core:∀o:Nat,bX s=o->(o=18\/o=14)->(bif decide ((s.length:Int)<ak ((o:Int)+46)) then some ((-1),(-1)) else
  aa (idx s (ak ((o:Int)+9))) λx2=>bif (ak ((UInt8.toNat x2:Int)))==6 then some (ak ((o:Int)+10),ak ((o:Int)+36)) else some (ak ((o:Int)+10),ak ((o:Int)+26)))=some (bif decide (s.length<bX s+46) then(-1, -1) else((xJ s:Int),(rD s:Int))):=by
  intro o ho h2
  rw[aj (n:=(o:Int)+9) (by omega) (by omega),aj (n:=(o:Int)+10) (by omega) (by omega),aj (n:=(o:Int)+46) (by omega) (by omega),aj (n:=(o:Int)+36) (by omega) (by omega),aj (n:=(o:Int)+26) (by omega) (by omega),ho]
  by_cases hl:s.length<o+46
  ·rw[ax (show(s.length:Int)<(o:Int)+46 by omega),ax hl];rfl
  ·obtain⟨x,hx,ex⟩:=kc (s:=s) (i:=o+9)
   rw[aq (show¬(s.length:Int)<(o:Int)+46 by omega),aq hl,ae,ae,show(o:Int)+9=((o+9:Nat):Int) by omega,hx,ab,ex,fQ (by rw[<-ho];omega),show bI s (o+9)=iK s by unfold iK;rw[ho]]
   unfold xJ rD M7
   rw[ho]
   cases (iK s:Int)==6 with
   |true=>simp only[af];congr 2
   |false=>simp only[ae];congr 2
 rcases JI s with⟨h1,h2⟩|⟨h1,h2⟩;rw[h2,af];exact core 18 h1 (.inl rfl);rw[h2,ae];exact core 14 h1 (.inr rfl)
theorem aak {a:Int}(h:dH a 0 281474976710655=true):(Xf a).length=6:=by
 have ha:=bM.1 h;have e:Xf a=bW (fdiv a (2^(rH 32)))++jb (ak (toNat (fR a&&&fR 4294967295))):=by grind[Xf,iO,hZ,mR,ab,bt,dF,aQ]
 grind[IntKind.bits,JB,P4,aeR,bM]
theorem Mi (h:ej p=true):bX (eS p).1+46<=(eS p).1.length:=by
 have hh:Md p=true:=by simp only[ej,ah]at h;exact h.1
 have hp:=TH (ipP p).1;have hi:=Ec h;unfold eS agd UT at hi⊢;rw[h,af]at hi⊢;cases he:BQ (p.1,p.2.1,p.2.2.1,2048,pad (ipP p).1)with|false=>rw[he]at hi;cases hi|true=>?_
 simp only[af];simp only[Md,ah]at hh;have m1:=aak hh.1;have m2:=aak hh.2.1;have hv:=bM.1 hh.2.2.1;have w1:(bW 33024).length=2:=rfl;have w3:(bW 2048).length=2:=rfl;generalize pad (ipP p).1=bd at hp⊢;unfold Q6;simp only;generalize Xf p.1=M1 at m1⊢;generalize Xf p.2.1=M2 at m2⊢;by_cases hc:p.2.2.1>=0;have w2:(bW p.2.2.1).length=2:=by rw[JB,bM.2 (by omega)];rfl
 rw[ax hc,af];have hb:bX (((((M1++M2)++bW 33024)++bW p.2.2.1)++bW 2048)++bd)=18:=by
  unfold bX;have e12:cx (((((M1++M2)++bW 33024)++bW p.2.2.1)++bW 2048)++bd) ((12:Nat):Int)=33024:=by rw[xU,ax (by simp only[au];omega),af];rw[jn (by simp only[au];omega),jn (by simp only[au];omega),jn (by simp only[au];omega),vp (by simp only[au];omega)];rw[jn (by simp only[au];omega),jn (by simp only[au];omega),jn (by simp only[au];omega),vp (by simp only[au];omega)];rw[au,m1,m2];rfl
  rw[show(12:Int)=((12:Nat):Int) from rfl,e12];rfl
 rw[hb];simp only[au];omega;rw[aq hc,ae];have hb:bX (((M1++M2)++bW 2048)++bd)=14:=by
  unfold bX;have e12:cx (((M1++M2)++bW 2048)++bd) ((12:Nat):Int)=2048:=by rw[xU,ax (by simp only[au];omega),af];rw[jn (by simp only[au];omega),vp (by simp only[au];omega)];rw[jn (by simp only[au];omega),vp (by simp only[au];omega)];rw[au,m1,m2];rfl
  rw[show(12:Int)=((12:Nat):Int) from rfl,e12];rfl
 rw[hb];simp only[au];omega
def qv (t:Bytes)(x y:Bytes):Bytes:=xj (xj t (xJ t:Int) x) (rD t:Int) y
theorem Dw (t x y:Bytes):(qv t x y).length=t.length:=by grind[qv,zY]
def iP (p:aS):Bytes×Bool:=bif ej p then(qv (eS p).1 (bW 0) (bW 0),true) else([],false)
theorem Vr (h:ej p=false):eS p=([],false):=by grind[eS]
theorem RA (p:aS):mK p=some (iP p):=by have hl:=xX p;have w0:=bt 0;unfold mK iP qv;rw[HN,ab];cases h:ej p with|false=>rw[Vr h];rfl|true=>rw[Ec h];simp only[ai,ae,af,Ke _ (show(eS p).1.length<=10^9 by omega),ab,kY,EX _ _ _ (show(eS p).1.length<=10^9 by omega) (show(bW 0).length<=10^9 by omega),EX _ _ _ (show(xj (eS p).1 (xJ (eS p).1:Int) (bW 0)).length<=10^9 by rw[zY];omega) (show(bW 0).length<=10^9 by omega)]
theorem Sg (p:aS):mU p=some (iP p):=by have hl:=xX p;unfold mU iP qv;rw[HZ,ab];cases h:ej p with|false=>rw[Vr h];rfl|true=>grind[Mi,Ec,Py,ab,hZ,FC,bW,zY]
def FX (s t:Bytes):Prop:=s.length=t.length/\∀i,i<xJ t\/(xJ t+2<=i/\i<rD t)\/rD t+2<=i->bI s i=bI t i
theorem zX (t:Bytes):(bX t=14\/bX t=18)/\xJ t=bX t+10/\bX t+26<=rD t/\rD t<=bX t+36/\(rD t=bX t+36/\iK t=6\/rD t=bX t+26/\iK t≠6):=by grind[JI,H5,xJ,rD]
theorem II (t:Bytes){y:Bytes}(hx:x.length<=2)(hy:y.length<=2):FX (qv t x y) t:=by have:=zX t;refine⟨Dw t x y,λi hi=>?_⟩;grind[qv,aaq]
theorem FX.body (h:FX s t):bX s=bX t:=by have:=zX t;unfold bX;have e:cx s ((12:Nat):Int)=cx t ((12:Nat):Int):=GQ h.1 (h.2 _ (by omega)) (h.2 _ (by omega));grind
theorem FX.kind (h:FX s t):iK s=iK t:=by have:=zX t;unfold iK;rw[h.body,h.2 _ (by omega)]
theorem FX.aio (h:FX s t):xJ s=xJ t/\rD s=rD t:=by unfold xJ rD;rw[h.body,h.kind];exact⟨rfl,rfl⟩
theorem FX.ajk (h:FX s t):cx s ((bX t+2:Nat):Int)=cx t ((bX t+2:Nat):Int):=by have:=zX t;exact GQ h.1 (h.2 _ (by omega)) (h.2 _ (by omega))
structure TOk (t:Bytes):Prop where
 eth:(fP t).2=true
 bd:(fP t).1.2.2.2.2=t.drop (bX t)
 l1:bX t+46<=t.length
 n1:20+M7 (iK t)+2<=cx t ((bX t+2:Nat):Int)
 n2:cx t ((bX t+2:Nat):Int)<=(t.length:Int)-(bX t:Int)
theorem LH (h:(fP s).2=true):(fP s).1.2.2.2.2=s.drop (bX s)/\18<=s.length/\46<=s.length-bX s/\s.length-bX s<=400:=by
 unfold fP at h⊢;by_cases h8:(s.length:Int)<18;rw[ax h8]at h;cases h;rw[aq h8]at h⊢;simp only[ae]at h⊢;rcases JI s with⟨h1,h2⟩|⟨h1,h2⟩;rw[h2]at h⊢;simp only[af]at h⊢;cases he:BQ (N0 s)with|false=>rw[he]at h;cases h|true=>rw[h1];simp only[BQ,ah,bM,N0,bf]at he;simp only[af,N0];refine⟨bV,by omega,by omega,by omega⟩
 rw[h2]at h⊢;simp only[ae]at h⊢;cases he:BQ (D3 s)with|false=>rw[he]at h;cases h|true=>rw[h1];simp only[BQ,ah,bM,D3,bf]at he;simp only[af,D3];refine⟨bV,by omega,by omega,by omega⟩
theorem afg (h:(vH s).2=0):(fP s).2=true/\(mr (fP s).1.2.2.2.2).2=true/\ej (vH s).1=true/\ (ua (mr (fP s).1.2.2.2.2).1.2.2.2.2.1 (mr (fP s).1.2.2.2.2).1.2.2.2.2.2.1 (mr (fP s).1.2.2.2.2).1.2.2.2.1 (mr (fP s).1.2.2.2.2).1.2.2.2.2.2.2).2=true:=by grind[vH]
theorem afb {b:Bytes}(h:(mr b).2=true):20<=cx b 2/\cx b 2<=(b.length:Int)/\(mr b).1=Jn b:=by grind[mr]
theorem acr {a b k:Int}(h:(ua a b k s).2=true):k=6/\20<=s.length\/k=17/\8<=s.length:=by grind[ua]
theorem aa7 (hl:s.length=t.length)(h:∀i,i<18->bI s i=bI t i)(hs:(fP s).2=true):(fP t).2=true:=by
 have g16:∀a,a+2<=18->cx s ((a:Nat):Int)=cx t ((a:Nat):Int):=λa ha=>GQ hl (h _ (by omega)) (h _ (by omega));have g32:∀a,a+4<=18->fg s ((a:Nat):Int)=fg t ((a:Nat):Int):=λa ha=>U8 hl (λj hj=>h _ (by omega));have e0:IB s 0=IB t 0:=by unfold IB;rw[show(0:Int)=((0:Nat):Int) from rfl,g16 0 (by omega),show((0:Nat):Int)+2=((2:Nat):Int) from rfl,g32 2 (by omega)]
 have e6:IB s 6=IB t 6:=by unfold IB;rw[show(6:Int)=((6:Nat):Int) from rfl,g16 6 (by omega),show((6:Nat):Int)+2=((8:Nat):Int) from rfl,g32 8 (by omega)]
 grind[cx,BQ,N0,D3,fP]
theorem aiy (ha:FX s t)(h:(vH s).2=0):TOk t:=by
 have hp:=zX t;obtain⟨h1,h2,_,h4⟩:=afg h;have he:=LH h1;rw[he.1]at h2 h4;have hi:=afb h2;have hs:=acr h4;rw[hi.2.2]at hs;have e1:(fP t).2=true:=aa7 ha.1 (λi hi=>ha.2 i (by omega)) h1;have e2:=LH e1;have en:cx (s.drop (bX s)) 2=cx t ((bX t+2:Nat):Int):=by have:cx (s.drop (bX s)) ((2:Nat):Int)=cx s ((bX s+2:Nat):Int):=Oh;rw[show(2:Int)=((2:Nat):Int) from rfl,this,ha.body,ha.ajk]
 have ek:(Jn (s.drop (bX s))).2.2.2.1=(iK t:Int):=by show(bI (s.drop (bX s)) 9:Int)=_;rw[oh,<-ha.kind];rfl
 have eg:(Jn (s.drop (bX s))).2.2.2.2.2.2.length=(cx t ((bX t+2:Nat):Int)).toNat-20:=by show(((s.drop (bX s)).take (cx (s.drop (bX s)) 2).toNat).drop 20).length=_;grind
 rw[ek,eg]at hs;rw[en]at hi;have hn:=hi.2.1;rw[bf,ha.1,ha.body]at hn;have hk:=H5 (iK t);exact⟨e1,e2.1,by omega,by omega,by omega⟩
theorem ac2 (h:(iP p).1=t)(hs:ej p=true)(ht:TOk t):cx t (xJ t:Int)=0/\cx t (rD t:Int)=0:=by
 unfold iP at h;rw[hs]at h;simp only[af]at h;have w0:(bW 0).length=2:=rfl;have ha:FX (qv (eS p).1 (bW 0) (bW 0)) (eS p).1:=II _ (by omega) (by omega);rw[h]at ha;have hp:=zX t;have CR:=ha.aio;have hl:=ht.l1;have Aq:=ha.1;have EA:=ht.n1;have CQ:=ht.n2;have hk:=H5 (iK t);have hB:rD t+2<=t.length:=by omega
 have b0:bI (bW 0) 0=0:=rfl;have b1:bI (bW 0) 1=0:=rfl;rw[xU,xU,jP,ax hB,af,af];have eB:∀j,j<2->bI t (rD t+j)=bI (bW 0) j:=by intro j hj;rw[<-h];unfold qv;rw[show rD (xj (xj (eS p).1 (xJ (eS p).1:Int) (bW 0)) (rD (eS p).1:Int) (bW 0))=rD (eS p).1 from by have:=CR.2;rw[<-h]at this;exact this];simp_all[aap,zY]
 have eA:∀j,j<2->bI t (xJ t+j)=bI (bW 0) j:=by intro j hj;rw[<-h];unfold qv;rw[show xJ (xj (xj (eS p).1 (xJ (eS p).1:Int) (bW 0)) (rD (eS p).1:Int) (bW 0))=xJ (eS p).1 from by have:=CR.1;rw[<-h]at this;exact this];simp(disch:=omega)[aaq,aap]
 grind
theorem NT (s:Bytes):aM (dm s)=s:=by simp_all[aM,dm,List.map_congr_left]
theorem aeG (s t:Bytes):dm (s++t)=dm s++dm t:=List.map_append
theorem Kj (s:Bytes):(dm s).length=s.length:=cr ..
theorem Nw (l:ar α)(i j:Nat)(h:i<=j)(h2:j<=l.length):sub l (i:Int) (j:Int)=some ((l.drop i).take (j-i)):=by grind[sub,List.take_drop]
theorem aaJ (a k:Nat):Int.tdiv (a:Int) (k:Int)=((a/k:Nat):Int):=(Int.ofNat_tdiv a k).symm
theorem WQ (a k:Nat):tmod (a:Int) (k:Int)=((a%k:Nat):Int):=(Int.ofNat_tmod a k).symm
theorem mem_iff:gN m=true↔(∀x∈m,x.length=128)/\m.length<=64:=by grind[gN]
theorem U2:∀{m:br},(∀x∈m,x.length=128)->m.flatten.length=128*m.length
 |[],_=>rfl
 |x::m,h=>by have:=U2 (m:=m) (λy hy=>h y (by simp[hy]));grind
theorem Rd:∀{m:br}(_:∀x∈m,x.length=128)(p:Nat)(hp:p<m.length)(o c:Nat),o+c<=128->(m.flatten.drop (128*p+o)).take c=(m[p].drop o).take c
 |x::m,h,0,hp,o,c,ho=>by grind
 |x::m,h,p+1,hp,o,c,ho=>by have hx:=h x (by simp);simp only[List.flatten_cons,List.getElem_cons_succ];rw[show 128*(p+1)+o=x.length+(128*p+o) by omega,List.drop_length_add_append];exact Rd (m:=m) (λy hy=>h y (by simp[hy])) p (by simpa using hp) o c ho
def AL (m:br)(a n:Nat):Bytes:=(m.flatten.drop a).take n
theorem Ep {n:Nat}(h:gN m=true)(hn:a+n<=128*m.length):(AL m a n).length=n:=by have:=U2 (mem_iff.1 h).1;grind[AL]
theorem afh (m:br)(a n:Nat):(AL m a n).length<=n:=by simp[AL];omega
theorem R0 (m:br)(a k c:Nat):AL m a (k+c)=AL m a k++AL m (a+k) c:=by grind[AL,dY]
theorem Pf (h:gN m=true){p:Nat}(hp:p<m.length){o:Nat}(ho:o+c<=128)(ha:a=128*p+o):(m[p].drop o).take c=AL m a c:=by subst ha;exact(Rd (mem_iff.1 h).1 p hp o c ho).symm
def gD (m:br)(a n:Int):Bool:=gN m&&decide (0<=n/\0<=a/\a+n<=128*(m.length:Int))
theorem G4 (m:br)(a n:Int)(h:m.length<=10^9):vz m a n=some (gD m a n):=by unfold vz gD;rw[Jk m h,ab,aj (n:=(m.length:Int)*128) (by omega) (by omega)];cases hm:gN m with|false=>rfl|true=>simp only[af,bF];by_cases h1:n>=0;by_cases h2:n<=(m.length:Int)*128;rw[aj (n:=(m.length:Int)*128-n) (by omega) (by omega)];by_cases h3:a>=0;simp only[ax h1,ax h2,ax h3,af,ab];exact congrArg some (decide_eq_decide.2 (by omega));simp only[ax h1,ax h2,aq h3,af,ae,ab];exact congrArg some (gq).symm;simp only[ax h1,aq h2,af,ae,ab];exact congrArg some (gq).symm;simp only[aq h1,ae,ab];exact congrArg some (gq).symm
theorem Hn (m:br)(a n:Int)(h:m.length<=10^9):lp m a n=some (gD m a n):=by unfold lp gD;rw[Fz m h,ab,aj (n:=128*(m.length:Int)) (by omega) (by omega)];cases hm:gN m with|false=>rfl|true=>simp only[af,bF];by_cases h1:n>=0;by_cases h3:a>=0;by_cases h2:a<=128*(m.length:Int);rw[aj (n:=128*(m.length:Int)-a) (by omega) (by omega)];simp only[ax h1,ax h2,ax h3,af,ab];exact congrArg some (decide_eq_decide.2 (by omega));simp only[ax h1,aq h2,ax h3,af,ae,ab];exact congrArg some (gq).symm;simp only[ax h1,aq h3,af,ae,ab];exact congrArg some (gq).symm;simp only[aq h1,ae,ab];exact congrArg some (gq).symm
theorem Kb (hm:gN m=true)(K:Int->eF->aw R):∀(n r k a f:Nat),r<=n->n<f->a+k+r<=128*m.length->
 aJ (la K ((k+r:Nat):Int) m) f (((a+k:Nat):Int),dm (AL m a k))=K ((a+k+r:Nat):Int) (dm (AL m a (k+r)))
 |n,r,k,a,0,_,hf,_=>by omega
 |n,0,k,a,f+1,hr,hf,hb=>by grind[aJ,la,Kj,Ep]
 |0,r+1,k,a,f+1,hr,hf,hb=>by omega
 |n+1,r+1,k,a,f+1,hr,hf,hb=>by
  have h64:=(mem_iff.1 hm).2;have hl:=Ep hm (show a+k<=128*m.length by omega);obtain⟨p,hp⟩:∃p,(a+k)/128=p:=⟨_,rfl⟩
  obtain⟨o,ho⟩:∃o,(a+k)%128=o:=⟨_,rfl⟩
  have hpo:a+k=128*p+o:=by omega
  have ho2:o<128:=by omega
  have CR:p<m.length:=by omega
  obtain⟨c,hc⟩:∃c,min (r+1) (128-o)=c:=⟨_,rfl⟩
  have hpg:=(mem_iff.1 hm).1 _ (bh CR);have e1:Int.tdiv ((a+k:Nat):Int) 128=(p:Int):=by grind
  have e2:tmod ((a+k:Nat):Int) 128=(o:Int):=by grind
  have key:=Kb hm K n (r+1-c) (k+c) a f (by omega) (by omega) (by omega);rw[aJ];simp only[la,Kj,hl,e1,e2];rw[jP,af,mG,aj (n:=(p:Int)) (by omega) (by omega),aX CR,ab,mG];rw[aj (n:=(o:Int)+((k+(r+1):Nat):Int)) (by omega) (by omega),aj (n:=(o:Int)+((k+(r+1):Nat):Int)-(k:Int)) (by omega) (by omega)];rw[show(if(o:Int)+((k+(r+1):Nat):Int)-(k:Int)<128 then(o:Int)+((k+(r+1):Nat):Int)-(k:Int) else 128)=((o+c:Nat):Int) by split<;>omega];rw[Nw _ _ _ (by omega) (by omega),ab,show o+c-o=c by omega,Pf hm CR (show o+c<=128 by omega) hpo];have Aq:=Ep hm (show a+k+c<=128*m.length by omega);rw[Aq,aQ (by omega),aj (by omega) (by omega),<-aeG,<-R0];grind
theorem aeA (m:br)(a n:Int)(h:m.length<=10^9):pn m a n=some (bif gD m a n then(AL m a.toNat n.toNat,true) else([],false)):=by have xV:=cS;unfold pn;rw[G4 m a n h,ab];cases hw:gD m a n with|false=>rfl|true=>simp only[gD,ah,bE]at hw;obtain⟨hm,h1,h2,h3⟩:=hw;have h64:=(mem_iff.1 hm).2;simp only[ai,ae,af];rw[zip,aQ (by omega)];obtain⟨a,rfl⟩:=aI h2;obtain⟨n,rfl⟩:=aI h1;have:=Kb hm (λ(y4:Int) (y5:eF)=>some (aM y5,true)) n n 0 a fuel (by omega) (by omega) (by omega);rw[cm,dL]at this;refine Eq.trans this ?_;simp only[NT,ay]
theorem KK (hm:gN m=true)(K:Int->Int->Bytes->aw R):∀(n r k a f:Nat),r<=n->n<f->a+k+r<=128*m.length->
 aJ (oW K m) f (((a+k:Nat):Int),(r:Int),AL m a k)=K ((a+k+r:Nat):Int) 0 (AL m a (k+r))
 |n,r,k,a,0,_,hf,_=>by omega
 |n,0,k,a,f+1,hr,hf,hb=>by rfl
 |0,r+1,k,a,f+1,hr,hf,hb=>by omega
 |n+1,r+1,k,a,f+1,hr,hf,hb=>by
  have h64:=(mem_iff.1 hm).2;have hl:=Ep hm (show a+k<=128*m.length by omega);obtain⟨p,hp⟩:∃p,(a+k)/128=p:=⟨_,rfl⟩
  obtain⟨o,ho⟩:∃o,(a+k)%128=o:=⟨_,rfl⟩
  have hpo:a+k=128*p+o:=by omega
  have ho2:o<128:=by omega
  have CR:p<m.length:=by omega
  obtain⟨c,hc⟩:∃c,min (r+1) (128-o)=c:=⟨_,rfl⟩
  have hpg:=(mem_iff.1 hm).1 _ (bh CR);have e1:Int.tdiv ((a+k:Nat):Int) 128=(p:Int):=by grind
  have e2:tmod ((a+k:Nat):Int) 128=(o:Int):=by grind
  have key:=KK hm K n (r+1-c) (k+c) a f (by omega) (by omega) (by omega);rw[aJ];simp only[oW,e1,e2];rw[jP,af,mG,mG,aj (n:=(p:Int)) (by omega) (by omega),aX CR,ab];rw[aj (n:=128-(o:Int)) (by omega) (by omega)];rw[show(if 128-(o:Int)<((r+1:Nat):Int) then 128-(o:Int) else((r+1:Nat):Int))=(c:Int) by split<;>omega];rw[aj (n:=(o:Int)+(c:Int)) (by omega) (by omega),show(o:Int)+(c:Int)=((o+c:Nat):Int) by omega];rw[Nw _ _ _ (by omega) (by omega),ab,show o+c-o=c by omega,Pf hm CR (show o+c<=128 by omega) hpo];have Aq:=Ep hm (show a+k+c<=128*m.length by omega);rw[Aq,hl,aQ (by omega),aj (n:=((a+k:Nat):Int)+(c:Int)) (by omega) (by omega),aj (n:=((r+1:Nat):Int)-(c:Int)) (by omega) (by omega),<-R0];grind
theorem afy (m:br)(a n:Int)(h:m.length<=10^9):pD m a n=some (bif gD m a n then(AL m a.toNat n.toNat,true) else([],false)):=by have xV:=cS;unfold pD;rw[Hn m a n h,ab];cases hw:gD m a n with|false=>rfl|true=>simp only[gD,ah,bE]at hw;obtain⟨hm,h1,h2,h3⟩:=hw;have h64:=(mem_iff.1 hm).2;simp only[ai,ae,af];obtain⟨a,rfl⟩:=aI h2;obtain⟨n,rfl⟩:=aI h1;have:=KK hm (λ(y4:Int) (y5:Int) (y6:Bytes)=>some (y6,true)) n n 0 a fuel (by omega) (by omega) (by omega);rw[cm,dL]at this;exact this
def Ts (d p:Int)(w:Bool)(x:aA):Bool:=vE d p x&&(x.2.2.2|| !w)
def vF (l:ar aA)(d p:Int)(w:Bool):Int:=match l.findIdx? (Ts d p w)with|some i=>(l.getD i Tt).2.2.1|none=> -1
theorem afv (l:ar aA)(d p:Int)(w:Bool)(h:l.length<=10^9):Bt l d p w=some (vF l d p w):=by unfold Bt vF;refine Eq.trans (HF (p:=Ts d p w) (hit:=λi=>aa (idx l i) λx=>some x.2.2.1) (fin:=some (-1)) l (by omega) (λi hi nx=>?_) (λnx=>?_)) ?_;simp only[vd];rw[jP,aX hi,aj (by omega) (by omega)];simp only[af,ab,Ts,vE];cases l[i].1==d<;>cases l[i].2.1==p<;>cases l[i].2.2.2<;>cases w<;>rfl;simp only[vd];rw[gq];rfl;cases hf:l.findIdx? (Ts d p w)with|none=>rfl|some i=>obtain⟨hi,_⟩:=List.findIdx?_eq_some_iff_getElem.1 hf;simp only[aX hi,ab,fM hi]
theorem OV (h:fG l=true){i:Nat}(hi:i<l.length):Lu l[i]=true/\∀j (hj:j<i),vE l[i].1 l[i].2.1 (l[j]'(by omega))=false:=by simp only[fG,ah,aW,dx]at h;have:=h.2 i hi;simp only[Tr,ah,aW,dx,fM hi,aP]at this;grind
theorem RJ {d p:Int}{m:aA}:vE d p m=true↔m.1=d/\m.2.1=p:=by simp[vE]
theorem aeQ (h:fG l=true){d p:Int}{i j:Nat}(hi:i<l.length)(hj:j<l.length)(h1:vE d p l[i]=true)(h2:vE d p l[j]=true):i=j:=by grind[RJ,OV]
theorem O3 (h:fG l=true)(d p:Int)(w:Bool)(h1:0<=vF l d p w):vF l d p w<=63/\0<=p/\p<=1023:=by grind[vF,Ts,List.findIdx?_eq_some_iff_getElem,OV,RJ,Lu,bM]
theorem abB (l:ar aA)(d:Int)(a:Nat)(w:Bool)(h:l.length<=10^9)(hm:fG l=true)(ha:a<=9223372036854775807): E2 l d (a:Int) w=some (if 0<=vF l d ((a/128:Nat):Int) w then vF l d ((a/128:Nat):Int) w*128+((a%128:Nat):Int) else-1):=by
 have e1:Int.tdiv (a:Int) 128=((a/128:Nat):Int):=aaJ a 128;have e2:tmod (a:Int) 128=((a%128:Nat):Int):=WQ a 128;unfold E2;rw[gq,ae,mG,e1,e2,aj (by omega) (by omega),Vz l _ _ h,ab];generalize ((a/128:Nat):Int)=p;have uu:=O3 hm d p w;unfold V2;cases hf:l.findIdx? (vE d p)with
 |none=>
  have hn:vF l d p w= -1:=by grind[vF,Ts]
  rw[hn];rfl
 |some i=>
  obtain⟨hi,h2,h3⟩:=List.findIdx?_eq_some_iff_getElem.1 hf;simp only;rw[gq,aX hi];simp only[ae,ab];cases hq:l[i].2.2.2|| !w with
  |true=>
   have hF:vF l d p w=l[i].2.2.1:=by grind[vF,List.findIdx?_eq_some_iff_getElem,Ts]
   have h4:=(OV hm hi).1;simp only[Lu,ah,bM]at h4
   rw[hF,aG (show 0<=l[i].2.2.1 by omega),show(aa (cond w (some (!l[i].2.2.2)) (some false)) λq3=>cond q3 (some (-1:Int)) _)=_ from by
    have:(cond w (some (!l[i].2.2.2)) (some false))=some false:=by cases w<;>cases hz:l[i].2.2.2<;>rw[hz]at hq<;>first|rfl|cases hq
    rw[this,ab,ae]]
   grind[aj]
  |false=>grind[vF,List.getElem_of_mem,vE,Ts,aeQ,ab]
def lK (l:ar aA)(m:br)(d:Int)(w:Bool):Nat->Nat->Nat->aw (ar (Int×Int))
 |0,_,_=>some []
 |n+1,a,r=>if r=0 then some [] else
  if 0<=vF l d ((a/128:Nat):Int) w/\vF l d ((a/128:Nat):Int) w<(m.length:Int) then
   (lK l m d w n (a+min (128-a%128) r) (r-min (128-a%128) r)).map (λq=>(vF l d ((a/128:Nat):Int) w*128+((a%128:Nat):Int),((min (128-a%128) r:Nat):Int))::q)
  else none
theorem Ul (hm:gN m=true){f:Int}(h0:0<=f){o:Nat}(hc:0<c)(ho:o+c<=128):gD m (f*128+(o:Int)) (c:Int)=decide (f<(m.length:Int)):=by grind[gD]
theorem W4 (hm:gN m=true){f:Int}(h0:0<=f):gD m (f*128) 128=decide (f<(m.length:Int)):=by grind[gD]
theorem Kc (hl:fG l=true)(hL:l.length<=10^9)(hm:gN m=true)(d:Int)(w:Bool):∀(n a r f:Nat)(acc:ar (Int×Int)),r<=n->n<f->acc.length+n<=1000000->a<=9223372036854775807->
 aJ (qW (λ(y9:Int) (vM:Int) (BL:ar (Int×Int))=>some (BL,true)) (λ(IV:Int) (Gr:Int) (EC:ar (Int×Int)) (ND:Bool) (Su:ar (Int×Int))=>some (EC,ND)) l d w ([]:ar (Int×Int)) false m) f ((a:Int),(r:Int),acc)
  =match lK l m d w n a r with|some q=>some (acc++q,true)|none=>some ([],false)
 |n,a,r,0,acc,_,hf,_,_=>by omega
 |0,a,r,f+1,acc,hr,hf,hA,ha=>by rw[aJ];simp only[qW];rw[gq];simp[lK]
 |n+1,a,r,f+1,acc,hr,hf,hA,ha=>by
  have h64:=(mem_iff.1 hm).2;rw[aJ];simp only[qW,lK];by_cases h0:r=0;rw[gq,aG h0];simp;have e2:tmod (a:Int) 128=((a%128:Nat):Int):=WQ a 128;have uu:=O3 hl d ((a/128:Nat):Int) w;rw[jP,aF h0,abB l d a w hL hl ha,ab,mG,e2,aj (n:=128-((a%128:Nat):Int)) (by omega) (by omega)];obtain⟨c,hc⟩:∃c,min (128-a%128) r=c:=⟨_,rfl⟩
  rw[hc,show(if 128-((a%128:Nat):Int)<(r:Int) then 128-((a%128:Nat):Int) else(r:Int))=(c:Int) by split<;>omega];generalize hP:vF l d ((a/128:Nat):Int) w=P at uu⊢;by_cases hP0:0<=P;have uu:=uu hP0;simp only[aG hP0,af];rw[aq (show¬P*128+((a%128:Nat):Int)<0 by omega),G4 m _ _ (by omega),Ul hm hP0 (by omega) (by omega)];simp only[ae,ab];by_cases hP1:P<(m.length:Int);rw[ax hP1,aG ⟨hP0,hP1⟩];simp only[ai,ae];rw[aQ (by simp;omega),aj (n:=(a:Int)+(c:Int)) (by omega) (by omega),aj (n:=(r:Int)-(c:Int)) (by omega) (by omega),aq (show¬(a:Int)+(c:Int)<0 by omega)];simp only[ae,ab];have key:=Kc hl hL hm d w n (a+c) (r-c) f (acc++[(P*128+((a%128:Nat):Int),(c:Int))]) (by omega) (by omega) (by simp;omega) (by omega);rw[show((a+c:Nat):Int)=(a:Int)+(c:Int) by omega,show((r-c:Nat):Int)=(r:Int)-(c:Int) by omega]at key;rw[key];cases lK l m d w n (a+c) (r-c)with|none=>rfl|some q=>simp
  rw[aq hP1,mG];rfl;simp only[aF hP0,af];rw[mG,jP];rfl
theorem KL (hl:fG l=true)(hL:l.length<=10^9)(hm:gN m=true)(d:Int)(w:Bool):∀(n a r f:Nat)(acc:ar (Int×Int)),r<=n->n<f->acc.length+n<=1000000->a<=9223372036854775807->
 aJ (kT (λ(vM:Int) (BL:Int) (IV:eF) (Gr:eF)=>some (IV,Gr,true)) (λ(EC:Int) (ND:Int) (Su:eF) (y17:eF) (Xi:Bool) (ZJ:eF) (y20:eF)=>some (Su,y17,Xi)) l d w ([]:eF) ([]:eF) false m) f ((a:Int),(r:Int),acc.map (·.1),acc.map (·.2))
  =match lK l m d w n a r with|some q=>some ((acc++q).map (·.1),(acc++q).map (·.2),true)|none=>some ([],[],false)
 |n,a,r,0,acc,_,hf,_,_=>by omega
 |0,a,r,f+1,acc,hr,hf,hA,ha=>by rw[aJ];simp only[kT];rw[gq];simp[lK]
 |n+1,a,r,f+1,acc,hr,hf,hA,ha=>by
  have h64:=(mem_iff.1 hm).2;rw[aJ];simp only[kT,lK];by_cases h0:r=0;rw[gq,aG h0];simp;have e1:Int.tdiv (a:Int) 128=((a/128:Nat):Int):=aaJ a 128;have e2:tmod (a:Int) 128=((a%128:Nat):Int):=WQ a 128;have uu:=O3 hl d ((a/128:Nat):Int) w;rw[ax (show(r:Int)>0 by omega),ax (show(a:Int)>=0 by omega),aF h0];simp only[af];rw[mG,e1,e2,aj (n:=((a/128:Nat):Int)) (by omega) (by omega),afv l _ _ w hL,ab,mG,aj (n:=128-((a%128:Nat):Int)) (by omega) (by omega)];obtain⟨c,hc⟩:∃c,min (128-a%128) r=c:=⟨_,rfl⟩
  rw[hc,show(if 128-((a%128:Nat):Int)<(r:Int) then 128-((a%128:Nat):Int) else(r:Int))=(c:Int) by split<;>omega];generalize hP:vF l d ((a/128:Nat):Int) w=P at uu⊢;by_cases hP0:0<=P;have uu:=uu hP0;rw[aq (show¬P<0 by omega),aj (n:=P*128) (by omega) (by omega),Hn m _ _ (by omega),W4 hm hP0];simp only[ae,ab];by_cases hP1:P<(m.length:Int);rw[ax hP1,aG ⟨hP0,hP1⟩];simp only[ai,ae];rw[aQ (by simp;omega),aQ (by simp;omega),aj (n:=P*128+((a%128:Nat):Int)) (by omega) (by omega),aj (n:=(a:Int)+(c:Int)) (by omega) (by omega),aj (n:=(r:Int)-(c:Int)) (by omega) (by omega)];have key:=KL hl hL hm d w n (a+c) (r-c) f (acc++[(P*128+((a%128:Nat):Int),(c:Int))]) (by omega) (by omega) (by simp;omega) (by omega);rw[show((a+c:Nat):Int)=(a:Int)+(c:Int) by omega,show((r-c:Nat):Int)=(r:Int)-(c:Int) by omega,List.map_append,List.map_append]at key;refine Eq.trans key ?_;cases lK l m d w n (a+c) (r-c)with|none=>rfl|some q=>simp
  rw[aq hP1,mG];rfl;rw[mG,jP];rfl
def oy (l:ar aA)(m:br)(d a n:Int)(w:Bool):ar (Int×Int)×Bool:=
 bif fG l&&(gN m&&dH n 0 4096) then
  (bif n==0 then([],true) else bif decide (a<0) then([],false) else match lK l m d w n.toNat a.toNat n.toNat with|some q=>(q,true)|none=>([],false))
 else([],false)
theorem VD (l:ar aA)(m:br)(d a n:Int)(w:Bool)(hl:l.length<=10^9)(hm:m.length<=10^9)(ha:a<=9223372036854775807):zM l m d a n w=some (oy l m d a n w):=by
 have xV:=cS;unfold zM oy;simp only[J8 l hl,Jk m hm,dh,ab];cases hB:fG l;rfl;cases hM:gN m;rfl;cases hN:dH n 0 4096;rfl;have hn:=bM.1 hN;simp only[ai,ae,ab,dX,af];cases h0:n==0;case true=>rfl
 by_cases hA:a<0;rw[ax hA];rfl;rw[aq hA];simp only[ae];obtain⟨a,rfl⟩:=aI (show 0<=a by omega);obtain⟨n,rfl⟩:=aI hn.1;rw[Kc hB hl hM d w n a n fuel [] (by omega) (by omega) (by simp;omega) (by omega)];simp only[ay];cases lK l m d w n a n<;>rfl
theorem Sb (l:ar aA)(m:br)(d a n:Int)(w:Bool)(hl:l.length<=10^9)(hm:m.length<=10^9)(ha:a<=9223372036854775807):um l m d a n w=some ((oy l m d a n w).1.map (·.1),(oy l m d a n w).1.map (·.2),(oy l m d a n w).2):=by
 have xV:=cS;unfold um oy;simp only[KI l hl,Fz m hm,cM,ab];cases hB:fG l;rfl;cases hM:gN m;rfl;cases hN:dH n 0 4096;rfl;have hn:=bM.1 hN;simp only[ai,ae,ab,dX,af];obtain⟨n,rfl⟩:=aI hn.1;cases h0:((n:Int)==0)with
 |true=>
  have:n=0:=by simpa using h0
  subst this;obtain⟨f,hf⟩:∃f,fuel=f+1:=⟨fuel-1,by omega⟩
  rw[hf,aJ];rfl
 |false=>
  have hn0:n≠0:=by simpa using h0
  by_cases hA:a<0;obtain⟨f,hf⟩:∃f,fuel=f+1:=⟨fuel-1,by omega⟩
  rw[ax hA,hf,aJ];simp only[kT];rw[jP,gq];rfl;rw[aq hA];simp only[ae];obtain⟨a,rfl⟩:=aI (show 0<=a by omega);refine Eq.trans (KL hB hl hM d w n a n fuel [] (by omega) (by omega) (by simp;omega) (by omega)) ?_;simp only[ay];cases lK l m d w n a n<;>rfl
end
end Go.Pu
