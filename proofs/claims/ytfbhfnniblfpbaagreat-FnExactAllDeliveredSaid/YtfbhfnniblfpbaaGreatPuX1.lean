import Derived.Test.YtfbhfnniblfpbaaGreatDnData
import Derived.Test.YtfbhfnniblfpbaaGreatPure
namespace Go.Pu
open Go.Dn
open List (range)
open BitVec (toNat)
open Int (fdiv tmod)
set_option linter.unusedSimpArgs false
set_option linter.unusedVariables false
noncomputable section
variable {s t x:Bytes} {h:Host} {f:Int->aw Int} {a c:Nat} {p:aR} {R X α σ:Type} {m:bw}
/- Plain laws of the partial operations and of loops. -/
theorem aj {n:Int}(h1: -9223372036854775808<=n)(h2:n<=9223372036854775807):ak n=n:=by grind[IntKind.wrap,IntKind.bits,IntKind.signed]
@[simp] theorem ab (a:α)(k:α->aw R):aa (some a) k=k a:=rfl
@[simp] theorem agM (k:α->aw R):aa none k=none:=rfl
@[simp] theorem acz (c:Bool)(x y:α)(k:α->aw R):aa (cond c (some x) (some y)) k=k (cond c x y):=by cases c<;>rfl
theorem cm (c:Bool)(x y:α):cond c (some x) (some y)=some (cond c x y):=by cases c<;>rfl
theorem aQ {n:Nat}{k:aw R}(h:n<=1073741824):room n k=k:=by simp[room,h]
theorem SP (xs:au α)(i:Nat):idx xs (i:Int)=xs[i]?:=rfl
theorem aU {xs:au α}{i:Nat}(h:i<xs.length):idx xs (i:Int)=some xs[i]:=by grind[SP]
def upK (step:Nat->σ->(σ->aw R)->aw R)(fin:σ->aw R)(N:Nat):Nat->Nat->σ->aw R
 |0,_,s=>fin s
 |n+1,i,s=>step i s (λs'=>upK step fin N n (i+1) s')
theorem Hl {T:(X->aw R)->X->aw R}(N:Nat)(e:σ->Nat->X)(step:Nat->σ->(σ->aw R)->aw R)(fin:σ->aw R)(hs:∀i s nx,i<N->T nx (e s i)=step i s (λs'=>nx (e s' (i+1))))(hf:∀s nx,T nx (e s N)=fin s): ∀n i s,i<=N->N-i<n->aL T n (e s i)=upK step fin N (N-i) i s:=by
 intro n;induction n with
 |zero=>intro i s _ h;omega
 |succ n ih=>
  intro i s hi hn;rw[aL];rcases bL i N with gq|zX;rw[hs i s _ gq,show N-i=(N-(i+1))+1 by omega,upK];congr 1;funext s';exact ih (i+1) s' (by omega) (by omega);have:i=N:=by omega
  subst this;rw[hf,Nat.sub_self,upK]
def xk (step:α->σ->(σ->aw R)->aw R)(fin:σ->aw R):au α->σ->aw R
 |[],s=>fin s
 |x::xs,s=>step x s (xk step fin xs)
theorem xw {T:(X->aw R)->X->aw R}(xs:au α)(e:σ->Nat->X)(step:α->σ->(σ->aw R)->aw R)(fin:σ->aw R)(hs:∀i (h:i<xs.length) s nx,T nx (e s i)=step xs[i] s (λs'=>nx (e s' (i+1))))(hf:∀s nx,T nx (e s xs.length)=fin s): ∀n i s,i<=xs.length->xs.length-i<n->aL T n (e s i)=xk step fin (xs.drop i) s:=by
 intro n;induction n with
 |zero=>intro i s _ h;omega
 |succ n ih=>
  intro i s hi hn;rw[aL];rcases bL i xs.length with gq|zX;rw[hs i gq s _,bQ gq,xk];congr 1;funext s';exact ih (i+1) s' (by omega) (by omega);have:i=xs.length:=by omega
  subst this;rw[hf,gu,xk]
def qs:(t:CT)->t.D->Nat
 | .int _,_=>0
 | .bool,_=>0
 | .str,s=>s.length
 | .sl e,xs=>xs.length+(xs.map (qs e)).sum
 | .pair a b,x=>qs a x.1+qs b x.2
def bm (n:Nat):(t:CT)->t.D->Prop
 | .int _,_=>True
 | .bool,_=>True
 | .str,s=>s.length<=n
 | .sl e,xs=>xs.length<=n/\∀x∈xs,bm n e x
 | .pair a b,x=>bm n a x.1/\bm n b x.2
theorem OD (f:α->Nat):∀(xs:au α)(x:α),x∈xs->f x<=(xs.map f).sum
 |y::ys,x,h=>by rcases cg.1 h with rfl|h;simp;have:=OD f ys x h;simp;omega
theorem HC {n:Nat}:∀{t:CT}{x:t.D},qs t x<=n->bm n t x
 | .int _,_,_=>trivial
 | .bool,_,_=>trivial
 | .str,_,h=>h
 | .sl e,xs,h=>by simp only[qs]at h;exact⟨by omega,λx hx=>HC (by have:=OD (qs e) xs x hx;omega)⟩
 | .pair a b,x,h=>by simp only[qs]at h;exact⟨HC (by omega),HC (by omega)⟩
theorem bm.mono {n m:Nat}(h:n<=m:=by omega):∀{t:CT}{x:t.D},bm n t x->bm m t x
 | .int _,_,_=>trivial
 | .bool,_,_=>trivial
 | .str,_,k=>aH k h
 | .sl _,_,k=>⟨aH k.1 h,λx hx=>bm.mono h (k.2 x hx)⟩
 | .pair _ _,_,k=>⟨bm.mono h k.1,bm.mono h k.2⟩
def rq:(t:CT)->t.D->Prop
 | .int k,n=>k.min<=n/\n<=k.max
 | .bool,_=>True
 | .str,s=>s.length<=9223372036854775807
 | .sl e,xs=>xs.length<=9223372036854775807/\∀x∈xs,rq e x
 | .pair a b,x=>rq a x.1/\rq b x.2
def kJ (l n:Int):Int:=if n<=l then l-n else-1
def Nc {β:Type}(f:α->aw β)(k0:au β->Int->aw R)(v0:au α)(nx:au β×Int->aw R)(x:au β×Int):aw R:=
 cond (decide (x.2<(List.length v0:Int))) (
  aa (idx v0 x.2) λx1=>
  aa (f x1) λr2=>
  aa (idx x.1 x.2) λ_=>
  aa (idx x.1 x.2) λ_=>
  nx (List.set x.1 (Int.toNat x.2) r2,ak (x.2+1))) (
  k0 x.1 x.2)
noncomputable def TM {β:Type}(f:α->aw β)(z:β)(a0:au α):aw (au β):=
 if 0<=((List.length a0:Int))/\((List.length a0:Int))<=((List.length a0:Int)) then(
 room (Int.toNat ((List.length a0:Int))) (
 aL (Nc f (λy5 _=>some y5) a0) fuel (List.replicate (Int.toNat ((List.length a0:Int))) z,0))) else none
theorem mE {f:α->aw α}{z:α}{a:au α}(hn:a.length<=1073741824)(hf:∀x∈a,f x=some x):TM f z a=some a:=by
 unfold TM;have vC:=cE;rw[zip,aQ (by omega)]
 have key:=Hl (T:=Nc f (λy5 _=>some y5) a) a.length (λ(_) i=>(a.take i++List.replicate (a.length-i) z,(i))) (λ_ s k=>k s) (λ_=>some a)
  (λi s nx hi=>by
   have h1:(a.take i).length=i:=by simp;omega
   have hl:i<(a.take i++List.replicate (a.length-i) z).length:=by simp;omega
   simp only[Nc];rw[jo];simp only[af,aU hi,ab,hf _ (bc hi),aU hl];congr 1;refine Prod.ext ?_ (aj (by omega) (by omega));simp only[az];rw[List.set_append_right _ _ (by omega),h1,Nat.sub_self,bg hi,show a.length-i=(a.length-(i+1))+1 by omega,List.replicate_succ,List.set_cons_zero,aP,List.singleton_append])
  (λs nx=>by grind[Nc])
  fuel 0 () (by omega) (by omega)
 simp only[List.take_zero,bK,Nat.sub_zero,az]at key⊢;have e:((0:Nat):Int)=0:=rfl;rw[e]at key;rw[key];have:∀n i,upK (λ_ (s) k=>k s) (λ_=>some a) a.length n i ()=some a:=by intro n;induction n with|zero=>intro i;rfl|succ n ih=>grind[upK]
 exact this _ _
def Nb (f:α->Int->aw Int)(k0:Int->Int->aw R)(k1:Int->Int->Int->aw R)(v0:au α)(nx:Int×Int->aw R)(x:Int×Int):aw R:=
 cond (decide (x.2<((List.length v0:Int)))) (
  aa (idx v0 x.2) λx1=>
  aa (f x1 x.1) λr2=>
  cond (decide (r2<0)) (
   k1 r2 (-1) x.2) (
   nx (r2,ak (x.2+1)))) (
  k0 x.1 x.2)
noncomputable def Na (f:α->Int->aw Int)(a0:au α)(a1:Int):aw Int:=
 cond (decide ((ak (a1-((List.length a0:Int))))<0)) (
  some (-1)) (
  aL (Nb f (λy3 _=>some y3) (λ_ y6 _=>some y6) a0) fuel (ak (a1-((List.length a0:Int))),0))
theorem Po {f:α->Int->aw Int}{s:α->Nat}{a:au α}{l:Int}(h0:0<=l)(h1:l<=1048576)(hm:a.length<=9223372036854775807)(hf:∀x∈a,∀l:Int,0<=l->l<=1048576->∃r,f x l=some r/\((s x:Int)<=l->r=l-s x)/\(¬(s x:Int)<=l->r<0)):Na f a l=some (kJ l ((a.length+(a.map s).sum:Nat):Int)):=by
 unfold Na;have vC:=cE;rw[aj (by omega) (by omega)];rcases Int.lt_or_le (l-a.length) 0 with aoY|aaN;rw[ax aoY];simp only[af,kJ];rw[mG];rw[fO];simp only[ae];have key:=xw (T:=Nb f (λy3 _=>some y3) (λ_ y6 _=>some y6) a) a (λ(q) i=>(q,(i))) (λx q k=>aa (f x q) λr=>cond (decide (r<0)) (some (-1)) (k r)) (λq=>some q) (λi hi q nx=>by simp only[Nb];rw[jo];simp only[af,aU hi,ab];rw[aj (by omega) (by omega)];rfl) (λq nx=>by simp only[Nb];rw[fO];rfl) fuel 0 (l-a.length) (by omega) (by omega);have e:((0:Nat):Int)=0:=rfl;rw[e,ef]at key;rw[key];have main:∀(b:au α)(q:Int),0<=q->q<=1048576->(∀x∈b,x∈a)->xk (λx q k=>aa (f x q) λr=>cond (decide (r<0)) (some (-1)) (k r)) (λq=>some q) b q=some (kJ q ((b.map s).sum)):=by intro b;induction b with|nil=>intro q hq _ _;simp[xk,kJ,hq]|cons x b ih=>intro q hq XF hb;obtain⟨r,hr,hr1,P4⟩:=hf x (hb x (by simp)) q hq XF;rw[xk,hr,ab];by_cases hle:(s x)<=q;rw[fO];simp only[ae];rw[ih _ (by omega) (by omega) (λy hy=>hb y (by simp[hy]))];simp only[kJ,List.map_cons,List.sum_cons];congr 1;split<;>split<;>omega;rw[ax (P4 hle)];simp only[af,kJ,List.map_cons,List.sum_cons];rw[mG]
 rw[main a _ (by omega) (by omega) (λx h=>h)];simp only[kJ];congr 1;split<;>split<;>omega
def MW (f:α->α->aw Bool)(k0:Int->aw R)(k1:Bool->Int->aw R)(v0 v1:au α)(nx:Int->aw R)(x:Int):aw R:=
 cond (decide (x<((List.length v0:Int)))) (
  aa (idx v0 x) λx1=>
  aa (idx v1 x) λx2=>
  aa (f x1 x2) λr3=>
  cond (!r3) (
   k1 false x) (
   nx (ak (x+1)))) (
  k0 x)
noncomputable def Sq (f:α->α->aw Bool)(a0 a1:au α):aw Bool:=
 cond (((List.length a0:Int)) !=((List.length a1:Int))) (
  some false) (
  aL (MW f (λ_=>some true) (λy5 _=>some y5) a0 a1) fuel 0)
theorem iW {f:α->α->aw Bool}{a:au α}(hm:a.length<=1000000000000)(hf:∀x∈a,f x x=some true):Sq f a a=some true:=by
 unfold Sq;have vC:=cE;have key:=xw (T:=MW f (λ_=>some true) (λy5 _=>some y5) a a) a (λ(_) i=>(i)) (λx s k=>aa (f x x) λr=>cond (!r) (some false) (k s)) (λ_=>some true) (λi hi s nx=>by grind[MW,aU,ab,aj]) (λs nx=>by grind[MW]) fuel 0 () (by omega) (by omega);have main:∀(b:au α),(∀x∈b,x∈a)->xk (λx s k=>aa (f x x) λr=>cond (!r) (some false) (k s)) (λ_=>some true) b ()=some true:=by intro b;induction b with|nil=>intro _;rfl|cons x b ih=>grind[xk,ab]
 grind
theorem IY {z:α}{a:au α}(hn:a.length<=1073741824):TM some z a=some a:=mE hn (λ_ _=>rfl)
theorem D4 [BEq α][LawfulBEq α]{a:au α}(hm:a.length<=1000000000000):Sq (λx y:α=>some (x==y)) a a=some true:=iW hm (λx _=>by simp)
theorem BZ {f:α->Nat}:∀{xs:au α},(∀x∈xs,f x=0)->(xs.map f).sum=0
 |[],_=>rfl
 |x::xs,h=>by have:=BZ (xs:=xs) (λy hy=>h y (by simp[hy]));grind
def di (f:Int->aw Int)(n:Nat):Prop:=∀l:Int,0<=l->l<=1048576->f l=some (kJ l n)
theorem di.nil:di (λl=>some l) 0:=λl h0 _=>by simp[kJ,h0]
theorem di.len {n m:Nat}(hn:n<=9223372036854775807){k:Int->aw Int}(h:di k m): di (λl=>cond (decide (ak (l-(n:Int))<0)) (some (-1)) (k (ak (l-(n:Int))))) (n+m):=by intro l h0 h1;simp only;rw[aj (by omega) (by omega)];by_cases hl:l-(n)<0;rw[ax hl];simp only[af,kJ];rw[mG];rw[aq hl];simp only[ae];rw[h _ (by omega) (by omega)];simp only[kJ];congr 1;split<;>split<;>omega
theorem di.sub {k:Int->aw Int}{n m:Nat}(hf:di f n)(h:di k m):di (λl=>aa (f l) λr=>cond (decide (r<0)) (some (-1)) (k r)) (n+m):=by
 intro l h0 h1;simp only;rw[hf l h0 h1,ab];by_cases hl:(n)<=l;have e:kJ l n=l-n:=by simp[kJ,hl]
 rw[e,fO];simp only[ae];rw[h _ (by omega) (by omega)];simp only[kJ];congr 1;split<;>split<;>omega;have e:kJ l n= -1:=by simp[kJ,hl]
 rw[e];simp only[kJ];rw[mG];rfl
theorem di.cast {n m:Nat}(h:di f n)(e:n=m):di f m:=e▸h
theorem di.list {f:α->Int->aw Int}{s:α->Nat}{a:au α}(hm:a.length<=9223372036854775807)(hf:∀x∈a,di (f x) (s x)):di (Na f a) (a.length+(a.map s).sum):=λ_ h0 h1=>Po h0 h1 hm (λx hx l h0 h1=>⟨_,hf x hx l h0 h1,λh=>by simp[kJ,h],λh=>by simp[kJ,h]⟩)
theorem di.flat {n:Nat}(hn:n<=9223372036854775807):di (λl=>cond (decide (ak (l-(n:Int))<0)) (some (-1)) (some (ak (l-(n:Int))))) n:=(di.len hn di.nil).cast (by omega)
theorem di.strs {a:au (au UInt8)}(hm:rq (.sl .str) a):di (Na (λx l=>some (ak (l-(x.length:Int)))) a) (qs (.sl .str) a):=λ_ h0 h1=>Po h0 h1 hm.1 (λx hx l h0 h1=>⟨l-x.length,by have:x.length<=9223372036854775807:=hm.2 x hx;grind[aj],λ_=>rfl,λh=>by grind[qs]⟩)
theorem di.use {n:Nat}(hf:di f n){l:Int}(h0:0<=l)(h1:l<=1048576){k:Int->aw Bool}(hk:(n:Int)<=l->k (l-n)=some true): (aa (f l) λr=>cond (decide (r<0)) (some true) (k r))=some true:=by
 rw[hf l h0 h1,ab];by_cases hl:(n)<=l;have e:kJ l n=l-n:=by simp[kJ,hl]
 rw[e,fO];exact hk hl;have e:kJ l n= -1:=by simp[kJ,hl]
 rw[e];rfl
theorem FX {T:(Int->aw R)->Int->aw R}{fin hit:aw R}(p:α->Bool)(a:au α)(h:a.length<=1000000000000)(hs:∀i (hi:i<a.length) nx,T nx (i:Int)=cond (p a[i]) hit (nx ((i+1:Nat):Int)))(hf:∀nx,T nx (a.length:Int)=fin): aL T fuel 0=cond (a.any p) hit fin:=by
 have vC:=cE;have key:∀n i,i<=a.length->a.length-i<n->aL T n (i)=cond ((a.drop i).any p) hit fin:=by
  intro n;induction n with
  |zero=>intro i _ h;omega
  |succ n ih=>
   intro i hi hn;rw[aL];rcases bL i a.length with gq|zX;rw[hs i gq,bQ gq,List.any_cons];cases hq:p a[i]with|true=>rfl|false=>exact ih (i+1) (by omega) (by omega)
   have:i=a.length:=by omega
   subst this;rw[hf,gu];rfl
 exact key fuel 0 (by omega) (by omega)
theorem ph {T:(Int->aw R)->Int->aw R}{fin hit:aw R}(p:Nat->Bool)(N:Nat)(h:N<=1000000000000)(hs:∀i nx,i<N->T nx (i:Int)=cond (!(p i)) hit (nx ((i+1:Nat):Int)))(hf:∀nx,T nx (N:Int)=fin): aL T fuel 0=cond ((range N).all p) fin hit:=by
 have vC:=cE;have key:∀n i,i<=N->N-i<n->aL T n (i)=cond ((List.range' i (N-i)).all p) fin hit:=by
  intro n;induction n with
  |zero=>intro i _ h;omega
  |succ n ih=>
   intro i hi hn;rw[aL];rcases bL i N with gq|zX;rw[hs i _ gq,show N-i=(N-(i+1))+1 by omega,List.range'_succ,bO];cases hq:p i with|false=>rfl|true=>exact ih (i+1) (by omega) (by omega)
   have:i=N:=by omega
   subst this;rw[hf,Nat.sub_self];rfl
 have:=key fuel 0 (by omega) (by omega);rw[Nat.sub_zero,<-List.range_eq_range']at this;exact this
theorem rr {T:(Int->aw R)->Int->aw R}{fin hit:aw R}(p:α->Bool)(a:au α)(h:a.length<=1000000000000)(hs:∀i (hi:i<a.length) nx,T nx (i:Int)=cond (!(p a[i])) hit (nx ((i+1:Nat):Int)))(hf:∀nx,T nx (a.length:Int)=fin): aL T fuel 0=cond (a.all p) fin hit:=by have:=FX (λx=> !(p x)) a h hs hf;grind
theorem fold_iter {T:(X->aw R)->X->aw R}(xs:au α)(e:σ->Nat->X)(g:σ->α->σ)(fin:σ->aw R)(h:xs.length<=1000000000000)(hs:∀i (hi:i<xs.length) s nx,T nx (e s i)=nx (e (g s xs[i]) (i+1)))(hf:∀s nx,T nx (e s xs.length)=fin s)(s:σ): aL T fuel (e s 0)=fin (xs.foldl g s):=by have vC:=cE;have key:=xw xs e (λx s k=>k (g s x)) fin hs hf fuel 0 s (by omega) (by omega);rw[key,ef];clear key hs hf h;induction xs generalizing s with|nil=>rfl|cons x xs ih=>simp_all[xk]
theorem KH {T:(X->aw R)->X->aw R}{fin hit:aw R}(e:Nat->X)(p:Nat->Bool)(N:Nat)(h:N<=1000000000000)(hs:∀i nx,i<N->(∀j,j<i->p j=true)->T nx (e i)=cond (!(p i)) hit (nx (e (i+1))))(hf:(∀j,j<N->p j=true)->∀nx,T nx (e N)=fin): aL T fuel (e 0)=cond ((range N).all p) fin hit:=by
 have vC:=cE;have key:∀n i,i<=N->N-i<n->(∀j,j<i->p j=true)->aL T n (e i)=cond ((List.range' i (N-i)).all p) fin hit:=by
  intro n;induction n with
  |zero=>intro i _ h;omega
  |succ n ih=>
   intro i hi hn hp;rw[aL];rcases bL i N with gq|zX;rw[hs i _ gq hp,show N-i=(N-(i+1))+1 by omega,List.range'_succ,bO];cases hq:p i with|false=>rfl|true=>refine ih (i+1) (by omega) (by omega) λj hj=>?_;by_cases hji:j=i;rw[hji];exact hq;exact hp j (by omega)
   have:i=N:=by omega
   subst this;rw[hf hp,Nat.sub_self];rfl
 have:=key fuel 0 (by omega) (by omega) (λj hj=>absurd hj (by omega));rw[Nat.sub_zero,<-List.range_eq_range']at this;exact this
theorem G9 {T:(Int->aw R)->Int->aw R}{fin:aw R}{hit:Int->aw R}(p:α->Bool)(a:au α)(h:a.length<=1000000000000)(hs:∀i (hi:i<a.length) nx,T nx (i:Int)=cond (p a[i]) (hit (i:Int)) (nx ((i+1:Nat):Int)))(hf:∀nx,T nx (a.length:Int)=fin): aL T fuel 0=(match a.findIdx? p with|some i=>hit (i:Int)|none=>fin):=by
 have vC:=cE;have key:∀n i,i<=a.length->a.length-i<n->aL T n (i)=(match (a.drop i).findIdx? p with|some j=>hit ((i+j:Nat))|none=>fin):=by
  intro n;induction n with
  |zero=>intro i _ h;omega
  |succ n ih=>
   intro i hi hn;rw[aL];rcases bL i a.length with gq|zX;rw[hs i gq,bQ gq,List.findIdx?_cons];cases hq:p a[i]with|true=>rfl|false=>have:=ih (i+1) (by omega) (by omega);refine this.trans ?_;cases (a.drop (i+1)).findIdx? p with|none=>rfl|some j=>simp only[cY,aY,bV];congr 2;omega
   have:i=a.length:=by omega
   subst this;rw[hf,gu];rfl
 have:=key fuel 0 (by omega) (by omega);refine this.trans ?_;rw[ef];cases a.findIdx? p with|none=>rfl|some j=>simp only[cc]
theorem cF (a b:Bool):(bif a then b else false)=(a&&b):=by cases a<;>rfl
theorem cT (a b:Bool):(bif a then true else b)=(a||b):=by cases a<;>rfl
theorem cN (a b:Bool):(bif a then false else b)=(!a&&b):=by cases a<;>rfl
def VP (g:α->σ->Except (aw R) σ)(fin:σ->aw R):au α->σ->aw R
 |[],s=>fin s
 |x::xs,s=>match g x s with| .error r=>r| .ok s'=>VP g fin xs s'
theorem DP {T:(X->aw R)->X->aw R}(xs:au α)(e:σ->Nat->X)(Inv:Nat->σ->Prop)(g:α->σ->Except (aw R) σ)(fin:σ->aw R)(h:xs.length<=1000000000000)(hs:∀i (hi:i<xs.length) s nx,Inv i s->T nx (e s i)=match g xs[i] s with| .error r=>r| .ok s'=>nx (e s' (i+1)))(hn:∀i (hi:i<xs.length) s s',Inv i s->g xs[i] s=.ok s'->Inv (i+1) s')(hf:∀s nx,Inv xs.length s->T nx (e s xs.length)=fin s)(s:σ)(h0:Inv 0 s): aL T fuel (e s 0)=VP g fin xs s:=by
 have key:∀n i s,i<=xs.length->xs.length-i<n->Inv i s->aL T n (e s i)=VP g fin (xs.drop i) s:=by
  intro n;induction n with
  |zero=>intro i s _ h;omega
  |succ n ih=>
   intro i s hi Bm hI;rw[aL];rcases bL i xs.length with gq|zX;rw[hs i gq s _ hI,bQ gq,VP];cases hg:g xs[i] s with|error r=>rfl|ok s'=>exact ih (i+1) s' (by omega) (by omega) (hn i gq s s' hI hg)
   have:i=xs.length:=by omega
   subst this;rw[hf s _ hI,gu,VP]
 have vC:=cE;have:=key fuel 0 s (by omega) (by omega) h0;rwa[ef]at this
theorem J0 (f:σ->α->σ)(fin:σ->aw R):∀(xs:au α)(s:σ),VP (λx s=> .ok (f s x)) fin xs s=fin (xs.foldl f s)
 |[],_=>rfl
 |x::xs,s=>by exact J0 f fin xs (f s x)
theorem cd {T:(X->aw R)->X->aw R}{fin:aw R}(e:Nat->X)(N:Nat)(h:N<=1000000000000)(hs:∀i nx,i<N->T nx (e i)=nx (e (i+1)))(hf:∀nx,T nx (e N)=fin):aL T fuel (e 0)=fin:=by rw[KH (hit:=fin) e (λ_=>true) N h (λi nx hi _=>by rw[hs i nx hi];rfl) (λ_ nx=>hf nx)];grind
theorem ff {l:au α}{k:aw R}(h:l.length<=10^9):room (List.length ([]:au α)+l.length) k=k:=aQ (by grind)
theorem Pp (a:bw)(hm:rq (.sl .str) a):di (wk a) (qs (.sl .str) a):=di.strs hm
theorem acp (a:bw)(hm:rq (.sl .str) a):di (yk a) (qs (.sl .str) a):=
 di.cast (f:=yk a) (di.sub (Pp a hm) di.nil) (by simp only[qs];try omega)
theorem Wj (a:au aA)(hm:rq (.sl gB) a):di (zK a) (qs (.sl gB) a):=(di.flat (n:=a.length) hm.1).cast (by simp only[qs];rw[BZ (λx _=>by simp only[qs])];rfl)
theorem HD (a:dR)(hm:rq (.sl (.int .i64)) a):di (nZ a) (qs (.sl (.int .i64)) a):=(di.flat (n:=a.length) hm.1).cast (by simp only[qs];rw[BZ (λx _=>by simp only[qs])];rfl)
theorem aaa (a:cn)(hm:rq vu a):di (uY a) (qs vu a):=
 di.cast (f:=uY a) (di.sub (HD a.2.2.2 hm.2.2.2) di.nil) (by simp only[qs];try omega)
theorem af7 (a:ir)(hm:rq xi a):di (yX a) (qs xi a):=
 di.cast (f:=yX a) (di.sub (HD a.2.2 hm.2.2) di.nil) (by simp only[qs];try omega)
theorem aeP (a:au ir)(hm:rq (.sl xi) a):di (Ey a) (qs (.sl xi) a):=di.list (f:=yX) (s:=qs xi) hm.1 (λx hx=>af7 x (hm.2 x hx))
theorem YY (a:bI)(hm:rq qv a):di (wo a) (qs qv a):=
 di.cast (f:=wo a) (di.sub (aaa a.2.1 hm.2.1) (di.sub (aeP a.2.2.1 hm.2.2.1) di.nil)) (by simp only[qs];try omega)
theorem YW (a:dy)(hm:rq Dj a):di (wj a) (qs Dj a):=
 di.cast (f:=wj a) (di.len (n:=a.2.2.2.2.2.2.2.length) hm.2.2.2.2.2.2.2 di.nil) (by simp only[qs];try omega)
theorem R1 (a:aR)(hm:rq Ac a):di (tq a) (qs Ac a):=
 di.cast (f:=tq a) (di.sub (YW a.2.2.2.2.2.2.2.2 hm.2.2.2.2.2.2.2.2) di.nil) (by simp only[qs];try omega)
theorem aeR (a:jM)(hm:rq Ii a):di (Au a) (qs Ii a):=
 di.cast (f:=Au a) (di.sub (R1 a.1 hm.1) di.nil) (by simp only[qs];try omega)
theorem YV (a:bl)(hm:rq fA a):di (qT a) (qs fA a):=
 di.cast (f:=qT a) (di.sub (aeR a.2.2.2.1 hm.2.2.2.1) di.nil) (by simp only[qs];try omega)
theorem Wk (a:au bl)(hm:rq (.sl fA) a):di (zL a) (qs (.sl fA) a):=di.list (f:=qT) (s:=qs fA) hm.1 (λx hx=>YV x (hm.2 x hx))
theorem aeN (a:au cn)(hm:rq (.sl vu) a):di (Ev a) (qs (.sl vu) a):=di.list (f:=uY) (s:=qs vu) hm.1 (λx hx=>aaa x (hm.2 x hx))
theorem YZ (a:au Vector)(hm:rq (.sl pN) a):di (BE a) (qs (.sl pN) a):=(di.flat (n:=a.length) hm.1).cast (by simp only[qs];rw[BZ (λx _=>by simp only[qs])];rfl)
theorem aeM (a:au Bool)(hm:rq (.sl .bool) a):di (Eu a) (qs (.sl .bool) a):=(di.flat (n:=a.length) hm.1).cast (by simp only[qs];rw[BZ (λx _=>by simp only[qs])];rfl)
theorem aco (a:Filter)(hm:rq Ca a):di (yj a) (qs Ca a):=
 di.cast (f:=yj a) (di.sub (HD a.2.2 hm.2.2) di.nil) (by simp only[qs];try omega)
theorem aeO (a:au gA)(hm:rq (.sl Fe) a):di (Ew a) (qs (.sl Fe) a):=(di.flat (n:=a.length) hm.1).cast (by simp only[qs];rw[BZ (λx _=>by simp only[qs])];rfl)
theorem aeQ (a:au Slot)(hm:rq (.sl xj) a):di (Ez a) (qs (.sl xj) a):=(di.flat (n:=a.length) hm.1).cast (by simp only[qs];rw[BZ (λx _=>by simp only[qs])];rfl)
theorem TH (a:au Slot)(hm:rq (.sl xj) a):di (rZ a) (qs (.sl xj) a):=
 di.cast (f:=rZ a) (di.sub (aeQ a hm) di.nil) (by simp only[qs];try omega)
theorem acq (a:iB)(hm:rq GZ a):di (yl a) (qs GZ a):=
 di.cast (f:=yl a) (di.len (n:=a.1.length) hm.1 (di.sub (HD a.2 hm.2) di.nil)) (by simp only[qs];try omega)
theorem Wl (a:eG)(hm:rq uM a):di (uj a) (qs uM a):=
 di.cast (f:=uj a) (di.sub (aeO a.1 hm.1) (di.sub (TH a.2.1 hm.2.1) (di.sub (acq a.2.2 hm.2.2) di.nil))) (by simp only[qs];try omega)
theorem acr (a:Stream)(hm:rq fi a):di (tr a) (qs fi a):=
 di.cast (f:=tr a) (di.len (n:=a.2.2.1.length) hm.2.2.1 di.nil) (by simp only[qs];try omega)
theorem YX (a:au Stream)(hm:rq (.sl fi) a):di (BD a) (qs (.sl fi) a):=di.list (f:=tr) (s:=qs fi) hm.1 (λx hx=>acr x (hm.2 x hx))
theorem af6 (a:Host)(hm:rq da a):di (Cx a) (qs da a):=
 di.cast (f:=Cx a) (di.sub (acp a.1 hm.1) (di.sub (Wj a.2.1 hm.2.1) (di.sub (YY a.2.2.1 hm.2.2.1) (di.sub (Wk a.2.2.2.1 hm.2.2.2.1) (di.sub (aeN a.2.2.2.2.1 hm.2.2.2.2.1) (di.sub (YZ a.2.2.2.2.2.1 hm.2.2.2.2.2.1) (di.sub (aeM a.2.2.2.2.2.2.1 hm.2.2.2.2.2.2.1) (di.sub (aco a.2.2.2.2.2.2.2.1 hm.2.2.2.2.2.2.2.1) (di.sub (Wl a.2.2.2.2.2.2.2.2.1 hm.2.2.2.2.2.2.2.2.1) (di.sub (YX a.2.2.2.2.2.2.2.2.2.1 hm.2.2.2.2.2.2.2.2.2.1) (di.sub (Pp a.2.2.2.2.2.2.2.2.2.2.2.1 hm.2.2.2.2.2.2.2.2.2.2.2.1) (di.sub (HD a.2.2.2.2.2.2.2.2.2.2.2.2.1 hm.2.2.2.2.2.2.2.2.2.2.2.2.1) (di.sub (HD a.2.2.2.2.2.2.2.2.2.2.2.2.2.1 hm.2.2.2.2.2.2.2.2.2.2.2.2.2.1) di.nil))))))))))))) (by simp only[qs];try omega)
theorem ahE (a:Act)(hm:rq CV a):di (BB a) (qs CV a):=
 di.cast (f:=BB a) (di.sub (R1 a.2.1 hm.2.1) (di.len (n:=a.2.2.2.2.1.length) hm.2.2.2.2.1 di.nil)) (by simp only[qs];try omega)
theorem af5 (a:au Act)(hm:rq (.sl CV) a):di (Gy a) (qs (.sl CV) a):=di.list (f:=BB) (s:=qs CV) hm.1 (λx hx=>ahE x (hm.2 x hx))
theorem E5 (a:bw)(h:bm 1048576 (.sl .str) a):wu a=some a:=IY (z:=([]:Bytes)) (aH h.1 (by omega))
theorem R4 (a:bw)(h:bm 1048576 (.sl .str) a):tu a=some a:=by first|(simp only[tu,E5 _ h,ab];done)|(simp only[tu,E5 _ h,ab];rfl)
theorem Y3 (a:aA)(h:bm 1048576 gB a):wq a=some a:=rfl
theorem Mq (a:au aA)(h:bm 1048576 (.sl gB) a):zN a=some a:=mE (f:=wq) (z:=(0,0,0,false)) (aH h.1 (by omega)) (λx hx=>Y3 x (h.2 x hx))
theorem Nf (a:Ring)(h:bm 1048576 LA a):CD a=some a:=rfl
theorem uF (a:dR)(h:bm 1048576 (.sl (.int .i64)) a):oa a=some a:=IY (z:=0) (aH h.1 (by omega))
theorem TN (a:cn)(h:bm 1048576 vu a):qV a=some a:=by first|(simp only[qV,uF _ h.2.2.2,ab];done)|(simp only[qV,uF _ h.2.2.2,ab];rfl)
theorem agf (a:ir)(h:bm 1048576 xi a):uZ a=some a:=by first|(simp only[uZ,uF _ h.2.2,ab];done)|(simp only[uZ,uF _ h.2.2,ab];rfl)
theorem Wt (a:au ir)(h:bm 1048576 (.sl xi) a):ED a=some a:=mE (f:=uZ) (z:=(0,0,([]:dR))) (aH h.1 (by omega)) (λx hx=>agf x (h.2 x hx))
theorem Pz (a:bI)(h:bm 1048576 qv a):qW a=some a:=by first|(simp only[qW,Nf _ h.1,TN _ h.2.1,Wt _ h.2.2.1,ab];done)|(simp only[qW,Nf _ h.1,TN _ h.2.1,Wt _ h.2.2.1,ab];rfl)
theorem oL (a:cB)(h:bm 1048576 kv a):kh a=some a:=rfl
theorem Px (a:dy)(h:bm 1048576 Dj a):BH a=some a:=rfl
theorem HF (a:aR)(h:bm 1048576 Ac a):pw a=some a:=by first|(simp only[pw,Px _ h.2.2.2.2.2.2.2.2,ab];done)|(simp only[pw,Px _ h.2.2.2.2.2.2.2.2,ab];rfl)
theorem Wv (a:jM)(h:bm 1048576 Ii a):wv a=some a:=by first|(simp only[wv,HF _ h.1,ab];done)|(simp only[wv,HF _ h.1,ab];rfl)
theorem Y4 (a:bl)(h:bm 1048576 fA a):ny a=some a:=by first|(simp only[ny,Nf _ h.1,oL _ h.2.1,oL _ h.2.2.1,Wv _ h.2.2.2.1,ab];done)|(simp only[ny,Nf _ h.1,oL _ h.2.1,oL _ h.2.2.1,Wv _ h.2.2.2.1,ab];rfl)
theorem Mr (a:au bl)(h:bm 1048576 (.sl fA) a):zO a=some a:=mE (f:=ny) (z:=((0,0,0,0),(0,0,0),(0,0,0),((0,0,0,0,0,0,0,0,0,0,0,0,0,0,0,([]:Bytes)),0,0),false,0)) (aH h.1 (by omega)) (λx hx=>Y4 x (h.2 x hx))
theorem Wr (a:au cn)(h:bm 1048576 (.sl vu) a):EB a=some a:=mE (f:=qV) (z:=(0,0,0,([]:dR))) (aH h.1 (by omega)) (λx hx=>TN x (h.2 x hx))
theorem acw (a:Vector)(h:bm 1048576 pN a):ym a=some a:=rfl
theorem PA (a:au Vector)(h:bm 1048576 (.sl pN) a):BJ a=some a:=mE (f:=ym) (z:=(0,0,0,0,false,false)) (aH h.1 (by omega)) (λx hx=>acw x (h.2 x hx))
theorem Wq (a:au Bool)(h:bm 1048576 (.sl .bool) a):EA a=some a:=IY (z:=false) (aH h.1 (by omega))
theorem R3 (a:Filter)(h:bm 1048576 Ca a):tt a=some a:=by first|(simp only[tt,uF _ h.2.2,ab];done)|(simp only[tt,uF _ h.2.2,ab];rfl)
theorem age (a:gA)(h:bm 1048576 Fe a):CE a=some a:=rfl
theorem Ws (a:au gA)(h:bm 1048576 (.sl Fe) a):EC a=some a:=mE (f:=CE) (z:=(0,0,0,0,0,0,0,0,0)) (aH h.1 (by omega)) (λx hx=>age x (h.2 x hx))
theorem Nd (a:fg)(h:bm 1048576 Di a):CB a=some a:=rfl
theorem agh (a:Slot)(h:bm 1048576 xj a):vc a=some a:=by first|(simp only[vc,Nd _ h.2.1,ab];done)|(simp only[vc,Nd _ h.2.1,ab];rfl)
theorem Wu (a:au Slot)(h:bm 1048576 (.sl xj) a):EE a=some a:=mE (f:=vc) (z:=(0,(0,0,0,0,0),0)) (aH h.1 (by omega)) (λx hx=>agh x (h.2 x hx))
theorem Ku (a:au Slot)(h:bm 1048576 (.sl xj) a):nw a=some a:=by first|(simp only[nw,Wu _ h,ab];done)|(simp only[nw,Wu _ h,ab];rfl)
theorem R5 (a:iB)(h:bm 1048576 GZ a):tw a=some a:=by first|(simp only[tw,uF _ h.2,ab];done)|(simp only[tw,uF _ h.2,ab];rfl)
theorem Ms (a:eG)(h:bm 1048576 uM a):oU a=some a:=by first|(simp only[oU,Ws _ h.1,Ku _ h.2.1,R5 _ h.2.2,ab];done)|(simp only[oU,Ws _ h.1,Ku _ h.2.1,R5 _ h.2.2,ab];rfl)
theorem acv (a:Stream)(h:bm 1048576 fi a):px a=some a:=by first|(simp only[px,Nd _ h.1,ab];done)|(simp only[px,Nd _ h.1,ab];rfl)
theorem Py (a:au Stream)(h:bm 1048576 (.sl fi) a):BI a=some a:=mE (f:=px) (z:=((0,0,0,0,0),0,([]:Bytes),false)) (aH h.1 (by omega)) (λx hx=>acv x (h.2 x hx))
theorem Mp (a:fg)(h:bm 1048576 Di a):zM a=some a:=rfl
theorem agd (a:Host)(h:bm 1048576 da a):qU a=some a:=by first|(simp only[qU,R4 _ h.1,Mq _ h.2.1,Pz _ h.2.2.1,Mr _ h.2.2.2.1,Wr _ h.2.2.2.2.1,PA _ h.2.2.2.2.2.1,Wq _ h.2.2.2.2.2.2.1,R3 _ h.2.2.2.2.2.2.2.1,Ms _ h.2.2.2.2.2.2.2.2.1,Py _ h.2.2.2.2.2.2.2.2.2.1,E5 _ h.2.2.2.2.2.2.2.2.2.2.2.1,uF _ h.2.2.2.2.2.2.2.2.2.2.2.2.1,uF _ h.2.2.2.2.2.2.2.2.2.2.2.2.2.1,Mp _ h.2.2.2.2.2.2.2.2.2.2.2.2.2.2,ab];done)|(simp only[qU,R4 _ h.1,Mq _ h.2.1,Pz _ h.2.2.1,Mr _ h.2.2.2.1,Wr _ h.2.2.2.2.1,PA _ h.2.2.2.2.2.1,Wq _ h.2.2.2.2.2.2.1,R3 _ h.2.2.2.2.2.2.2.1,Ms _ h.2.2.2.2.2.2.2.2.1,Py _ h.2.2.2.2.2.2.2.2.2.1,E5 _ h.2.2.2.2.2.2.2.2.2.2.2.1,uF _ h.2.2.2.2.2.2.2.2.2.2.2.2.1,uF _ h.2.2.2.2.2.2.2.2.2.2.2.2.2.1,Mp _ h.2.2.2.2.2.2.2.2.2.2.2.2.2.2,ab];rfl)
theorem ahF (a:Act)(h:bm 1048576 CV a):xy a=some a:=by first|(simp only[xy,HF _ h.2.1,ab];done)|(simp only[xy,HF _ h.2.1,ab];rfl)
theorem agc (a:au Act)(h:bm 1048576 (.sl CV) a):yY a=some a:=mE (f:=xy) (z:=(0,(0,0,0,0,0,0,0,0,0,0,0,0,0,0,0,([]:Bytes)),0,0,([]:Bytes),0)) (aH h.1 (by omega)) (λx hx=>ahF x (h.2 x hx))
theorem G5 (a:dR)(h:bm 1000000000000 (.sl (.int .i64)) a):nY a a=some true:=D4 h.1
theorem NK (a:bw)(h:bm 1000000000000 (.sl .str) a):wh a a=some true:=D4 h.1
theorem aaw (a:bw)(h:bm 1000000000000 (.sl .str) a):yh a a=some true:=by simp[yh,NK _ h]
theorem Xj (a:aA)(h:bm 1000000000000 gB a):qR a a=some true:=by simp[qR]
theorem Un (a:au aA)(h:bm 1000000000000 (.sl gB) a):zI a a=some true:=iW (f:=qR) h.1 (λx hx=>Xj x (h.2 x hx))
theorem Zn (a:Ring)(h:bm 1000000000000 LA a):yT a a=some true:=by simp[yT]
theorem Zm (a:cn)(h:bm 1000000000000 vu a):uX a a=some true:=by simp[uX,G5 _ h.2.2.2]
theorem afj (a:ir)(h:bm 1000000000000 xi a):yV a a=some true:=by simp[yV,G5 _ h.2.2]
theorem ac2 (a:au ir)(h:bm 1000000000000 (.sl xi) a):Es a a=some true:=iW (f:=yV) h.1 (λx hx=>afj x (h.2 x hx))
theorem Xn (a:bI)(h:bm 1000000000000 qv a):wi a a=some true:=by simp[wi,Zn _ h.1,Zm _ h.2.1,ac2 _ h.2.2.1]
theorem Bd (a:cB)(h:bm 1000000000000 kv a):ij a a=some true:=by simp[ij]
theorem Xl (a:dy)(h:bm 1000000000000 Dj a):wg a a=some true:=by simp[wg]
theorem QM (a:aR)(h:bm 1000000000000 Ac a):tk a a=some true:=by simp[tk,Xl _ h.2.2.2.2.2.2.2.2]
theorem ac4 (a:jM)(h:bm 1000000000000 Ii a):As a a=some true:=by simp[As,QM _ h.1]
theorem Xk (a:bl)(h:bm 1000000000000 fA a):qS a a=some true:=by simp[qS,Zn _ h.1,Bd _ h.2.1,Bd _ h.2.2.1,ac4 _ h.2.2.2.1]
theorem Uo (a:au bl)(h:bm 1000000000000 (.sl fA) a):zJ a a=some true:=iW (f:=qS) h.1 (λx hx=>Xk x (h.2 x hx))
theorem ac0 (a:au cn)(h:bm 1000000000000 (.sl vu) a):Ep a a=some true:=iW (f:=uX) h.1 (λx hx=>Zm x (h.2 x hx))
theorem aaz (a:Vector)(h:bm 1000000000000 pN a):tp a a=some true:=by simp[tp]
theorem Xo (a:au Vector)(h:bm 1000000000000 (.sl pN) a):BA a a=some true:=iW (f:=tp) h.1 (λx hx=>aaz x (h.2 x hx))
theorem acZ (a:au Bool)(h:bm 1000000000000 (.sl .bool) a):Eo a a=some true:=D4 h.1
theorem aav (a:Filter)(h:bm 1000000000000 Ca a):yg a a=some true:=by simp[yg,G5 _ h.2.2]
theorem afi (a:gA)(h:bm 1000000000000 Fe a):yU a a=some true:=by simp[yU]
theorem ac1 (a:au gA)(h:bm 1000000000000 (.sl Fe) a):Er a a=some true:=iW (f:=yU) h.1 (λx hx=>afi x (h.2 x hx))
theorem Zl (a:fg)(h:bm 1000000000000 Di a):yS a a=some true:=by simp[yS]
theorem afk (a:Slot)(h:bm 1000000000000 xj a):yW a a=some true:=by simp[yW,Zl _ h.2.1]
theorem ac3 (a:au Slot)(h:bm 1000000000000 (.sl xj) a):Et a a=some true:=iW (f:=yW) h.1 (λx hx=>afk x (h.2 x hx))
theorem Sr (a:au Slot)(h:bm 1000000000000 (.sl xj) a):rY a a=some true:=by simp[rY,ac3 _ h]
theorem aax (a:iB)(h:bm 1000000000000 GZ a):yi a a=some true:=by simp[yi,G5 _ h.2]
theorem Up (a:eG)(h:bm 1000000000000 uM a):ui a a=some true:=by simp[ui,ac1 _ h.1,Sr _ h.2.1,aax _ h.2.2]
theorem aay (a:Stream)(h:bm 1000000000000 fi a):tn a a=some true:=by simp[tn,Zl _ h.1]
theorem Xm (a:au Stream)(h:bm 1000000000000 (.sl fi) a):Bz a a=some true:=iW (f:=tn) h.1 (λx hx=>aay x (h.2 x hx))
theorem Um (a:fg)(h:bm 1000000000000 Di a):uh a a=some true:=by simp[uh]
theorem afh (a:Host)(h:bm 1000000000000 da a):Cr a a=some true:=by simp[Cr,aaw _ h.1,Un _ h.2.1,Xn _ h.2.2.1,Uo _ h.2.2.2.1,ac0 _ h.2.2.2.2.1,Xo _ h.2.2.2.2.2.1,acZ _ h.2.2.2.2.2.2.1,aav _ h.2.2.2.2.2.2.2.1,Up _ h.2.2.2.2.2.2.2.2.1,Xm _ h.2.2.2.2.2.2.2.2.2.1,NK _ h.2.2.2.2.2.2.2.2.2.2.2.1,G5 _ h.2.2.2.2.2.2.2.2.2.2.2.2.1,G5 _ h.2.2.2.2.2.2.2.2.2.2.2.2.2.1,Um _ h.2.2.2.2.2.2.2.2.2.2.2.2.2.2]
theorem agR (a:Act)(h:bm 1000000000000 CV a):Bv a a=some true:=by simp[Bv,QM _ h.2.1]
theorem afg (a:au Act)(h:bm 1000000000000 (.sl CV) a):Gv a a=some true:=iW (f:=Bv) h.1 (λx hx=>agR x (h.2 x hx))
def dw (a lo hi:Int):Bool:=decide (lo<=a)&&decide (a<=hi)
theorem bM {a lo hi:Int}:dw a lo hi=true↔lo<=a/\a<=hi:=by simp[dw]
theorem cz (a b c:Int):aI a b c=some (dw a b c):=by grind[aI,ab,dw]
theorem cO (a b c:Int):aC a b c=some (dw a b c):=cz a b c
theorem eO {l:au α}{i:Nat}(h:i<l.length)(d:α):l.getD i d=l[i]:=by grind
def PG (l:dR)(i:Nat):Bool:=dw (l.getD i 0) 0 4095&& !(decide (0<i)&&decide (l.getD i 0<=l.getD (i-1) 0))
def Ag (f:Filter):Bool:=(range f.2.2.length).all (PG f.2.2)&&(dw f.1 0 281474976710654&&decide ((f.2.2.length:Int)<=8))
theorem IS (f:Filter)(h:f.2.2.length<=10^9):pC f=some (Ag f):=by
 unfold pC;rw[ph (fin:=some (dw f.1 0 281474976710654&&decide ((f.2.2.length:Int)<=8))) (PG f.2.2) f.2.2.length (by omega) (λi nx hi=>?hs) (λnx=>?hf)]
 case hs=>
  simp only[sj]
  rw[jo,aU hi,aj (n:=(i)+1) (by omega) (by omega)]
  simp only[af,ab,cz,PG,eO hi]
  by_cases h0:0<i
  ·have e:ak ((i)-1)=((i-1:Nat)):=by rw[aj (by omega) (by omega)];omega
   have hp:i-1<f.2.2.length:=by omega
   rw[e,aU hp,ax (show(i:Int)>0 by omega),ax h0,eO hp]
   simp only[af,ab,bt]
   cases dw f.2.2[i] 0 4095<;>cases decide (f.2.2[i]<=f.2.2[i-1])<;>rfl
  ·rw[aq (show¬(i:Int)>0 by omega),aq h0]
   cases dw f.2.2[i] 0 4095<;>rfl
 case hf=>
  simp only[sj]
  rw[fO]
  simp only[ae,cz,ab,cm]
  cases dw f.1 0 281474976710654<;>rfl
 unfold Ag;cases (range f.2.2.length).all (PG f.2.2)<;>rfl
theorem IG (f:Filter)(h:f.2.2.length<=10^9):pt f=some (Ag f):=by
 unfold pt;rw[ph (fin:=some (dw f.1 0 281474976710654&&decide ((f.2.2.length:Int)<=8))) (PG f.2.2) f.2.2.length (by omega) (λi nx hi=>?hs) (λnx=>?hf)]
 case hs=>
  simp only[rD]
  rw[jo,aU hi,aj (n:=(i)+1) (by omega) (by omega)]
  simp only[af,ab,cO,PG,eO hi]
  by_cases h0:0<i
  ·have e:ak ((i)-1)=((i-1:Nat)):=by rw[aj (by omega) (by omega)];omega
   have hp:i-1<f.2.2.length:=by omega
   rw[e,aU hp,ax (show(i:Int)>0 by omega),ax h0,eO hp]
   simp only[af,ab,bt,ge_iff_le]
   cases dw f.2.2[i] 0 4095<;>cases decide (f.2.2[i]<=f.2.2[i-1])<;>rfl
  ·rw[aq (show¬(i:Int)>0 by omega),aq h0]
   cases dw f.2.2[i] 0 4095<;>rfl
 case hf=>
  simp only[rD]
  rw[fO]
  simp only[ae,cO,ab,cm]
  cases dw f.1 0 281474976710654<;>rfl
 unfold Ag;cases (range f.2.2.length).all (PG f.2.2)<;>rfl
def DN (r:gA):Bool:=(mf r).getD false
theorem Pd (r:gA):mf r=some (DN r):=by simp_all[mf,cz,cm,DN]
theorem adP (r:gA):Co r=some (DN r):=Pd r
theorem VN {r:gA}(h:DN r=true):r.2.2.2.2.2.2.2.1=0\/r.2.2.2.2.2.2.2.2=0:=by
 by_cases h0:r.2.2.2.2.2.2.2.1=0;exact .inl h0;by_cases h1:r.2.2.2.2.2.2.2.2=0;exact .inr h1;exfalso;have e0:(r.2.2.2.2.2.2.2.1==0)=false:=by simp[h0]
 have e1:(r.2.2.2.2.2.2.2.2==0)=false:=by simp[h1]
 revert h;unfold DN;simp only[mf,cz,ab,cm,e0,e1,ae,eY];have z:∀c:Bool,(bif c then false else false)=false:=by intro c;cases c<;>rfl
 simp only[z];intro h;cases h
def BQ (l:au gA):Bool:=l.all DN&&decide ((l.length:Int)<=12)
theorem Hw (l:au gA)(h:l.length<=10^9):wR l=some (BQ l):=by unfold wR;rw[rr (hit:=some false) (fin:=some (decide ((l.length:Int)<=12))) DN l (by omega) (λi hi nx=>?hs) (λnx=>?hf)];all_goals grind[zQ,aU,aj,ab,Pd,BQ]
theorem Ra (l:au gA)(h:l.length<=10^9):Ao l=some (BQ l):=by rw[<-Hw l h];rfl
theorem aou (x:Int):((BitVec.ofInt 64 x&&&BitVec.ofInt 64 7).toNat:Int)=x%8:=by
 have h7:(BitVec.ofInt 64 7).toNat=2^3-1:=by decide
 rw[BitVec.toNat_and,h7,Nat.and_two_pow_sub_one_eq_mod];grind[BitVec.toNat_ofInt]
theorem ahT (x:Int):((fE x&&&fE 7).toNat:Int)=x%8:=aou x
theorem afK (x:Int):iw x 8=some (x%8):=by grind[iw,aj]
def HQ (f:fg):Int:=(f.1%8+f.2.1%8+f.2.2.1%8+f.2.2.2.1%8+f.2.2.2.2%8)%8
theorem UO (f:fg):0<=HQ f/\HQ f<8:=by unfold HQ;omega
theorem agF {n:Int}(h:0<=n):tmod n 8=n%8:=eC h
theorem aeA (f:fg):yw f=some (HQ f):=by
 unfold yw;generalize hL:[f.1,f.2.1,f.2.2.1,f.2.2.2.1,f.2.2.2.2]=L;have hlen:L.length=5:=by rw[<-hL];rfl
 have vC:=cE;have key:=xw (T:=nJ (λ(y2) (y3)=>if 8=0 then none else(some (tmod y2 8))) L) L (λ(s) i=>(s,(i))) (λx s k=>k (ak (s+ak (x%8)))) (λs=>some (tmod s 8)) (λi hi s nx=>by simp only[nJ];rw[jo,aU hi,aj (by omega) (by omega)];grind[ab,ahT]) (λs nx=>by grind[nJ]) fuel 0 0 (by omega) (by omega);refine key.trans ?_;rw[<-hL];simp(disch:=omega)[xk,aj,agF,HQ]
theorem adH (f:fg):xU f=some (HQ f):=by
 unfold xU;generalize hL:[f.1,f.2.1,f.2.2.1,f.2.2.2.1,f.2.2.2.2]=L;have hlen:L.length=5:=by rw[<-hL];rfl
 have vC:=cE;have key:=xw (T:=nm (λ(y2) (y3)=>if 8=0 then none else(some (tmod y2 8))) L (L.length)) L (λ(s) i=>(s,(i))) (λx s k=>k (ak (s+(x%8)))) (λs=>some (tmod s 8)) (λi hi s nx=>by grind[nm,aU,aj,ab,afK]) (λs nx=>by grind[nm]) fuel 0 0 (by omega) (by omega);refine key.trans ?_;rw[<-hL];simp(disch:=omega)[xk,aj,agF,HQ]
def fM (t:au Slot)(i:Nat):Slot:=t.getD i (0,(0,0,0,0,0),0)
theorem xC {t:au Slot}{i:Nat}(h:i<t.length):fM t i=t[i]:=eO h _
def lg (f:fg)(k:Nat):Nat:=((HQ f).toNat+k)%8
theorem KA (f:fg)(k:Nat):lg f k<8:=Nat.mod_lt _ (by omega)
theorem WB (f:fg)(k:Nat)(h:k<8):tmod (ak (HQ f+(k:Int))) 8=(lg f k:Int):=by have:=UO f;grind[aj,lg]
def pe (s:Slot)(f:fg):Bool:=(s.1==1)&&decide (s.2.1=f)
theorem Jj (p q:fg):((p.1==q.1)&&((p.2.1==q.2.1)&&((p.2.2.1==q.2.2.1)&&((p.2.2.2.1==q.2.2.2.1)&&((p.2.2.2.2==q.2.2.2.2)&&true)))))=decide (p=q):=by grind
def walk (t:au Slot)(f:fg):Nat->Nat->Int
 |0,_=> -1
 |n+1,k=>if(fM t (lg f k)).1=0 then-1 else if pe (fM t (lg f k)) f then(lg f k:Int) else walk t f n (k+1)
theorem V1 (t:au Slot)(f:fg)(ht:t.length=8):AI t f=some (walk t f 8 0):=by
 have vC:=cE
 have key:=Hl (T:=uA (λ(y6)=>some (-1)) (λ(y7) (y8)=>some y7) 0 t f) 8 (λ(_) i=>(i))
  (λi s k=>if(fM t (lg f i)).1=0 then some (-1) else if pe (fM t (lg f i)) f then some (lg f i) else k s) (λ_=>some (-1))
  (λi s nx hi=>by
   have hw:lg f i<t.length:=by have:=KA f i;omega
   simp only[uA,aeA];rw[jo,aj (by omega) (by omega)];simp only[af,ab,WB f i hi,aU hw,xC hw,Jj,pe,cm,ab];by_cases h0:t[lg f i].1=0;simp[h0];have e0:(t[lg f i].1==0)=false:=by simp[h0]
   rw[e0,aE h0];cases (t[lg f i].1==1)<;>cases decide (t[lg f i].2.1=f)<;>rfl)
  (λs nx=>by rfl)
  fuel 0 () (by omega) (by omega)
 refine key.trans ?_;have main:∀n i,upK (R:=Int) (λi (s) k=>if(fM t (lg f i)).1=0 then some (-1) else if pe (fM t (lg f i)) f then some (lg f i) else k s) (λ_=>some (-1)) 8 n i ()=some (walk t f n i):=by intro n;induction n with|zero=>intro i;rfl|succ n ih=>intro i;rw[upK,walk];split;rfl;split;rfl;exact ih (i+1)
 exact main 8 0
def zC (f:fg):au Slot->Int->Int
 |[],_=> -1
 |s::r,i=>if pe s f then i else zC f r (i+1)
theorem Vc (t:au Slot)(f:fg)(h:t.length<=10^9):Cq t f=some (zC f t 0):=by
 have vC:=cE;have key:∀n i,i<=t.length->t.length-i<n->aL (wa (λ(y3)=>some (-1)) (λ(y4) (y5)=>some y4) 0 t ((List.length t)) f) n (i)=some (zC f (t.drop i) i):=by
  intro n;induction n with
  |zero=>intro i _ h;omega
  |succ n ih=>
   intro i hi hn;rw[aL];simp only[wa];rcases bL i t.length with gq|zX;rw[jo,aU gq,bQ gq,zC,aj (by omega) (by omega)];simp only[af,ab,Jj,cm];have e:(bif t[i].1==1 then decide (t[i].2.1=f) else false)=pe t[i] f:=by unfold pe;cases (t[i].1==1)<;>rfl
   rw[e];cases pe t[i] f with|true=>rfl|false=>exact ih (i+1) (by omega) (by omega)
   have:i=t.length:=by omega
   subst this;rw[fO,gu];rfl
 exact key fuel 0 (by omega) (by omega)
theorem afF (f:fg):IJ f=some ((range 8).map λk=>(lg f k:Int)):=by have vC:=cE;have key:=Hl (T:=yf (λ(y2) (y3)=>some y2) f) 8 (λ(_) i=>((range i).map (λk=>(lg f k)),(i))) (λ_ s k=>k s) (λ_=>some ((range 8).map λk=>(lg f k))) (λi s nx hi=>by grind[yf,adH,aj,ab,WB,aQ,List.range_succ]) (λs nx=>by rfl) fuel 0 () (by omega) (by omega);exact key
def clear (t:au Slot)(f:fg)(i:Nat):Nat->Nat->Bool
 |0,_=>true
 |n+1,k=>if lg f k=i then true else if(fM t (lg f k)).1=0 then false else clear t f i n (k+1)
theorem aaS (k0:Int->aw R)(k1:Bool->Int->aw R)(hit fin:aw R)(h0:∀x,k0 x=fin)(h1:∀x,k1 false x=hit)(v2:Bool)(i:Nat)(TX:au Slot)(Wy v14:Int)(t:au Slot)(f:fg)(ht:t.length=8): aL (ns k0 k1 v2 (i:Int) TX Wy v14 ((range 8).map λk=>(lg f k:Int)) (((range 8).map λk=>(lg f k:Int)).length:Int) t) fuel 0=cond (clear t f i 8 0) fin hit:=by
 have vC:=cE;have hl:((range 8).map λk=>(lg f k:Int)).length=8:=by simp
 have key:=Hl (T:=ns k0 k1 v2 (i) TX Wy v14 ((range 8).map λk=>(lg f k)) (((range 8).map λk=>(lg f k:Int)).length) t) 8 (λ(_) i=>(i))
  (λk s c=>if lg f k=i then fin else if(fM t (lg f k)).1=0 then hit else c s) (λ_=>fin)
  (λk s nx hk=>by
   have hw:lg f k<t.length:=by have:=KA f k;omega
   simp only[ns];rw[jo,aU (show k<((range 8).map λk=>(lg f k:Int)).length by omega),aj (by omega) (by omega)];simp only[af,ab,List.getElem_map,List.getElem_range,aU hw,xC hw,h0,h1];by_cases e1:lg f k=i;subst e1;simp;have:((lg f k:Int)==(i))=false:=by simp;omega
   rw[this,aE e1];by_cases e2:t[lg f k].1=0;simp[e2];have:(t[lg f k].1==0)=false:=by simp[e2]
   rw[this,aE e2];rfl)
  (λs nx=>by exact h0 _)
  fuel 0 () (by omega) (by omega)
 refine key.trans ?_;have main:∀n k,upK (λk (s) c=>if lg f k=i then fin else if(fM t (lg f k)).1=0 then hit else c s) (λ_=>fin) 8 n k ()=cond (clear t f i n k) fin hit:=by intro n;induction n with|zero=>intro k;rfl|succ n ih=>intro k;rw[upK,clear];split;rfl;split;rfl;exact ih (k+1)
 exact main 8 0
def UA:fg:=(0,0,0,0,0)
theorem UB (p:fg):((p.1==0)&&((p.2.1==0)&&((p.2.2.1==0)&&((p.2.2.2.1==0)&&((p.2.2.2.2==0)&&true)))))=decide (p=UA):=Jj p UA
def RL (s:Slot):Bool:=dw s.1 0 2&&dw s.2.2 0 3&&((s.1==1)||(s.2.2==0)&&decide (s.2.1=UA))
def nC (t:au Slot)(i:Nat):Bool:=RL (fM t i)&&(!((fM t i).1==1)||(walk t (fM t i).2.1 8 0==(i:Int)))
def uS (t:au Slot)(i:Nat):Bool:=RL (fM t i)&&(!((fM t i).1==1)||(zC (fM t i).2.1 t 0==(i:Int))&&clear t (fM t i).2.1 i 8 0)
def xb (t:au Slot):Bool:=(t.length==8)&&(range 8).all (nC t)
theorem RU (t:au Slot):wS t=some (xb t):=by
 unfold wS xb;by_cases ht:t.length=8
 ·have e:((t.length:Int) !=8)=false:=by rw[ht];rfl
  have e2:(t.length==8)=true:=by rw[ht];rfl
  rw[e,e2];rw[ph (nC t) 8 (by omega) (λi nx hi=>?hs) (λnx=>?hf)]
  case hs=>
   have hl:i<t.length:=by omega
   simp only[ux]
   rw[jo,aU hl,aj (by omega) (by omega)]
   simp only[af,ab,cz,cm,UB,V1 t _ ht,nC,xC hl,RL,bne]
   cases dw t[i].1 0 2<;>cases dw t[i].2.2 0 3<;>cases (t[i].1==1)<;>cases (t[i].2.2==0)<;>cases decide (t[i].2.1=UA)<;>first|rfl|(cases (walk t t[i].2.1 8 0==(i))<;>rfl)
  case hf=>
   simp only[ux]
   rw[fO];rfl
  cases (range 8).all (nC t)<;>rfl
 have e:((t.length:Int) !=8)=true:=by simp;omega
 have e2:(t.length==8)=false:=by simp[ht]
 rw[e,e2];rfl
theorem XS (t:au Slot):rP t=some ((t.length==8)&&(range 8).all (uS t)):=by
 unfold rP;by_cases ht:t.length=8
 ·have e:((t.length:Int) !=8)=false:=by rw[ht];rfl
  have e2:(t.length==8)=true:=by rw[ht];rfl
  rw[e,e2];rw[ph (uS t) 8 (by omega) (λi nx hi=>?hs) (λnx=>?hf)]
  case hs=>
   have hl:i<t.length:=by omega
   simp only[ue]
   rw[jo,aU hl,aj (by omega) (by omega)]
   simp only[af,ab,cO,cm,UB,Vc t _ (show t.length<=10^9 by omega),afF,uS,xC hl,RL,bne]
   rw[aaS (λ_=>nx ((i)+1)) (λ(y) (_)=>some y) (some false) (nx ((i)+1)) (λ_=>rfl) (λ_=>rfl) _ _ _ _ _ _ _ ht]
   cases dw t[i].1 0 2<;>cases dw t[i].2.2 0 3<;>cases (t[i].1==1)<;>cases (t[i].2.2==0)<;>cases decide (t[i].2.1=UA)<;>first|rfl|(cases (zC t[i].2.1 t 0==(i))<;>first|rfl|(cases clear t t[i].2.1 i 8 0<;>rfl))
  case hf=>
   simp only[ue]
   rw[fO];rfl
  cases (range 8).all (uS t)<;>rfl
 have e:((t.length:Int) !=8)=true:=by simp;omega
 have e2:(t.length==8)=false:=by simp[ht]
 rw[e,e2];rfl
theorem R9 (t:au Slot)(f:fg)(i:Nat):∀n k,walk t f n k=(i:Int)->pe (fM t i) f=true/\clear t f i n k=true/\∃j,j<n/\lg f (k+j)=i
 |0,k,h=>by unfold walk at h;omega
 |n+1,k,h=>by
  unfold walk at h;unfold clear;by_cases h0:(fM t (lg f k)).1=0;omega;rw[aE h0]at h;by_cases h1:pe (fM t (lg f k)) f=true;rw[aF h1]at h;have:lg f k=i:=by omega
  subst this;exact⟨h1,by simp,0,by omega,rfl⟩;rw[aE h1]at h;obtain⟨a,b,j,hj,e⟩:=R9 t f i n (k+1) h;refine⟨a,?_,j+1,by omega,by rw[<-e];congr 1;omega⟩;rw[aE h0,b];split<;>rfl
theorem aag (t:au Slot)(f:fg)(i:Nat)(hu:pe (fM t i) f=true)(agB:∀j,j<8->pe (fM t j) f=true->j=i):∀n k,clear t f i n k=true->(∃j,j<n/\lg f (k+j)=i)->walk t f n k=(i:Int)
 |0,k,_,h=>by omega
 |n+1,k,hc,⟨j,hj,e⟩=>by unfold walk;unfold clear at hc;by_cases h1:lg f k=i;rw[h1,aE,aF hu];intro h0;unfold pe at hu;rw[h0]at hu;simp at hu;rw[aE h1]at hc;by_cases h0:(fM t (lg f k)).1=0;rw[aF h0]at hc;cases hc;rw[aE h0]at hc;rw[aE h0,aE (λQ0=>h1 (agB _ (KA f k) Q0))];refine aag t f i hu agB n (k+1) hc ?_;cases j with|zero=>exact absurd e h1|succ j=>exact⟨j,by omega,by rw[<-e];congr 1;omega⟩
theorem agj (f:fg)(i:Nat)(hi:i<8):∃j,j<8/\lg f (0+j)=i:=by have:=UO f;refine⟨(i+8-(HQ f).toNat)%8,by omega,?_⟩;unfold lg;omega
theorem F7 (f:fg):∀(t:au Slot)(m:Nat),(∃j,j<t.length/\pe (fM t j) f=true)->∃j,j<t.length/\pe (fM t j) f=true/\zC f t m=((m+j:Nat):Int)
 |[],_,h=>by obtain⟨j,hj,_⟩:=h;simp at hj
 |s::r,m,⟨j,hj,e⟩=>by
  unfold zC;by_cases hs:pe s f=true;rw[aF hs];exact⟨0,by simp,by simpa[fM]using hs,by simp⟩;rw[aE hs];cases j with
  |zero=>exact absurd (by simpa[fM]using e) hs
  |succ j=>
   obtain⟨j',h1,h2,h3⟩:=F7 f r (m+1) ⟨j,by simpa using hj,by simpa[fM]using e⟩;refine⟨j'+1,by simpa using h1,by simpa[fM]using h2,?_⟩;have:((m:Int)+1)=((m+1:Nat)):=by omega
   rw[this,h3];congr 1;omega
theorem Yz (t:au Slot)(ht:t.length=8):(range 8).all (uS t)=(range 8).all (nC t):=by
 rw[eT,aW,aW];simp only[dm];constructor;intro h i hi;have hI:=h i hi;unfold uS at hI;unfold nC;simp only[ah,cX,aO,bC]at hI⊢;refine⟨hI.1,?_⟩;rcases hI.2 with h1|⟨h1,h2⟩;exact .inl h1;by_cases hu:((fM t i).1==1)=true;right;have Q0:pe (fM t i) (fM t i).2.1=true:=by unfold pe;rw[hu];simp
 refine aag t _ i Q0 (λj hj huj=>?_) 8 0 h2 (agj _ i hi);have hJ:=h j hj;unfold uS at hJ;unfold pe at huj;simp only[ah,bD]at huj;simp only[ah,cX,aO,bC]at hJ;rcases hJ.2 with h3|⟨h3,_⟩;rw[huj.1]at h3;cases h3;rw[huj.2]at h3;omega;exact .inl (by simpa using hu);intro h i hi;have hI:=h i hi;unfold nC at hI;unfold uS;simp only[ah,cX,aO,bC]at hI⊢;refine⟨hI.1,?_⟩;rcases hI.2 with h1|h1;exact .inl h1;right;obtain⟨hu,hc,_⟩:=R9 t _ i 8 0 h1;refine⟨?_,hc⟩;obtain⟨j,hj,huj,e⟩:=F7 (fM t i).2.1 t 0 ⟨i,by omega,hu⟩;have hJ:=h j (by omega);unfold nC at hJ;unfold pe at huj;simp only[ah,bD]at huj;simp only[ah,cX,aO,bC]at hJ;rcases hJ.2 with h3|h3;rw[huj.1]at h3;cases h3;rw[huj.2,h1]at h3;have e':zC (fM t i).2.1 t 0=((0+j)):=e;omega
theorem Rf (t:au Slot):rP t=some (xb t):=by
 rw[XS,xb];by_cases ht:t.length=8;rw[Yz t ht];have e2:(t.length==8)=false:=by simp[ht]
 rw[e2];rfl
def Z0 (n:Int):Bool:=(n==1)||(n==2)||(n==4)||(n==8)||(n==16)
theorem X2 (n:Int):AG n=some (Z0 n):=by grind[AG,ab,Z0]
def AL (s:iB)(q:Int):Bool:=dw q 1 4&&((s.1.length:Int)==16)&&Z0 s.2.length&&s.2.all λx=>dw x 0 (q-1)
theorem IT (s:iB)(q:Int)(h:s.2.length<=10^9):tP s q=some (AL s q):=by
 unfold tP AL;simp only[cz,X2,ab,cm,bne];by_cases hq:dw q 1 4=true
 ·rw[rr (λx=>dw x 0 (q-1)) s.2 (by omega) (λi hi nx=>?hs) (λnx=>?hf)]
  case hs=>
   rw[bM]at hq
   simp only[sr]
   rw[jo,aU hi,aj (by omega) (by omega),aj (by omega) (by omega)]
   simp only[af,ab,cz];rfl
  case hf=>
   simp only[sr]
   rw[fO];rfl
  rw[hq];cases ((s.1.length:Int)==16)<;>cases Z0 s.2.length<;>cases s.2.all (λx=>dw x 0 (q-1))<;>rfl
 have hq':dw q 1 4=false:=by simpa using hq
 rw[hq'];rfl
theorem Om (s:iB)(q:Int)(h:s.2.length<=10^9):yc s q=some (AL s q):=by rw[<-IT s q h];rfl
def gX (s:eG)(q:Int):Bool:=BQ s.1&&xb s.2.1&&AL s.2.2 q&&s.1.all (λr=> !(decide (r.2.2.2.2.2.2.2.2>=q)))&&s.2.1.all (λx=> !(decide (x.2.2>=q)))
theorem EW (s:eG)(q:Int)(h1:s.1.length<=10^9)(h2:s.2.1.length<=10^9)(h3:s.2.2.2.length<=10^9):lA s q=some (gX s q):=by
 unfold lA gX;simp only[Hw _ h1,RU,IT _ _ h3,ab,cm];rw[rr (hit:=some false) (fin:=cond (s.2.1.all (λx=> !(decide (x.2.2>=q)))) (some true) (some false)) (λr:gA=> !(decide (r.2.2.2.2.2.2.2.2>=q))) s.1 (by omega) (λi hi nx=>?hs) (λnx=>?hf)]
 case hs=>
  grind[oJ,aU,aj,ab]
 case hf=>
  simp only[oJ]
  rw[fO]
  simp only[ae]
  rw[rr (λx:Slot=> !(decide (x.2.2>=q))) s.2.1 (by omega) (λi hi nx=>?hs) (λnx=>?hf)]
  all_goals grind[uK,aU,aj,ab]
 grind
theorem Eg (s:eG)(q:Int)(h1:s.1.length<=10^9)(h2:s.2.1.length<=10^9)(h3:s.2.2.2.length<=10^9):lv s q=some (gX s q):=by
 unfold lv gX;simp only[Ra _ h1,Rf,Om _ _ h3,ab,cm];rw[rr (λr:gA=> !((r.2.2.2.2.2.2.2.1==0)&&decide (r.2.2.2.2.2.2.2.2>=q))) s.1 (by omega) (λi hi nx=>?hs) (λnx=>?hf)]
 case hs=>
  simp only[ov]
  rw[jo,aU hi,aj (by omega) (by omega)]
  simp only[af,ab,Bool.not_not,cm]
  cases (s.1[i].2.2.2.2.2.2.2.1==0)<;>rfl
 case hf=>
  simp only[ov]
  rw[fO]
  simp only[ae]
  rw[rr (λx:Slot=> !((x.1==1)&&decide (x.2.2>=q))) s.2.1 (by omega) (λi hi nx=>?hs) (λnx=>?hf)]
  case hs=>
   simp only[mQ]
   rw[jo,aU hi,aj (by omega) (by omega)]
   simp only[af,ab,Bool.not_not,cm]
   cases (s.2.1[i].1==1)<;>rfl
  case hf=>
   simp only[mQ]
   rw[fO];rfl
 cases hr:BQ s.1 with
 |false=>rfl
 |true=>
  cases ht:xb s.2.1 with
  |false=>rfl
  |true=>
   cases hs:AL s.2.2 q with
   |false=>rfl
   |true=>
    have hq:1<=q:=by unfold AL at hs;simp only[ah,bM]at hs;exact hs.1.1.1.1
    have e1:s.1.all (λr=> !((r.2.2.2.2.2.2.2.1==0)&&decide (r.2.2.2.2.2.2.2.2>=q)))=s.1.all (λr=> !(decide (r.2.2.2.2.2.2.2.2>=q))):=by unfold BQ at hr;simp only[ah,aW]at hr;rw[eT,aW,aW];refine forall_congr' λr=>forall_congr' λhm=>?_;rcases VN (hr.1 r hm)with h0|h0;rw[h0];simp;rw[h0];simp only[aq (show¬(0)>=q by omega),js]
    have e2:s.2.1.all (λx=> !((x.1==1)&&decide (x.2.2>=q)))=s.2.1.all (λx=> !(decide (x.2.2>=q))):=by unfold xb at ht;simp only[ah,aW,dm,bC]at ht;rw[eT,aW,aW];refine forall_congr' λx=>forall_congr' λhm=>?_;obtain⟨i,hi,rfl⟩:=List.mem_iff_getElem.1 hm;have Zz:=ht.2 i (by omega);unfold nC RL at Zz;rw[xC hi]at Zz;simp only[ah,cX,bC]at Zz;rcases Zz.1.2 with h0|⟨h0,_⟩;rw[h0];simp;rw[h0];simp only[aq (show¬(0)>=q by omega),js]
    rw[e1,e2];cases s.1.all (λr=> !(decide (r.2.2.2.2.2.2.2.2>=q)))<;>cases s.2.1.all (λx=> !(decide (x.2.2>=q)))<;>rfl
theorem fD {n:Nat}(h:n<9223372036854775808):ak (n:Int)=(n:Int):=aj (by omega) (by omega)
theorem KB {n:Nat}(h:n<4294967296:=by omega):IntKind.wrap .u32 (n:Int)=(n:Int):=by grind[IntKind.wrap,IntKind.bits,IntKind.signed]
theorem kc (b:UInt8):b.toNat<256:=b.toNat_lt
def bU (v:Int):Bytes:=(bS v).getD []
theorem gM (v:Int):bS v=some (bU v):=by grind[bU,bS,cz,ab]
theorem kD (v:Int):bX v=some (bU v):=gM v
theorem I1 (v:Int):(bU v).length=bif dw v 0 65535 then 2 else 0:=by have h:=gM v;simp only[bS,cz,ab]at h;cases hb:dw v 0 65535<;>rw[hb]at h<;>(rw[<-cx h];rfl)
theorem bu (v:Int):(bU v).length<=2:=by grind[I1]
def iS (v:Int):Bytes:=(eR v).getD []
theorem mz (v:Int):eR v=some (iS v):=by grind[iS,eR,cz,ab]
theorem Bq (v:Int):fU v=some (iS v):=mz v
theorem PJ (v:Int):(iS v).length=bif dw v 0 4294967295 then 4 else 0:=by have h:=mz v;simp only[eR,cz,ab]at h;cases hb:dw v 0 4294967295<;>rw[hb]at h<;>(rw[<-cx h];rfl)
theorem dz (v:Int):(iS v).length<=4:=by grind[PJ]
def bF (s:Bytes)(i:Nat):Nat:=(s.getD i 0).toNat
theorem eL (s:Bytes)(i:Nat):bF s i<256:=kc _
theorem jQ {i:Nat}(h:i<s.length:=by omega):∃x,idx s (i:Int)=some x/\x.toNat=bF s i:=⟨s[i],aU h,by rw[bF,eO h]⟩
def fu (s:Bytes)(a n:Int):Bool:=decide (0<=a/\a+n<=(s.length:Int))
theorem GN (s:Bytes)(a n:Int)(h:s.length<=10^9)(hn:0<=n):nQ s a n=some (fu s a n):=by
 unfold nQ fu;by_cases h0:0<=a;by_cases h1:a<=(s.length:Int)
 rw[ax (show a>=0 from h0),ax h1,aj (by omega) (by omega)];simp only[af,ab];congr 1;rw[decide_eq_decide];omega;rw[ax (show a>=0 from h0),aq h1,aq (show¬(0<=a/\a+n<=(s.length:Int)) by omega)];rfl;rw[aq (show¬a>=0 from h0),aq (show¬(0<=a/\a+n<=(s.length:Int)) by omega)];rfl
def cp (s:Bytes)(a:Int):Int:=bif fu s a 2 then((bF s a.toNat*256+bF s (a.toNat+1):Nat):Int) else-1
def eS (s:Bytes)(a:Int):Int:=bif fu s a 4 then(((bF s a.toNat*256+bF s (a.toNat+1))*65536+(bF s (a.toNat+2)*256+bF s (a.toNat+3)):Nat):Int) else-1
theorem se (s:Bytes)(a:Int)(h:s.length<=10^9):dF s a=some (cp s a):=by unfold dF cp;rw[GN s a 2 h (by omega),ab];cases hw:fu s a 2 with|false=>rfl|true=>simp only[fu,bD]at hw;obtain⟨n,rfl⟩:=aG hw.1;obtain⟨x,hx,ex⟩:=jQ (s:=s) (i:=n);obtain⟨y,hy,ey⟩:=jQ (s:=s) (i:=n+1);have hxl:=eL s n;have hyl:=eL s (n+1);rw[aj (n:=(n:Int)+1) (by omega) (by omega),hx,show(n:Int)+1=((n+1:Nat):Int) by omega,hy];simp only[ai,ae,ab,az,af];rw[mG,ex,ey,fD (by omega),fD (by omega)];have e8:rp 8=8:=rfl;rw[e8,aj (n:=((bF s n:Nat):Int)*2^8) (by omega) (by omega),aj (by omega) (by omega)];congr 1;all_goals omega
theorem AZ (s:Bytes)(a:Int)(h:s.length<=10^9):gN s a=some (eS s a):=by
 unfold gN eS;rw[GN s a 4 h (by omega),ab];cases hw:fu s a 4 with
 |false=>rfl
 |true=>
  simp only[fu,bD]at hw;obtain⟨n,rfl⟩:=aG hw.1;have w1:fu s (n:Int) 2=true:=by grind[fu]
  have w2:fu s ((n:Int)+2) 2=true:=by grind[fu]
  have b0:=eL s n;have b1:=eL s (n+1);have b2:=eL s (n+2);have b3:=eL s (n+3);rw[aj (n:=(n:Int)+2) (by omega) (by omega),se s _ h,se s _ h];simp only[ai,ae,ab,af,cp,w1,w2,az];rw[mG,show((n:Int)+2).toNat=n+2 by omega,show n+2+1=n+3 by omega];have e8:rp 16=16:=rfl;rw[e8,aj (n:=((bF s n*256+bF s (n+1):Nat):Int)*2^16) (by omega) (by omega),aj (by omega) (by omega)];congr 1;all_goals omega
theorem apg (a b:Nat)(ha:a<9223372036854775808)(hb:b<9223372036854775808):toNat (fE (a:Int)|||fE (b:Int))=a|||b:=by show(BitVec.ofInt 64 (a:Int)|||BitVec.ofInt 64 (b:Int)).toNat=_;grind
theorem agq (a b:Nat)(ha:a<9223372036854775808:=by omega)(hb:b<9223372036854775808:=by omega):toNat (fE (a:Int)&&&fE (b:Int))=a&&&b:=by show(BitVec.ofInt 64 (a:Int)&&&BitVec.ofInt 64 (b:Int)).toNat=_;grind
theorem aah (a b:Nat)(ha:a<9223372036854775808)(hb:b<9223372036854775808):toNat (fE (a:Int)^^^fE (b:Int))=a^^^b:=by show(BitVec.ofInt 64 (a:Int)^^^BitVec.ofInt 64 (b:Int)).toNat=_;grind
theorem ahS (a b:Nat)(ha:a<4294967296)(hb:b<4294967296):toNat (BitVec.ofInt (IntKind.bits .u32) (a:Int)&&&BitVec.ofInt (IntKind.bits .u32) (b:Int))=a&&&b:=by show(BitVec.ofInt 32 (a:Int)&&&BitVec.ofInt 32 (b:Int)).toNat=_;grind
theorem agG (a b:Nat)(ha:a<4294967296)(hb:b<4294967296):toNat (BitVec.ofInt (IntKind.bits .u32) (a:Int)^^^BitVec.ofInt (IntKind.bits .u32) (b:Int))=a^^^b:=by show(BitVec.ofInt 32 (a:Int)^^^BitVec.ofInt 32 (b:Int)).toNat=_;grind
theorem IM (x k y:Nat)(hy:y<2^k:=by omega)(h:2^k*x+y<9223372036854775808:=by omega):ak (toNat (fE ((2^k*x:Nat):Int)|||fE (y:Int)):Int)=((2^k*x+y:Nat):Int):=by rw[apg _ _ (by omega) (by omega),<-Nat.two_pow_add_eq_or_of_lt hy];exact fD h
theorem Mo (s:Bytes)(a n:Int):(cond (decide (a<0)) (some true) (some (decide (a>(s.length:Int)-n))))=some (!fu s a n):=by grind[fu]
theorem xt (s:Bytes)(a:Int)(h:s.length<=10^9):eK s a=some (cp s a):=by unfold eK cp;rw[aj (n:=(s.length:Int)-2) (by omega) (by omega)];rw[Mo,ab];cases hw:fu s a 2 with|false=>rfl|true=>simp only[fu,bD]at hw;obtain⟨n,rfl⟩:=aG hw.1;obtain⟨x,hx,ex⟩:=jQ (s:=s) (i:=n);obtain⟨y,hy,ey⟩:=jQ (s:=s) (i:=n+1);have hxl:=eL s n;have hyl:=eL s (n+1);rw[aj (n:=(n:Int)+1) (by omega) (by omega),hx,show(n:Int)+1=((n+1:Nat):Int) by omega,hy];simp only[ai,ae,af,ab,az];rw[mG,ex,ey,fD (n:=bF s n) (by omega),fD (n:=bF s (n+1)) (by omega)];have e8:rp 8=8:=rfl;rw[e8,show((bF s n:Nat):Int)*2^8=((2^8*bF s n:Nat):Int) by omega,fD (n:=2^8*bF s n) (by omega),IM (bF s n) 8 (bF s (n+1))];congr 1;all_goals omega
theorem AU (s:Bytes)(a:Int)(h:s.length<=10^9):ie s a=some (eS s a):=by
 unfold ie eS;rw[aj (n:=(s.length:Int)-4) (by omega) (by omega)];rw[Mo,ab];cases hw:fu s a 4 with
 |false=>rfl
 |true=>
  simp only[fu,bD]at hw;obtain⟨n,rfl⟩:=aG hw.1;obtain⟨x0,h0,e0⟩:=jQ (s:=s) (i:=n);obtain⟨x1,h1,e1⟩:=jQ (s:=s) (i:=n+1);obtain⟨x2,h2,e2⟩:=jQ (s:=s) (i:=n+2);obtain⟨x3,h3,e3⟩:=jQ (s:=s) (i:=n+3);have b0:=eL s n;have b1:=eL s (n+1);have b2:=eL s (n+2);have b3:=eL s (n+3)
  rw[aj (n:=(n:Int)+1) (by omega) (by omega),aj (n:=(n:Int)+2) (by omega) (by omega),aj (n:=(n:Int)+3) (by omega) (by omega),h0,show(n:Int)+1=((n+1:Nat):Int) by omega,h1,
   show(n:Int)+2=((n+2:Nat):Int) by omega,h2,show(n:Int)+3=((n+3:Nat):Int) by omega,h3]
  simp only[ai,ae,af,ab,az];rw[mG,mG,mG,e0,e1,e2,e3];generalize bF s n=p0 at*;generalize bF s (n+1)=p1 at*;generalize bF s (n+2)=p2 at*;generalize bF s (n+3)=p3 at*;have f24:rp 24=24:=rfl;have f16:rp 16=16:=rfl;have f8:rp 8=8:=rfl
  rw[fD (n:=p0) (by omega),fD (n:=p1) (by omega),fD (n:=p2) (by omega),fD (n:=p3) (by omega),f24,f16,f8,
   show((p0:Nat):Int)*2^24=((2^24*p0:Nat):Int) by omega,show((p1:Nat):Int)*2^16=((2^16*p1:Nat):Int) by omega,show((p2:Nat):Int)*2^8=((2^8*p2:Nat):Int) by omega,
   fD (n:=2^24*p0) (by omega),fD (n:=2^16*p1) (by omega),fD (n:=2^8*p2) (by omega),IM p0 24 (2^16*p1),
   show 2^24*p0+2^16*p1=2^16*(2^8*p0+p1) by omega,IM _ 16 (2^8*p2),
   show 2^16*(2^8*p0+p1)+2^8*p2=2^8*(2^8*(2^8*p0+p1)+p2) by omega,IM _ 8 p3]
  congr 1;all_goals omega
def Ir (c:Nat):Nat:=if c%2=1 then(c/2)^^^3988292384 else c/2
def vn:Nat->Nat->Nat
 |0,c=>c
 |n+1,c=>Ir (vn n c)
def aov (c:Nat)(s:Bytes):Nat:=s.foldl (λc b=>vn 8 (c^^^b.toNat)) c
def acP (s:Bytes):Int:=4294967295-(aov 4294967295 s:Int)
theorem De {b:Nat}(ha:a<4294967296)(hb:b<4294967296):a^^^b<4294967296:=Nat.xor_lt_two_pow (n:=32) ha hb
theorem aar (h:c<4294967296):Ir c<4294967296:=by grind[Ir,De]
theorem Jc (h:c<4294967296):∀n,vn n c<4294967296
 |0=>h
 |n+1=>aar (Jc h n)
theorem aex (k0:Int->Int->aw R)(k:Int->aw R)(hk:∀x y,k0 x y=k x)(v0:Bytes)(v4:Int)(c:Nat)(h:c<4294967296):aL (pB k0 v0 v4) fuel ((c:Int),0)=k (vn 8 c:Int):=by
 have vC:=cE
 have key:=Hl (T:=pB k0 v0 v4) 8 (λ(_:Unit) i=>((vn i c:Int),(i:Int))) (λ_ s nx=>nx s) (λ_=>k (vn 8 c:Int))
  (λi s nx hi=>by
   have hc:=Jc h i;simp only[pB];have a1:=agq (vn i c) 1;have x1:=aah (vn i c/2) 3988292384 (by omega) (by omega);simp only[Int.natCast_one]at a1
   rw[jo,af,a1,Nat.and_one_is_mod,
    show rp 1=1 from rfl,show fdiv ((vn i c:Nat):Int) (2^1)=((vn i c/2:Nat):Int) from by rw[Int.fdiv_eq_ediv_of_nonneg _ (by omega)];rfl,
    show(3988292384:Int)=((3988292384:Nat):Int) from rfl,x1,
    fD (n:=vn i c%2) (by omega),fD (n:=(vn i c/2)^^^3988292384) (by have:=De (a:=vn i c/2) (b:=3988292384) (by omega) (by omega);omega),mG,mG,aj (n:=(i:Int)+1) (by omega) (by omega)]
   show _=nx ((Ir (vn i c):Int),((i+1:Nat):Int));unfold Ir;by_cases hp:vn i c%2=1;rw[hp,aF rfl];rfl;have h0:vn i c%2=0:=by omega
   rw[h0,mG];rfl)
  (λs nx=>by simp only[pB];rw[fO,ae,hk])
  fuel 0 () (by omega) (by omega)
 refine key.trans ?_;rfl
theorem adE (k0:Int->Int->aw R)(k:Int->aw R)(hk:∀x y,k0 x y=k x)(v0:Bytes)(v4:Int)(c:Nat)(h:c<4294967296):aL (po k0 v0 v4) fuel ((c:Int),0)=k (vn 8 c:Int):=by
 have vC:=cE
 have key:=Hl (T:=po k0 v0 v4) 8 (λ(_:Unit) i=>((vn i c:Int),(i:Int))) (λ_ s nx=>nx s) (λ_=>k (vn 8 c:Int))
  (λi s nx hi=>by
   have hc:=Jc h i;simp only[po];have a1:=ahS (vn i c) 1 (by omega) (by omega);have x1:=agG (vn i c/2) 3988292384 (by omega) (by omega);simp only[Int.natCast_one]at a1
   rw[jo,af,a1,Nat.and_one_is_mod,
    show min (Int.toNat 1) (IntKind.bits .u32)=1 from rfl,show fdiv ((vn i c:Nat):Int) (2^1)=((vn i c/2:Nat):Int) from by rw[Int.fdiv_eq_ediv_of_nonneg _ (by omega)];rfl,
    show(3988292384:Int)=((3988292384:Nat):Int) from rfl,x1,
    KB (n:=vn i c%2),KB (n:=(vn i c/2)^^^3988292384) (De (by omega) (by omega)),mG,aj (n:=(i:Int)+1) (by omega) (by omega)]
   show _=nx ((Ir (vn i c):Int),((i+1:Nat):Int));unfold Ir;by_cases hp:vn i c%2=1;rw[hp,aF rfl];rfl;have h0:vn i c%2=0:=by omega
   rw[h0,mG];rfl)
  (λs nx=>by simp only[po];rw[fO,ae,hk])
  fuel 0 () (by omega) (by omega)
 refine key.trans ?_;rfl
theorem afW (s:Bytes)(h:s.length<=10^9):EX s=some (acP s):=by
 unfold EX;have:=DP (T:=tJ (λ(y4:Int) (_:Int)=>some (ak (4294967295-y4))) s) s (λ(c:Nat) i=>((c:Int),(i:Int))) (λ_ c=>c<4294967296) (λb c=> .ok (vn 8 (c^^^b.toNat))) (λc=>some (4294967295-(c:Int))) (by omega) (λi hi c nx hI=>?hs) (λi hi c c' hI hg=>?hn) (λc nx hI=>?hf) 4294967295 (by omega)
 case hs=>
  have hb:=kc s[i]
  simp only[tJ]
  rw[jo,aU hi,af,ab,fD (n:=s[i].toNat) (by omega),aah c s[i].toNat (by omega) (by omega)]
  have hx:=De hI (show s[i].toNat<4294967296 by omega)
  rw[fD (by omega),aex _ (λy=>nx (y,(i:Int)+1)) (λx y=>by grind[aj]) _ _ _ hx];rfl
 case hn=>
  grind[Jc,De,kc]
 case hf=>
  grind[tJ,aj]
 rw[J0]at this;exact this
theorem not_xor (c:Nat)(h:c<4294967296):toNat (BitVec.ofInt (IntKind.bits .u32) (IntKind.max .u32)^^^BitVec.ofInt (IntKind.bits .u32) (c:Int))=4294967295-c:=by show(BitVec.ofInt 32 4294967295^^^BitVec.ofInt 32 (c:Int)).toNat=_;rw[show BitVec.ofInt 32 4294967295=BitVec.allOnes 32 by decide,BitVec.ofInt_natCast,BitVec.allOnes_xor,BitVec.toNat_not,BitVec.toNat_ofNat,Nat.mod_eq_of_lt (show c<2^32 by omega)]
theorem afx (s:Bytes)(h:s.length<=10^9):Eh s=some (acP s):=by
 unfold Eh;have:=DP (T:=sY (λ(y4:Int) (_:Int)=>some (ak (IntKind.wrap .u32 (toNat (BitVec.ofInt (IntKind.bits .u32) (IntKind.max .u32)^^^BitVec.ofInt (IntKind.bits .u32) y4))))) s) s (λ(c:Nat) i=>((c:Int),(i:Int))) (λ_ c=>c<4294967296) (λb c=> .ok (vn 8 (c^^^b.toNat))) (λc=>some (4294967295-(c:Int))) (by omega) (λi hi c nx hI=>?hs) (λi hi c c' hI hg=>?hn) (λc nx hI=>?hf) 4294967295 (by omega)
 case hs=>
  have hb:=kc s[i]
  simp only[sY]
  rw[jo,aU hi,af,ab,KB (n:=s[i].toNat),agG c s[i].toNat (by omega) (by omega)]
  have hx:=De hI (show s[i].toNat<4294967296 by omega)
  rw[KB hx,adE _ (λy=>nx (y,(i:Int)+1)) (λx y=>by grind[aj]) _ _ _ hx];rfl
 case hn=>
  grind[Jc,De,kc]
 case hf=>
  simp only[sY]
  rw[fO,ae,not_xor c hI,KB,fD (by omega)]
  congr 1
  all_goals omega
 rw[J0]at this;exact this
def Nq (s:Bytes)(i:Nat):Nat:=bF s (i/8)/2^(7-i%8)%2
theorem I7 (s:Bytes)(i:Nat):Nq s i<2:=Nat.mod_lt _ (by omega)
theorem Ub (b k:Nat)(hb:b<256)(hk:k<=7):ak (toNat (fE (ak (fdiv (b:Int) ((2^k:Nat):Int)))&&&fE 1))=((b/2^k%2:Nat):Int):=by have e:fdiv (b:Int) ((2^k:Nat):Int)=((b/2^k:Nat):Int):=(Int.ofNat_fdiv b (2^k)).symm;have h1:b/2^k<=b:=Nat.div_le_self _ _;rw[e,fD (n:=b/2^k) (by omega)];have:=agq (b/2^k) 1;grind[fD]
theorem ZD (s:Bytes)(i:Nat)(hi:i/8<s.length:=by omega)(h:s.length<=10^9:=by omega):yP s (i:Int)=some ((Nq s i:Nat):Int):=by
 have e1:Int.tdiv (i:Int) 8=((i/8:Nat):Int):=(Int.ofNat_tdiv i 8).symm;have e2:tmod (i:Int) 8=((i%8:Nat):Int):=(Int.ofNat_tmod i 8).symm;unfold yP;rw[mG,e1,aj (n:=((i/8:Nat):Int)) (by omega) (by omega),aU hi,ab,mG,e2,aj (n:=7-((i%8:Nat):Int)) (by omega) (by omega),mG];have e3:(2:Int)^(min (Int.toNat (7-((i%8:Nat):Int))) (IntKind.bits .u8))=((2^(7-i%8):Nat):Int):=by grind[Int.toNat,IntKind.bits]
 grind[Ub,kc,Nq,bF]
theorem Z2 (s:Bytes)(i:Nat)(hi:i/8<s.length:=by omega)(h:s.length<=10^9:=by omega):zl s (i:Int)=some ((Nq s i:Nat):Int):=by
 have e1:Int.tdiv (i:Int) 8=((i/8:Nat):Int):=(Int.ofNat_tdiv i 8).symm;have e2:tmod (i:Int) 8=((i%8:Nat):Int):=(Int.ofNat_tmod i 8).symm;have hb:=kc s[i/8];unfold zl;rw[mG,e1,aj (n:=((i/8:Nat):Int)) (by omega) (by omega),aU hi,ab,mG,e2,aj (n:=7-((i%8:Nat):Int)) (by omega) (by omega),mG,fD (n:=s[i/8].toNat) (by omega)];have e3:(2:Int)^(min (Int.toNat (7-((i%8:Nat):Int))) (IntKind.bits .i64))=((2^(7-i%8):Nat):Int):=by grind[Int.toNat,IntKind.bits]
 have e4:fdiv ((s[i/8].toNat:Nat):Int) ((2^(7-i%8):Nat):Int)=((s[i/8].toNat/2^(7-i%8):Nat):Int):=(Int.ofNat_fdiv _ _).symm;have h1:s[i/8].toNat/2^(7-i%8)<=s[i/8].toNat:=Nat.div_le_self _ _;have key:=Ub s[i/8].toNat (7-i%8) hb (by omega);rw[e4,fD (n:=s[i/8].toNat/2^(7-i%8)) (by omega)]at key;simp_all[Nq,bF]
def Y5 (s:Bytes)(a:Nat):Nat->Nat
 |0=>0
 |j+1=>2*Y5 s a j+Nq s (a+j)
theorem aeZ (s:Bytes)(a:Nat):∀j,Y5 s a j<2^j
 |0=>by simp[Y5]
 |j+1=>by have:=aeZ s a j;grind[I7,Y5]
theorem PH (s:Bytes)(a j:Nat)(hj:j<=32):Y5 s a j<4294967296:=gy (aeZ s a j) (Nat.pow_le_pow_right (n:=2) (by omega) hj)
def WC (s:Bytes)(a:Int):Int:=bif ((s.length:Int) !=16)|| !dw a 0 96 then-1 else((Y5 s a.toNat 32:Nat):Int)
theorem afG (s:Bytes)(a:Int):vN s a=some (WC s a):=by
 unfold vN WC;rw[cO];cases hs:(s.length:Int) !=16;case true=>rfl
 cases ha:dw a 0 96;rfl;have h1:=bM.1 ha;have h2:s.length=16:=by simp at hs;omega
 obtain⟨a,rfl⟩:=aG h1.1;simp only[ae,ab,ai,bz,az];refine cd (λi=>(((Y5 s a i:Nat):Int),((a+i:Nat):Int))) 32 (by omega) (λi nx hi=>?_) (λnx=>?_);have hw:=PH s a i (by omega);have hb:=I7 s (a+i);simp only[pV];rw[aj (n:=(a:Int)+32) (by omega) (by omega),jo,af,mG,ZD s (a+i),ab,aj (n:=((a+i:Nat):Int)+1) (by omega) (by omega)];have e1:ak (((Y5 s a i:Nat):Int)*2^(rp 1))=((2^1*Y5 s a i:Nat):Int):=by have:(2:Int)^(rp 1)=2:=rfl;rw[this,aj (by omega) (by omega)];omega
 rw[e1,IM _ _ _];rw[show(((a+i:Nat):Int)+1)=((a+(i+1):Nat):Int) by omega];rfl;simp only[pV];rw[aj (n:=(a:Int)+32) (by omega) (by omega),fO];rfl
theorem af2 (s:Bytes)(a:Int):wN s a=some (WC s a):=by
 unfold wN WC;rw[cz];cases hs:(s.length:Int) !=16;case true=>rfl
 cases ha:dw a 0 96;rfl;have h1:=bM.1 ha;have h2:s.length=16:=by simp at hs;omega
 obtain⟨a,rfl⟩:=aG h1.1;simp only[ae,ab,ai,bz,az];refine cd (λi=>(((Y5 s a i:Nat):Int),(i:Int))) 32 (by omega) (λi nx hi=>?_) (λnx=>?_);have hw:=PH s a i (by omega);have hb:=I7 s (a+i);simp only[qj];rw[jo,af,aj (n:=(a:Int)+(i:Int)) (by omega) (by omega),show(a:Int)+(i:Int)=((a+i:Nat):Int) by omega,Z2 s (a+i),ab,aj (n:=(i:Int)+1) (by omega) (by omega)];rw[aj (n:=2*((Y5 s a i:Nat):Int)) (by omega) (by omega),aj (by omega) (by omega),Y5];congr 1;simp only[qj];rw[fO];rfl
def HO (s v:Bytes):Nat->Nat
 |0=>0
 |i+1=>if Nq v i=1 then HO s v i^^^Y5 s i 32 else HO s v i
theorem N5 (s v:Bytes):∀i,HO s v i<4294967296
 |0=>by simp[HO]
 |i+1=>by have:=N5 s v i;grind[HO,De,PH]
def Ck (s v:Bytes):Int:=bif ((s.length:Int) !=16)||decide ((v.length:Int)>12) then-1 else((HO s v (8*v.length):Nat):Int)
theorem adG (s v:Bytes):vJ s v=some (Ck s v):=by
 unfold vJ Ck;cases hs:(s.length:Int) !=16;case true=>rfl
 cases hv:decide ((v.length:Int)>12);case true=>rfl
 have h2:s.length=16:=by simp at hs;omega
 have h3:v.length<=12:=by simp at hv;omega
 simp only[ae,ab,bz];refine cd (λi=>(((HO s v i:Nat):Int),(i:Int))) (8*v.length) (by omega) (λi nx hi=>?_) (λnx=>?_);have hw:=PH s i 32 (by omega);have hh:=N5 s v i;have hb:=I7 v i;have eW:WC s (i:Int)=((Y5 s i 32:Nat):Int):=by unfold WC;rw[hs,bM.2 (show(0:Int)<=(i:Int)/\(i:Int)<=96 by omega)];rfl
 simp only[pR];rw[aj (n:=8*(v.length:Int)) (by omega) (by omega),jo,af,ZD v i,ab,afG,ab,eW,aah _ _ (by omega) (by omega),aj (n:=(i:Int)+1) (by omega) (by omega),fD (Nat.lt_trans (De hh hw) (by omega)),HO];by_cases h1:Nq v i=1;rw[h1,aF rfl];rfl;rw[aE h1,show(((Nq v i:Nat):Int)==1)=false from by simp;omega];rfl;simp only[pR];rw[aj (n:=8*(v.length:Int)) (by omega) (by omega),fO];rfl
theorem aez (s v:Bytes):wJ s v=some (Ck s v):=by
 unfold wJ Ck;cases hs:(s.length:Int) !=16;case true=>rfl
 cases hv:decide ((v.length:Int)>12);case true=>rfl
 have h2:s.length=16:=by simp at hs;omega
 have h3:v.length<=12:=by simp at hv;omega
 simp only[ae,ab,bz];refine cd (λi=>(((HO s v i:Nat):Int),(i:Int))) (8*v.length) (by omega) (λi nx hi=>?_) (λnx=>?_);have hw:=PH s i 32 (by omega);have hh:=N5 s v i;have hb:=I7 v i;have eW:WC s (i:Int)=((Y5 s i 32:Nat):Int):=by unfold WC;rw[hs,bM.2 (show(0:Int)<=(i:Int)/\(i:Int)<=96 by omega)];rfl
 simp only[qg];rw[aj (n:=8*(v.length:Int)) (by omega) (by omega),jo,af,Z2 v i,ab,af2,ab,eW,aah _ _ (by omega) (by omega),aj (n:=(i:Int)+1) (by omega) (by omega),fD (Nat.lt_trans (De hh hw) (by omega)),HO];by_cases h1:Nq v i=1;rw[h1,aF rfl];rfl;rw[aE h1,show(((Nq v i:Nat):Int)==1)=false from by simp;omega];rfl;simp only[qg];rw[aj (n:=8*(v.length:Int)) (by omega) (by omega),fO];rfl
def zF (f:Fa):Bytes:=((iS f.2.1++iS f.2.2.1)++bU f.2.2.2.1)++bU f.2.2.2.2
theorem XM (f:Fa):vK f=some (zF f):=by have:=dz f.2.1;have:=dz f.2.2.1;have:=bu f.2.2.2.1;have:=bu f.2.2.2.2;simp only[vK,Bq,kD,ab];rw[aQ (by omega),aQ (by grind),aQ (by grind)];rfl
theorem YG (f:Fa):wK f=some (zF f):=by have:=dz f.2.1;have:=dz f.2.2.1;have:=bu f.2.2.2.1;have:=bu f.2.2.2.2;simp only[wK,mz,gM,ab];rw[aQ (by omega),aQ (by grind),aQ (by grind)];rfl
theorem JA (s:Bytes)(f:Fa):sZ s f=some (Ck s (zF f)):=by grind[sZ,XM,adG,ab]
theorem Kf (s:Bytes)(f:Fa):tL s f=some (Ck s (zF f)):=by grind[tL,YG,aez,ab]
def CZ (s:iB)(f:Fa):Int:=bif ((s.2.length:Int)==0)||decide (Ck s.1 (zF f)<0) then-1 else tmod (Ck s.1 (zF f)) (s.2.length:Int)
theorem aaV (s:iB)(f:Fa):Ak s f=some (CZ s f):=by grind[Ak,CZ,JA,ab]
theorem ab1 (s:iB)(f:Fa):AA s f=some (CZ s f):=by grind[AA,CZ,Kf,ab]
theorem KM (s:iB)(f:Fa)(h:¬CZ s f<0):∃n:Nat,CZ s f=(n:Int)/\n<s.2.length:=by
 unfold CZ at h⊢;cases hc:((s.2.length:Int)==0)||decide (Ck s.1 (zF f)<0)with
 |true=>grind
 |false=>
  rw[hc]at h;simp only[dh,cy,cM]at hc;simp only[ae]at h⊢;have h1:0<=Ck s.1 (zF f):=by omega
  rw[eC h1]at h⊢;have:=fL (Ck s.1 (zF f)) (show(0:Int)<s.2.length by omega);grind[aG]
def HA (s:iB)(q:Int)(f:Fa):Int:=bif !AL s q||decide (CZ s f<0) then-1 else s.2.getD (CZ s f).toNat 0
theorem Vd (s:iB)(q:Int)(f:Fa)(h:s.2.length<=10^9):rN s q f=some (HA s q f):=by unfold rN HA;grind[aaV,ab,Om,KM,of_decide_eq_false,aU]
theorem Wb (s:iB)(q:Int)(f:Fa)(h:s.2.length<=10^9):su s q f=some (HA s q f):=by unfold su HA;grind[ab1,ab,IT,KM,of_decide_eq_false,aU]
theorem R8 (t:au Slot)(f:Fa)(h:∀j,j<8->pe (fM t j) f=false):∀n k,walk t f n k= -1
 |0,_=>rfl
 |n+1,k=>by unfold walk;rw[h _ (KA f k),R8 t f h n (k+1)];split<;>rfl
theorem LG (f:Fa):∀(t:au Slot)(m:Int),(∀s∈t,pe s f=false)->zC f t m= -1
 |[],_,_=>rfl
 |s::r,m,h=>by unfold zC;rw[h s (by simp)];exact LG f r (m+1) (λx hx=>h x (by simp[hx]))
theorem Xs (t:au Slot)(f:Fa)(h:xb t=true):zC f t 0=walk t f 8 0:=by simp only[xb,ah,bC,aW,dm]at h;obtain⟨h8,hs⟩:=h;by_cases hex:∃j,j<t.length/\pe (fM t j) f=true;obtain⟨j,hj,hu,e⟩:=F7 f t 0 hex;have:=hs j (by omega);simp only[nC,ah,cX,aO,bC]at this;simp only[pe,ah,bC,bD]at hu;rcases this.2 with g|g;rw[hu.1]at g;simp at g;rw[hu.2]at g;rw[show((0:Int))=((0:Nat):Int) from rfl,e,g];omega;have hn:∀j,j<t.length->pe (fM t j) f=false:=λj hj=>Bool.eq_false_iff.2 λhu=>hex ⟨j,hj,hu⟩;rw[R8 t f (λj hj=>hn j (by omega)),LG];intro s tV;obtain⟨j,hj,rfl⟩:=List.getElem_of_mem tV;have:=hn j hj;rwa[xC hj]at this
def findF (t:au Slot)(f:Fa):Int:=bif xb t then walk t f 8 0 else-1
theorem SS (t:au Slot)(f:Fa)(h:t.length<=10^9):xR t f=some (findF t f):=by grind[xR,findF,Rf,ab,Vc,Xs]
theorem Tt (t:au Slot)(f:Fa):yt t f=some (findF t f):=by grind[yt,findF,RU,ab,xb,V1]
theorem aaf (t:au Slot)(f:Fa):∀n k,walk t f n k= -1\/∃m:Nat,walk t f n k=(m:Int)/\m<8
 |0,_=> .inl rfl
 |n+1,k=>by unfold walk;split;exact .inl rfl;split;exact .inr ⟨_,rfl,KA f k⟩;exact aaf t f n (k+1)
theorem NP (t:au Slot)(f:Fa)(h:findF t f>=0):∃m:Nat,findF t f=(m:Int)/\m<t.length:=by
 unfold findF at h⊢;cases ht:xb t with
 |false=>grind
 |true=>
  rw[ht]at h;simp only[af]at h⊢;have h8:t.length=8:=by grind[xb]
  rcases aaf t f 8 0 with g|⟨m,g,hm⟩;all_goals grind
def gx (m:bw):Bool:=m.all (λx=>(x.length:Int)==128)&&decide ((m.length:Int)<=64)
theorem ES (m:bw)(h:m.length<=10^9):pD m=some (gx m):=by
 unfold pD gx;rw[rr (fin:=some (decide ((m.length:Int)<=64))) (λx:Bytes=>(x.length:Int)==128) m (by omega) (λi hi nx=>?hs) (λnx=>?hf)]
 case hs=>
  simp only[sm]
  rw[jo,aU hi,aj (by omega) (by omega)];rfl
 all_goals grind[sm]
theorem IH (m:bw)(h:m.length<=10^9):tc m=some (gx m):=ES m h
def S5:aA:=(0,0,0,false)
def K4 (m:aA):Bool:=dw m.1 0 7&&(dw m.2.1 0 1023&&dw m.2.2.1 0 63)
def vd (d p:Int)(m:aA):Bool:=(m.1==d)&&(m.2.1==p)
def S3 (l:au aA)(i:Nat):Bool:=K4 (l.getD i S5)&&(range i).all (λj=> !(vd (l.getD i S5).1 (l.getD i S5).2.1 (l.getD j S5)))
def fe (l:au aA):Bool:=decide ((l.length:Int)<=96)&&(range l.length).all (S3 l)
theorem Kg (l:au aA)(h:l.length<=10^9):oY l=some (fe l):=by
 unfold oY fe;rw[ph (hit:=some false) (fin:=some true) (S3 l) l.length (by omega) (λi nx hi=>?hs) (λnx=>?hf)]
 case hs=>
  simp only[oD]
  rw[jo,aU hi,aj (by omega) (by omega)]
  simp only[af,ab,cz,cm]
  rw[ph (hit:=some false) (fin:=nx ((i)+1)) (λj=> !(vd l[i].1 l[i].2.1 (l.getD j S5))) i (by omega) (λj nx hj=>?hs2) (λnx=>?Hh)]
  case hs2=>
   grind[mX,aU,aj,ab,vd]
  all_goals grind[mX,S3,K4]
 all_goals grind[oD]
def Vx (l:au aA)(d p:Int):Int:=match l.findIdx? (vd d p)with|some i=>(i:Int)|none=> -1
theorem U3 (l:au aA)(d p:Int)(h:l.length<=10^9):nu l d p=some (Vx l d p):=by unfold nu Vx;rw[G9 (hit:=λi=>some i) (fin:=some (-1)) (vd d p) l (by omega) (λi hi nx=>?hs) (λnx=>?hf)];all_goals grind[sP,aU,aj,ab,vd]
theorem Yl (l:au aA)(i:Nat)(hi:i<l.length):(Vx l l[i].1 l[i].2.1==(i:Int))=(range i).all (λj=> !(vd l[i].1 l[i].2.1 (l.getD j S5))):=by
 have Cm:vd l[i].1 l[i].2.1 l[i]=true:=by simp[vd]
 unfold Vx;cases hq:l.findIdx? (vd l[i].1 l[i].2.1)with
 |none=>rw[List.findIdx?_eq_none_iff]at hq;rw[hq l[i] (bc hi)]at Cm;cases Cm
 |some k=>
  rw[List.findIdx?_eq_some_iff_getElem]at hq;obtain⟨hk,hpk,gq⟩:=hq;rw[eT,aW];simp only[dm,bC,aO];constructor;intro e j hj;have hjl:j<l.length:=by omega
  rw[eO hjl];have:=gq j (by omega);simpa using this;intro FM;rcases Nat.lt_trichotomy k i with hki|hki|hki;have:=FM k hki;rw[eO hk,hpk]at this;cases this;omega;have:=gq i hki;rw[Cm]at this;simp at this
theorem JB (l:au aA)(h:l.length<=10^9):oP l=some (fe l):=by
 unfold oP fe;rw[ph (hit:=some false) (fin:=some (decide ((l.length:Int)<=96))) (S3 l) l.length (by omega) (λi nx hi=>?hs) (λnx=>?hf)]
 case hs=>
  simp only[om]
  rw[jo,aU hi,aj (by omega) (by omega)]
  grind[ab,cO,U3,Yl,S3,K4,dw]
 all_goals grind[om]
def LI (n:Int)(l:dR)(i:Nat):Bool:=dw (l.getD i 0) 0 (n-1)&& !((l.take i).contains (l.getD i 0))
def fQ (p:cn):Bool:=dw p.1 0 130944&&(dw p.2.1 1 512&&(dw p.2.2.1 0 16&&(range p.2.2.2.length).all (LI p.2.2.1 p.2.2.2)))
def FF (n:Int)(l:dR):au Bool:=(range n.toNat).map λk:Nat=>l.contains (k:Int)
theorem RH (n:Int)(l:dR):(FF n l).length=n.toNat:=by simp[FF]
theorem Hq (n:Int)(l:dR)(k:Nat)(h:k<(FF n l).length):(FF n l)[k]=l.contains (k:Int):=by simp[FF]
theorem abV (n:Int)(l:dR)(k:Nat)(h:k<n.toNat):(FF n l).set k true=FF n (l++[(k:Int)]):=by
 apply List.ext_getElem;simp[FF];intro j h1 h2;rw[List.getElem_set];split;rename_i e;subst e;rw[Hq];simp;rename_i e;rw[Hq,Hq];simp only[List.contains_append];have:([(k:Int)].contains (j))=false:=by simp;omega
 rw[this];simp
theorem VA {T:(au Bool×Int->aw Bool)->au Bool×Int->aw Bool}(n:Int)(l:dR)(hl:l.length<=10^9)
 (hs:∀i (hi:i<l.length)(s:au Bool) nx,T nx (s,(i:Int))=aa (cond (!(dw l[i] 0 (n-1))) (some true) (aa (idx s l[i]) λx=>some x)) λq=>
  cond q (some false) (aa (idx s l[i]) λ_=>aa (idx s l[i]) λ_=>nx (s.set l[i].toNat true,((i+1:Nat):Int)))) (hf:∀s nx,T nx (s,(l.length:Int))=some true):
 aL T fuel (List.replicate n.toNat false,0)=some ((range l.length).all (LI n l)):=by
 have e0:(List.replicate n.toNat false,(0))=(FF n (l.take 0),((0:Nat):Int)):=by congr 1;simp only[FF,List.take_zero,List.contains_nil,List.map_const',List.length_range]
 rw[e0,KH (λi=>(FF n (l.take i),(i:Int))) (LI n l) l.length (by omega) (λi nx hi hp=>?hs) (λ_ nx=>hf _ nx)]
 case hs=>
  rw[hs i hi]
  unfold LI
  rw[eO hi]
  by_cases tU:dw l[i] 0 (n-1)=true
  ·have hb:=tU
   rw[bM]at hb
   obtain⟨k,hk⟩:∃k:Nat,l[i]=(k):=⟨l[i].toNat,by omega⟩
   have hkn:k<(FF n (l.take i)).length:=by rw[RH];omega
   rw[tU,hk,aU hkn,Hq]
   simp only[ai,ae,ab,bt,Bool.not_not,az]
   rw[abV _ _ _ (by rw[RH]at hkn;exact hkn),<-hk,<-bg hi]
  ·have ado:dw l[i] 0 (n-1)=false:=by simpa using tU
   rw[ado];rfl
 cases (range l.length).all (LI n l)<;>rfl
theorem tI (p:cn)(h:p.2.2.2.length<=10^9):iz p=some (fQ p):=by
 unfold iz fQ;simp only[cz,ab,cm];by_cases hn:dw p.2.2.1 0 16=true
 ·have hb:=hn;rw[bM]at hb;rw[zip,aQ (by omega),VA p.2.2.1 p.2.2.2 h (λi hi s nx=>?hs) (λs nx=>?hf)]
  case hs=>
   simp only[wP]
   rw[jo,aU hi,aj (by omega) (by omega),aj (by omega) (by omega)]
   simp only[af,ab,cz];rfl
  case hf=>
   simp only[wP]
   rw[fO];rfl
  rw[hn];cases dw p.1 0 130944<;>cases dw p.2.1 1 512<;>rfl
 have Bm:dw p.2.2.1 0 16=false:=by simpa using hn
 rw[Bm];cases dw p.1 0 130944<;>cases dw p.2.1 1 512<;>rfl
theorem vE (p:cn)(h:p.2.2.2.length<=10^9):iu p=some (fQ p):=by
 unfold iu fQ;simp only[cO,ab,cm];by_cases hn:dw p.2.2.1 0 16=true
 ·have hb:=hn;rw[bM]at hb;rw[zip,aQ (by omega),VA p.2.2.1 p.2.2.2 h (λi hi s nx=>?hs) (λs nx=>?hf)]
  case hs=>
   simp only[vQ]
   rw[jo,aU hi,aj (by omega) (by omega),aj (by omega) (by omega)]
   simp only[af,ab,cO];rfl
  case hf=>
   simp only[vQ]
   rw[fO];rfl
  rw[hn];cases dw p.1 0 130944<;>cases dw p.2.1 1 512<;>rfl
 have Bm:dw p.2.2.1 0 16=false:=by simpa using hn
 rw[Bm];cases dw p.1 0 130944<;>cases dw p.2.1 1 512<;>rfl
def ky (n:Int):Bool:=(n==2)||((n==4)||((n==8)||(n==16)))
theorem En (n:Int):sE n=some (ky n):=by grind[sE,ab,ky]
theorem GI (n:Int):tj n=some (ky n):=En n
theorem mx {n:Int}:ky n=true↔n=2\/n=4\/n=8\/n=16:=by simp[ky]
theorem DU (x:Int)(k:Nat)(hk:k<=64:=by omega):ak x%(2^k:Int)=x%(2^k:Int):=by
 obtain⟨c,hc⟩:∃c:Int,(18446744073709551616)=2^k*c:=⟨2^(64-k),by rw[<-Int.pow_add,show k+(64-k)=64 by omega];rfl⟩
 have:ak x=x\/∃q:Int,ak x=x+18446744073709551616*q:=by right;simp only[ak,fW,IntKind.wrap,IntKind.bits,IntKind.signed];simp;split;exact⟨-(x/18446744073709551616)-1,by omega⟩;exact⟨-(x/18446744073709551616),by omega⟩
 rcases this with h|⟨q,h⟩;all_goals simp_all[Int.mul_assoc]
theorem Dk (x:Int)(k:Nat)(hk:k<63:=by omega):((fE x&&&fE (2^k-1)).toNat:Int)=x%2^k:=by
 have h2:(2)^k<=2^62:=by have:(2)^k<=2^62:=Nat.pow_le_pow_right (by omega) (by omega);exact_mod_cast this
 have hm:(fE (2^k-1)).toNat=2^k-1:=by show(BitVec.ofInt 64 (2^k-1)).toNat=2^k-1;grind
 rw[BitVec.toNat_and,hm,Nat.and_two_pow_sub_one_eq_mod];have hx:0<=x%18446744073709551616:=by omega
 have e:(((x%18446744073709551616).toNat%2^k))=(x%18446744073709551616)%2^k:=by push_cast;rw[Int.toNat_of_nonneg hx]
 refine e.trans ?_;exact Int.emod_emod_of_dvd x ⟨2^(64-k),by rw[<-Int.pow_add,show k+(64-k)=64 by omega];rfl⟩
theorem K6 (x n:Int)(h0:0<n:=by omega)(h1:n<=4611686018427387904:=by omega):iw x n=some (x%n):=by unfold iw;have:=Int.emod_nonneg x (show n≠0 by omega);grind[fL,aj]
def cR (r:kA):Int:=if ky r.2.1 then(r.2.2.2-r.2.2.1)%(2*r.2.1) else 0
theorem BU (r:kA):jb r=some (cR r):=by
 unfold jb cR;rw[En,ab];cases hs:ky r.2.1 with
 |false=>rfl
 |true=>
  congr 1;rcases mx.1 hs with h|h|h|h<;>rw[h];have e:ak (ak (2*2)-1)=2^2-1:=by decide
  rw[e,Dk _ 2,DU _ 2,aj (by omega) (by omega)];rfl;have e:ak (ak (2*4)-1)=2^3-1:=by decide
  rw[e,Dk _ 3,DU _ 3,aj (by omega) (by omega)];rfl;have e:ak (ak (2*8)-1)=2^4-1:=by decide
  rw[e,Dk _ 4,DU _ 4,aj (by omega) (by omega)];rfl;have e:ak (ak (2*16)-1)=2^5-1:=by decide
  rw[e,Dk _ 5,DU _ 5,aj (by omega) (by omega)];rfl
theorem Bo (r:kA):iZ r=some (cR r):=by unfold iZ cR;rw[GI,ab];cases hs:ky r.2.1 with|false=>rfl|true=>have hb:=mx.1 hs;rw[aj (by omega) (by omega)];simp only[K6 _ (2*r.2.1) (show 0<2*r.2.1 by omega),ab];grind[aj]
def ft (r:kA):Bool:=dw r.1 0 130944&&(ky r.2.1&&(dw r.2.2.1 0 (2*r.2.1-1)&&(dw r.2.2.2 0 (2*r.2.1-1)&&decide (cR r<=r.2.1))))
theorem Hs {n:Int}(h:ky n=true):ak (ak (2*n)-1)=2*n-1:=by grind[mx,aj]
theorem zj (r:kA):jn r=some (ft r):=by unfold jn ft;simp only[cz,En,BU,ab,cm,cF];grind[ky,Hs]
theorem yM (r:kA):jk r=some (ft r):=by unfold jk ft;simp only[cO,GI,Bo,ab,cm,cF];grind[ky,Hs]
theorem xx (p:cn)(h:p.2.2.2.length<=10^9):jd p=some p:=by grind[jd,aQ]
theorem nV (l:dR)(h:l.length<=10^9):fI l=some l:=by grind[fI,aQ]
theorem uO (p:cn)(h:p.2.2.2.length<=10^9):hZ p=some p:=by simp_all[hZ,nV]
def Tg (p:cn)(l:dR):cn:=(p.1,p.2.1,p.2.2.1,p.2.2.2++l)
def N1 (p:cn)(l:dR):Bool:=fQ p&&fQ (Tg p l)
def N0 (p:cn)(l:dR):cn×Bool:=bif N1 p l then(Tg p l,true) else(p,false)
theorem Pa (p:cn)(l:dR)(h:p.2.2.2.length+l.length<=10^9):gh p l=some (N0 p l):=by unfold gh;rw[xx p (by omega),ab,aQ (by omega),tI p (by omega)];rw[tI (p.1,p.2.1,p.2.2.1,p.2.2.2++l) (by simp;omega)];show _=some (bif fQ p&&fQ (p.1,p.2.1,p.2.2.1,p.2.2.2++l) then _ else _);cases fQ p<;>cases fQ (p.1,p.2.1,p.2.2.1,p.2.2.2++l)<;>rfl
theorem Oi (p:cn)(l:dR)(h:p.2.2.2.length+l.length<=10^9):fG p l=some (N0 p l):=by unfold fG;rw[uO p (by omega),ab,aQ (by omega),vE p (by omega)];rw[vE (p.1,p.2.1,p.2.2.1,p.2.2.2++l) (by simp;omega)];show _=some (bif fQ p&&fQ (p.1,p.2.1,p.2.2.1,p.2.2.2++l) then _ else _);cases fQ p<;>cases fQ (p.1,p.2.1,p.2.2.1,p.2.2.2++l)<;>rfl
theorem adb (p:cn)(l:dR):(N0 p l).2=N1 p l:=by grind[N0]
def jz (n:Int)(s:ir):Bool:=dw s.2.1 1 n&&dw s.1 0 65535
def cb (l:au ir):dR:=l.flatMap (·.2.2)
def dL (l:au ir):Int:=(l.map (·.2.1)).sum
def PE (t:bI):Bool:=ft t.1&&(fQ t.2.1&&(dw t.2.2.2 0 65535&&(t.2.2.1.all (jz t.1.2.1)&&(N1 t.2.1 (cb t.2.2.1)&&decide (dL t.2.2.1<=t.1.2.1)))))
theorem Jb (n:Int):∀l:au ir,l.all (jz n)=true->0<=dL l
 |[],_=>by simp[dL]
 |x::l,h=>by simp only[bO,ah]at h;have:=Jb n l h.2;grind[jz,bM,dL]
theorem RR (p:cn)(n:Int)(hn:0<=n/\n<=16)(fin:Int×dR->aw Bool)(la:∀s:Int×dR,p.2.2.2.length+s.2.length<=10^9->fin s=some (N1 p s.2&&decide (s.1<=n))):
 ∀(l:au ir)(sum:Int)(acc:dR),0<=sum->sum+16*l.length<=100000000000->p.2.2.2.length+(acc.length+(cb l).length)<=10^9->
 xk (λx (s:Int×dR) k=>cond (!(jz n x)) (some false) (room (s.2.length+x.2.2.length) (k (ak (s.1+x.2.1),s.2++x.2.2)))) fin l (sum,acc)
  =some (l.all (jz n)&&(N1 p (acc++cb l)&&decide (sum+dL l<=n)))
 |[],sum,acc,h0,h1,h2=>by simp_all[xk,cb,dL]
 |x::l,sum,acc,h0,h1,h2=>by
  have hb:cb (x::l)=x.2.2++cb l:=by simp[cb]
  rw[hb,ar]at h2;rw[xk,bO];cases hx:jz n x with
  |false=>rfl
  |true=>
   have zY:=hx;unfold jz at zY;simp only[ah,bM]at zY;simp only[ca,Int.natCast_add,Int.natCast_one]at h1;simp only[ai,ae,bt];rw[aQ (by omega),aj (by omega) (by omega),RR p n hn fin la l _ _ (by omega) (by omega) (by rw[ar];omega)];rw[hb,aP];have e:sum+x.2.1+dL l=sum+dL (x::l):=by grind[dL]
   rw[e]
theorem Rb (p:cn)(n:Int)(hn:n<=16)(fin:Int×dR->aw Bool)(la:∀s:Int×dR,p.2.2.2.length+s.2.length<=10^9->fin s=some (N1 p s.2)):
 ∀(l:au ir)(left:Int)(acc:dR),0<=left->left<=n->p.2.2.2.length+(acc.length+(cb l).length)<=10^9->
 xk (λx (s:Int×dR) k=>cond (decide (x.2.1<1)||(decide (x.2.1>s.1)|| !(dw x.1 0 65535))) (some false) (room (s.2.length+x.2.2.length) (k (ak (s.1-x.2.1),s.2++x.2.2)))) fin l (left,acc)
  =some (l.all (jz n)&&(N1 p (acc++cb l)&&decide (dL l<=left)))
 |[],left,acc,h0,h1,h2=>by rw[xk,la _ (by exact h2)];simp[cb,dL,h0]
 |x::l,left,acc,h0,h1,h2=>by
  have hb:cb (x::l)=x.2.2++cb l:=by simp[cb]
  have hc:dL (x::l)=x.2.1+dL l:=by simp only[dL,List.map_cons,List.sum_cons]
  rw[hb,ar]at h2;rw[xk,bO,hb,hc];by_cases c1:x.2.1<1;have e:jz n x=false:=by unfold jz dw;rw[aq (show¬1<=x.2.1 by omega)];rfl
  rw[e,ax c1];rfl;rw[aq c1];by_cases c2:x.2.1>left;rw[ax c2];cases ha:l.all (jz n)with|false=>simp|true=>have:=Jb n l ha;rw[aq (show¬x.2.1+dL l<=left by omega)];simp
  rw[aq c2];have e:jz n x=dw x.1 0 65535:=by have:dw x.2.1 1 n=true:=bM.2 ⟨by omega,by omega⟩;unfold jz;rw[this];rfl
  rw[e];cases dw x.1 0 65535 with
  |false=>rfl
  |true=>
   simp only[cH,ai,ae,bt];rw[aQ (by omega),aj (by omega) (by omega),Rb p n hn fin la l _ _ (by omega) (by omega) (by rw[ar];omega),aP];have e:decide (dL l<=left-x.2.1)=decide (x.2.1+dL l<=left):=by simp;omega
   rw[e]
theorem YM (t:bI)(h1:t.2.2.1.length<=10^9)(h2:t.2.1.2.2.2.length+(cb t.2.2.1).length<=10^9):Ba t=some (PE t):=by
 unfold Ba PE;simp only[zj,tI _ (show t.2.1.2.2.2.length<=10^9 by omega),cz,ab,cm];cases hr:ft t.1 with
 |false=>rfl
 |true=>
  have hn:0<=t.1.2.1/\t.1.2.1<=16:=by grind[ft,mx]
  have vC:=cE;have key:=xw (T:=wU (λ(y9) (xe) (_)=>aa (gh t.2.1 xe) λpz=>some (bif pz.2 then decide (y9<=t.1.2.1) else false)) (λ(GX) (_) (_) (_)=>some GX) false t) t.2.2.1 (λ(s) i=>(s.1,s.2,(i))) (λx (s) k=>cond (!(jz t.1.2.1 x)) (some false) (room (s.2.length+x.2.2.length) (k (ak (s.1+x.2.1),s.2++x.2.2)))) (λs=>aa (gh t.2.1 s.2) λpz=>some (pz.2&&decide (s.1<=t.1.2.1))) (λi hi s nx=>by simp(disch:=omega)[wU,ax,aU,aj,cz,jz]) (λs nx=>by grind[wU]) fuel 0 (0,([])) (by omega) (by omega);rw[ef,RR t.2.1 t.1.2.1 hn _ (λs hs=>by grind[Pa,ab,adb]) _ _ _ (by omega) (by omega) (by simpa using h2)]at key;grind
theorem XT (t:bI)(h1:t.2.2.1.length<=10^9)(h2:t.2.1.2.2.2.length+(cb t.2.2.1).length<=10^9):AW t=some (PE t):=by
 unfold AW PE;simp only[yM,vE _ (show t.2.1.2.2.2.length<=10^9 by omega),cO,ab,cm];cases hr:ft t.1 with
 |false=>rfl
 |true=>
  have hn:0<=t.1.2.1/\t.1.2.1<=16:=by grind[ft,mx]
  have vC:=cE;have key:=xw (T:=vT (λ(_) (y9) (_)=>aa (fG t.2.1 y9) λvf=>some vf.2) (λ(Lx) (_) (_) (_)=>some Lx) false t.2.2.1 ((List.length t.2.2.1)) t) t.2.2.1 (λ(s) i=>(s.1,s.2,(i))) (λx (s) k=>cond (decide (x.2.1<1)||(decide (x.2.1>s.1)|| !(dw x.1 0 65535))) (some false) (room (s.2.length+x.2.2.length) (k (ak (s.1-x.2.1),s.2++x.2.2)))) (λs=>aa (fG t.2.1 s.2) λpz=>some pz.2) (λi hi s nx=>by simp(disch:=omega)[vT,ax,aU,aj,cO,cm]) (λs nx=>by grind[vT]) fuel 0 (t.1.2.1,([])) (by omega) (by omega);rw[ef,Rb t.2.1 t.1.2.1 (by omega) _ (λs hs=>by grind[Oi,ab,adb]) _ _ _ (by omega) (by omega) (by simpa using h2)]at key;grind
def J4 (s:dy):Bool:=dw s.2.1 0 65535&&(dw s.2.2.1 0 65535&&(!decide ((List.length s.2.2.2.2.2.2.2:Int)>320)&&
 (bif s.1==17 then(s.2.2.2.1==0)&&((s.2.2.2.2.1==0)&&((s.2.2.2.2.2.1==0)&&(s.2.2.2.2.2.2.1==0)))
  else(s.1==6)&&(dw s.2.2.2.1 0 4294967295&&(dw s.2.2.2.2.1 0 4294967295&&(dw s.2.2.2.2.2.1 0 31&&dw s.2.2.2.2.2.2.1 0 65535))))))
theorem Z5 (s:dy):ri s=some (J4 s):=by simp_all[ri,cz,cm,Bool.and_assoc,J4]
theorem ZH (s:dy):qK s=some (J4 s):=by simp only[qK,cO,ab,cm,cF,cT,cN,Bool.not_or,Bool.not_not,Bool.and_assoc,J4];by_cases h:s.1=17;rw[h];rfl;rw[show(s.1==17)=false from by simpa using h];cases s.1==6<;>rfl
def F8 (f:Int):Bool:=(f==16)||(f==17)||(f==24)||(f==25)
theorem NT (f:Int)(h:dw f 0 31=true):(ak (toNat (fE f&&&~~~ fE 9))==16)=F8 f:=by
 have key:∀k:Fin 32,(ak (toNat (fE (k.val:Int)&&&~~~ fE 9))==16)=F8 (k.val:Int):=by decide
 rw[bM]at h;have:=key ⟨f.toNat,by omega⟩;grind
theorem NS (f:Int)(h:dw f 0 31=true):qP f=some (F8 f):=by
 have key:∀k:Fin 32,((ak (toNat (fE (k.val:Int)&&&fE 16)) !=0)&&(ak (toNat (fE (k.val:Int)&&&~~~ fE 25))==0))=F8 (k.val:Int):=by decide
 rw[bM]at h;have:=key ⟨f.toNat,by omega⟩;rw[show((f.toNat:Nat):Int)=f by omega]at this;grind[qP,ab]
theorem Lo {s:dy}(h:J4 s=true)(h6:(s.1==6)=true):dw s.2.2.2.2.2.1 0 31=true:=by grind[J4]
def LP (p:aR):Bool:=dw p.1 0 281474976710655&&(dw p.2.1 0 281474976710655&&(dw p.2.2.1 (-1) 4095&&(dw p.2.2.2.1 0 255&&(dw p.2.2.2.2.2.1 0 255&&(dw p.2.2.2.2.1 0 65535&&(dw p.2.2.2.2.2.2.1 0 4294967295&&(dw p.2.2.2.2.2.2.2.1 0 4294967295&&J4 p.2.2.2.2.2.2.2.2)))))))
def dV (p:aR):Bool:=LP p&&(decide ((List.length p.2.2.2.2.2.2.2.2.2.2.2.2.2.2.2:Int)<=128)||(p.2.2.2.2.2.2.2.2.1==6)&&F8 p.2.2.2.2.2.2.2.2.2.2.2.2.2.1)
theorem N7 (h:LP p=true):J4 p.2.2.2.2.2.2.2.2=true:=by grind[LP]
theorem sf (p:aR):gI p=some (dV p):=by unfold gI dV;simp only[cz,Z5,ab,cm,cF,cT,cN,Bool.not_or,Bool.not_not];rw[show(dw p.1 0 281474976710655&&(dw p.2.1 0 281474976710655&&(dw p.2.2.1 (-1) 4095&&(dw p.2.2.2.1 0 255&&(dw p.2.2.2.2.2.1 0 255&&(dw p.2.2.2.2.1 0 65535&&(dw p.2.2.2.2.2.2.1 0 4294967295&&(dw p.2.2.2.2.2.2.2.1 0 4294967295&&J4 p.2.2.2.2.2.2.2.2))))))))=LP p from rfl];grind[NT,Lo,N7,Bool.or_comm]
theorem pn (p:aR):ga p=some (dV p):=by unfold ga dV;simp only[cO,ZH,ab];grind[LP,NS,Lo,ab]
def gL (q:MS):Bool:=dw q.1 0 130944&&(ky q.2.1&&dw q.2.2 0 (ak ((ak (2*q.2.1))-1)))
theorem Lt (q:MS):oG q=some (gL q):=by grind[oG,cz,En,ab,gL]
theorem KW (q:MS):ot q=some (gL q):=by grind[ot,cO,GI,ab,gL]
def ahD:jM:=((0,0,0,0,0,0,0,0,0,0,0,0,0,0,0,([]:Bytes)),0,0)
def aeK (p:jM):Bool:=(p.1.1==0)&&((p.1.2.1==0)&&((p.1.2.2.1==0)&&((p.1.2.2.2.1==0)&&((p.1.2.2.2.2.1==0)&&((p.1.2.2.2.2.2.1==0)&&((p.1.2.2.2.2.2.2.1==0)&&((p.1.2.2.2.2.2.2.2.1==0)&&((p.1.2.2.2.2.2.2.2.2.1==0)&&((p.1.2.2.2.2.2.2.2.2.2.1==0)&&((p.1.2.2.2.2.2.2.2.2.2.2.1==0)&&((p.1.2.2.2.2.2.2.2.2.2.2.2.1==0)&&((p.1.2.2.2.2.2.2.2.2.2.2.2.2.1==0)&&((p.1.2.2.2.2.2.2.2.2.2.2.2.2.2.1==0)&&((p.1.2.2.2.2.2.2.2.2.2.2.2.2.2.2.1==0)&&((p.1.2.2.2.2.2.2.2.2.2.2.2.2.2.2.2==([]:Bytes))&&((p.2.1==0)&&((p.2.2==0)&&true)))))))))))))))))
def OZ (r:bl):Bool:=(ft r.1&&(gL r.2.1&&(gL r.2.2.1&&((r.2.1.1==r.2.2.1.1)&&((r.2.1.2.1==r.2.2.1.2.1)&&dw r.2.2.2.2.2 0 1000000000000)))))&&
 (bif r.2.2.2.2.1 then dV r.2.2.2.1.1&&(dw r.2.2.2.1.2.1 0 320&&dw r.2.2.2.1.2.2 1 320) else aeK r.2.2.2.1)
theorem Tz (r:bl):xG r=some (OZ r):=by unfold xG OZ aeK;simp_all[zj,Lt,cz,sf,cm,bne]
theorem SY (r:bl):xu r=some (OZ r):=by unfold xu OZ aeK;simp_all[yM,KW,cO,pn,cm,bne]
def sM (v:Vector):Bool:=(jc v).getD false
theorem xE (v:Vector):jc v=some (sM v):=by simp_all[jc,rj,cz,cm,sM]
theorem Bp (v:Vector):mm v=some (sM v):=xE v
theorem Lj (l:au α)(p:α->Bool):(range l.length).all (λi=>l[i]?.all p)=l.all p:=by rw[eT,aW,aW];constructor;intro h x hx;obtain⟨i,hi,rfl⟩:=List.getElem_of_mem hx;have:=h i (dm.2 hi);rwa[al hi]at this;intro h i hi;rw[al (dm.1 hi)];exact h _ (bc _)
theorem Zc (l:au α)(p q:α->Bool):l.all (λx=>p x&&q x)=(l.all p&&l.all q):=by grind
def jN (h:Host):dR:=[h.2.2.2.2.2.2.2.2.2.2.2.2.2.2.1,h.2.2.2.2.2.2.2.2.2.2.2.2.2.2.2.1,h.2.2.2.2.2.2.2.2.2.2.2.2.2.2.2.2.1,h.2.2.2.2.2.2.2.2.2.2.2.2.2.2.2.2.2.1,h.2.2.2.2.2.2.2.2.2.2.2.2.2.2.2.2.2.2]
def wx (h:Host):Bool:=dw (h.2.2.2.1.length:Int) 1 2&&(((h.2.2.2.2.1.length:Int)==(h.2.2.2.1.length:Int))&&(((h.2.2.2.2.2.1.length:Int)==(h.2.2.2.1.length:Int))&&((h.2.2.2.2.2.2.1.length:Int)==(h.2.2.2.1.length:Int))))
def VM (h:Host):Bool:=h.2.2.2.1.all OZ&&(h.2.2.2.2.1.all fQ&&h.2.2.2.2.2.1.all sM)
def dN (h:Host):Bool:=gx h.1&&(fe h.2.1&&(PE h.2.2.1&&(Ag h.2.2.2.2.2.2.2.1&&(wx h&&(gX h.2.2.2.2.2.2.2.2.1 (h.2.2.2.1.length:Int)&&(VM h&&(jN h).all (λx=>dw x 0 1000000000000)))))))
structure DX (h:Host):Prop where
 a1:h.1.length<=10^9
 a2:h.2.1.length<=10^9
 t1:h.2.2.1.2.2.1.length<=10^9
 t2:h.2.2.1.2.1.2.2.2.length+(cb h.2.2.1.2.2.1).length<=10^9
 f1:h.2.2.2.2.2.2.2.1.2.2.length<=10^9
 s1:h.2.2.2.2.2.2.2.2.1.1.length<=10^9
 s2:h.2.2.2.2.2.2.2.2.1.2.1.length<=10^9
 s3:h.2.2.2.2.2.2.2.2.1.2.2.2.length<=10^9
 p1:∀p∈h.2.2.2.2.1,p.2.2.2.length<=10^9
theorem mT (l:wx h=true):h.2.2.2.1.length<=2/\h.2.2.2.2.1.length=h.2.2.2.1.length/\h.2.2.2.2.2.1.length=h.2.2.2.1.length/\h.2.2.2.2.2.2.1.length=h.2.2.2.1.length:=by grind[wx,bM]
theorem RE {T:(Int->aw R)->Int->aw R}{fin hit:aw R}(l:wx h=true)(hs:∀i (hi:i<h.2.2.2.1.length) nx,T nx (i:Int)=cond (!(OZ h.2.2.2.1[i]&&(fQ (h.2.2.2.2.1[i]'((mT l).2.1▸hi))&&sM (h.2.2.2.2.2.1[i]'((mT l).2.2.1▸hi))))) hit (nx ((i+1:Nat):Int)))(hf:∀nx,T nx (h.2.2.2.1.length:Int)=fin):aL T fuel 0=cond (VM h) fin hit:=by
 have hl:=mT l;rw[ph (fin:=fin) (hit:=hit) (λi=>h.2.2.2.1[i]?.all OZ&&(h.2.2.2.2.1[i]?.all fQ&&h.2.2.2.2.2.1[i]?.all sM)) h.2.2.2.1.length (by omega) ?hs hf]
 case hs=>
  grind
 rw[Zc,Zc,Lj];have e1:=Lj h.2.2.2.2.1 fQ;have e2:=Lj h.2.2.2.2.2.1 sM;rw[hl.2.1]at e1;rw[hl.2.2.1]at e2;rw[e1,e2];rfl
theorem LF {T:(Int->aw R)->Int->aw R}{fin hit:aw R}(h:Host)(hs:∀i (hi:i<(jN h).length) nx,T nx (i:Int)=cond (!(dw (jN h)[i] 0 1000000000000)) hit (nx ((i+1:Nat):Int)))(hf:∀nx,T nx ((jN h).length:Int)=fin):aL T fuel 0=cond ((jN h).all (λx=>dw x 0 1000000000000)) fin hit:=rr (λx=>dw x 0 1000000000000) (jN h) (by simp[jN]) hs hf
theorem lX (h:Host)(z:DX h):fV h=some (dN h):=by
 unfold fV dN;simp only[ES _ z.a1,Kg _ z.a2,YM _ z.t1 z.t2,IS _ z.f1,EW _ _ z.s1 z.s2 z.s3,cz,ab,cm];cases gx h.1;rfl;cases fe h.2.1;rfl;cases PE h.2.2.1;rfl;cases Ag h.2.2.2.2.2.2.2.1;rfl;simp only[ai,ae,cT,bne];rw[show(!dw (h.2.2.2.1.length:Int) 1 2||(!((h.2.2.2.2.1.length:Int)==(h.2.2.2.1.length:Int))||(!((h.2.2.2.2.2.1.length:Int)==(h.2.2.2.1.length:Int))||(!((h.2.2.2.2.2.2.1.length:Int)==(h.2.2.2.1.length:Int))|| !gX h.2.2.2.2.2.2.2.2.1 (h.2.2.2.1.length:Int)))))= !(wx h&&gX h.2.2.2.2.2.2.2.2.1 (h.2.2.2.1.length:Int)) by unfold wx;simp only[Bool.not_and,Bool.or_assoc]];cases hl:wx h;rfl;cases gX h.2.2.2.2.2.2.2.2.1 (h.2.2.2.1.length:Int);rfl;have hL:=mT hl;simp only[gQ,ai,ae,bt];rw[RE (h:=h) (hit:=some false) (fin:=some ((jN h).all (λx=>dw x 0 1000000000000))) hl ?hs ?hf]
 case hs=>
  intro i hi nx
  simp only[wL]
  rw[jo,aU hi,aU (hL.2.1▸hi),aU (hL.2.2.1▸hi),aj (n:=(i:Int)+1) (by omega) (by omega)]
  simp only[af,ab,Tz,xE,tI _ (z.p1 _ (bc _)),cm,cT,Bool.not_and]
  rfl
 case hf=>
  intro nx
  simp only[wL]
  rw[fO]
  simp only[ae]
  refine(LF (fin:=some true) (hit:=some false) h ?_ ?_).trans ?_
  ·intro i hi nx
   simp only[uq]
   have rn:i<5:=hi
   change (bif decide ((i:Int)<5) then aa (idx (jN h) (i:Int)) _ else _)=_
   rw[jo,aU hi,aj (n:=(i:Int)+1) (by omega) (by omega),ab,cz]
   rfl
  ·intro nx
   simp only[uq]
   rw[aq (by simp[jN])];rfl
  ·cases (jN h).all (λx=>dw x 0 1000000000000)<;>rfl
 cases VM h<;>rfl
theorem oN (h:Host)(z:DX h):fT h=some (dN h):=by
 unfold fT dN;simp only[IH _ z.a1,JB _ z.a2,XT _ z.t1 z.t2,IG _ z.f1,Eg _ _ z.s1 z.s2 z.s3,cO,ab,cm];cases gx h.1;rfl;cases fe h.2.1;rfl;cases PE h.2.2.1;rfl;cases Ag h.2.2.2.2.2.2.2.1;rfl;simp only[ai,ae,cT,bne];rw[show(!dw (h.2.2.2.1.length:Int) 1 2||(!((h.2.2.2.2.1.length:Int)==(h.2.2.2.1.length:Int))||(!((h.2.2.2.2.2.1.length:Int)==(h.2.2.2.1.length:Int))|| !((h.2.2.2.2.2.2.1.length:Int)==(h.2.2.2.1.length:Int)))))= !(wx h) by unfold wx;simp only[Bool.not_and]];cases hl:wx h;rfl;have hL:=mT hl;simp only[ai,ae,bt];rw[RE (h:=h) (hit:=some false) (fin:=some ((jN h).all (λx=>dw x 0 1000000000000)&&gX h.2.2.2.2.2.2.2.2.1 (h.2.2.2.1.length:Int))) hl ?hs ?hf]
 case hs=>
  intro i hi nx
  simp only[vL]
  rw[jo,aU hi,aU (hL.2.1▸hi),aU (hL.2.2.1▸hi),aj (n:=(i:Int)+1) (by omega) (by omega)]
  simp only[af,ab,SY,Bp,vE _ (z.p1 _ (bc _)),cm,cT,Bool.not_and]
  rfl
 case hf=>
  intro nx
  simp only[vL]
  rw[fO]
  simp only[ae]
  refine(LF (fin:=some (gX h.2.2.2.2.2.2.2.2.1 (h.2.2.2.1.length:Int))) (hit:=some false) h ?_ ?_).trans ?_
  ·intro i hi nx
   simp only[tZ]
   have rn:i<5:=hi
   change (bif decide ((i:Int)<5) then aa (idx (jN h) (i:Int)) _ else _)=_
   rw[jo,aU hi,aj (n:=(i:Int)+1) (by omega) (by omega),ab,cO]
   rfl
  ·intro nx
   simp only[tZ]
   rw[aq (by simp[jN])];rfl
  ·cases (jN h).all (λx=>dw x 0 1000000000000)<;>rfl
 cases VM h<;>cases gX h.2.2.2.2.2.2.2.2.1 (h.2.2.2.1.length:Int)<;>cases (jN h).all (λx=>dw x 0 1000000000000)<;>rfl
def hasB (l:dR)(v:Int):Bool:=l.any (·==v)
theorem afZ (l:dR)(v:Int)(h:l.length<=10^9):vm l v=some (hasB l v):=by
 unfold vm hasB;rw[FX (hit:=some true) (fin:=some false) (λx:Int=>x==v) l (by omega) (λi hi nx=>?hs) (λnx=>?hf)]
 case hs=>
  simp(disch:=omega)[wX,ax,aU,aj]
 all_goals grind[wX]
theorem afA (l:dR)(v:Int)(h:l.length<=10^9):uV l v=some (hasB l v):=by
 unfold uV hasB;rw[FX (hit:=some true) (fin:=some false) (λx:Int=>x==v) l (by omega) (λi hi nx=>?hs) (λnx=>?hf)]
 case hs=>
  simp(disch:=omega)[vX,ax,aU,aj]
 all_goals grind[vX]
theorem Wh (l:au α)(j:Nat)(h:j<=l.length):sub l (j:Int) (l.length:Int)=some (l.drop j):=by simp_all[sub]
def qw (f:Filter)(p:aR):Bool:=Ag f&&(((p.1==f.1)||((p.1==281474976710655)||f.2.1))&&((p.2.2.1== -1)||hasB f.2.2 p.2.2.1))
theorem LX (f:Filter)(p:aR)(h:f.2.2.length<=10^9):vF f p=some (qw f p):=by grind[vF,IG,afA,ab,qw]
theorem Mh (f:Filter)(p:aR)(h:f.2.2.length<=10^9):wF f p=some (qw f p):=by grind[wF,IS,afZ,ab,qw]
def preB (a b n:Int):Bool:=fdiv a (2^(min (Int.toNat (ak (32-n))) (IntKind.bits .i64)))==fdiv b (2^(min (Int.toNat (ak (32-n))) (IntKind.bits .i64)))
theorem RF {r:gA}(h:DN r=true):0<=r.2.2.2.1/\r.2.2.2.1<=32:=by grind[DN,mf,cz,ab,dw]
def acO (r:gA)(p:aR):Bool:=preB r.2.2.1 p.2.2.2.2.2.2.1 r.2.2.2.1&&(dw p.2.2.2.2.2.2.2.2.2.2.1 r.2.2.2.2.1 r.2.2.2.2.2.1&&((r.2.2.2.2.2.2.1== -2)||(r.2.2.2.2.2.2.1==p.2.2.1)))
def GC (r:gA)(p:aR):Bool:=DN r&&(dV p&&(((r.2.1==0)||(r.2.1==p.2.2.2.2.2.2.2.2.1))&&acO r p))
theorem afD (a b n:Int)(h0:0<=n)(h1:n<=32):oT a b n=some (preB a b n):=by grind[oT,preB,aj]
theorem aa0 (r:gA)(p:aR):rJ r p=some (GC r p):=by unfold rJ GC;rw[adP,ab];grind[RF,pn,afD,cO,ab,acO]
theorem ab5 (r:gA)(p:aR):so r p=some (GC r p):=by
 unfold so GC;rw[Pd,ab];cases hr:DN r;rfl;have hp:=RF hr;have hw:¬ak (32-r.2.2.2.1)<0:=by grind[aj]
 simp only[sf,zR,aE hw,cz,ab,acO];rw[show(fdiv r.2.2.1 (2^(min (Int.toNat (ak (32-r.2.2.2.1))) (IntKind.bits .i64)))==fdiv p.2.2.2.2.2.2.1 (2^(min (Int.toNat (ak (32-r.2.2.2.1))) (IntKind.bits .i64))))=preB r.2.2.1 p.2.2.2.2.2.2.1 r.2.2.2.1 from rfl];cases dV p<;>cases r.2.1==0<;>cases r.2.1==p.2.2.2.2.2.2.2.2.1<;>cases preB r.2.2.1 p.2.2.2.2.2.2.1 r.2.2.2.1<;>cases dw p.2.2.2.2.2.2.2.2.2.2.1 r.2.2.2.2.1 r.2.2.2.2.2.1<;>cases r.2.2.2.2.2.2.1== -2<;>rfl
def Md:gA:=(0,0,0,0,0,0,0,0,0)
def zT (l:au gA)(p:aR):Nat->Int
 |0=> -1
 |i+1=>bif GC (l.getD i Md) p&&(decide (zT l p i<0)||decide ((l.getD i Md).1<(l.getD (zT l p i).toNat Md).1)) then(i:Int) else zT l p i
theorem Nn (l:au gA)(p:aR):∀i,zT l p i= -1\/∃n:Nat,zT l p i=(n:Int)/\n<i
 |0=> .inl rfl
 |i+1=>by rw[zT];cases GC (l.getD i Md) p&&(decide (zT l p i<0)||decide ((l.getD i Md).1<(l.getD (zT l p i).toNat Md).1))with|true=>grind|false=>rcases Nn l p i with h|⟨n,h,hn⟩;all_goals grind
theorem QA (l:au gA)(p:aR)(i:Nat)(hi:i<l.length)(nx:Int×Int->aw R): (aa (cond (GC l[i] p) (cond (decide (zT l p i<0)) (some true) (aa (idx l (zT l p i)) λx4=>some (decide (l[i].1<x4.1)))) (some false)) λq5=>cond q5 (nx ((i:Int),((i+1:Nat):Int))) (nx (zT l p i,((i+1:Nat):Int))))=nx (zT l p (i+1),((i+1:Nat):Int)):=by
 rw[zT,eO hi];cases GC l[i] p;rfl;rcases Nn l p i with h|⟨n,h,hn⟩;rw[h];rfl;have hl:n<l.length:=by omega
 rw[h,aq (show¬(n:Int)<0 by omega),aU hl];simp only[af,ae,ab,az,eO hl,bt,cH];cases decide (l[i].1<l[n].1)<;>rfl
def F6 (l:au gA)(p:aR):Int:=bif BQ l then zT l p l.length else-1
theorem NQ (l:au gA)(p:aR)(h:F6 l p>=0):∃n:Nat,F6 l p=(n:Int)/\n<l.length:=by unfold F6 at h⊢;cases hr:BQ l with|false=>grind|true=>rw[hr]at h;simp only[af]at h⊢;rcases Nn l p l.length with g|g;omega;exact g
theorem aaY (l:au gA)(p:aR)(h:l.length<=10^9):xS l p=some (F6 l p):=by unfold xS F6;rw[Ra l h,ab];cases BQ l;rfl;simp only[ai,ae,af];refine cd (λi=>(zT l p i,(i:Int))) l.length (by omega) (λi nx hi=>?_) (λnx=>?_);simp only[rE];rw[jo,aU hi,aj (n:=(i:Int)+1) (by omega) (by omega)];simp only[af,ab,aa0];exact QA l p i hi nx;simp only[rE];rw[fO];rfl
theorem ab3 (l:au gA)(p:aR)(h:l.length<=10^9):yu l p=some (F6 l p):=by
 have vC:=cE;unfold yu F6;cases hr:BQ l with
 |false=>
  obtain⟨f,hf⟩:∃f,fuel=f+1:=⟨fuel-1,by omega⟩
  rw[hf,aL];simp only[nG,Hw l h,hr,ab];cases decide ((0:Int)<(l.length:Int))<;>rfl
 |true=>simp only[af];refine cd (λi=>(zT l p i,(i:Int))) l.length (by omega) (λi nx hi=>?_) (λnx=>?_);simp only[nG,Hw l h,hr];rw[jo,aU hi,aj (n:=(i:Int)+1) (by omega) (by omega)];simp only[af,ab,ab5];exact QA l p i hi nx;simp only[nG];rw[fO];rfl
def mi (p:aR):Fa:=(p.2.2.2.2.2.2.2.2.1,p.2.2.2.2.2.2.1,p.2.2.2.2.2.2.2.1,p.2.2.2.2.2.2.2.2.2.1,p.2.2.2.2.2.2.2.2.2.2.1)
theorem Og (p:aR):uT p=some (mi p):=rfl
theorem O8 (p:aR):vk p=some (mi p):=rfl
def aiD:Slot:=(0,(0,0,0,0,0),0)
def sQ (s:eG)(q:Int)(p:aR):Int:=
 bif !gX s q|| !dV p then-1 else
 bif decide (F6 s.1 p>=0) then(bif (s.1.getD (F6 s.1 p).toNat Md).2.2.2.2.2.2.2.1==1 then-1 else(s.1.getD (F6 s.1 p).toNat Md).2.2.2.2.2.2.2.2) else
 bif decide (findF s.2.1 (mi p)>=0) then(s.2.1.getD (findF s.2.1 (mi p)).toNat aiD).2.2 else HA s.2.2 q (mi p)
theorem Re (s:eG)(q:Int)(p:aR)(h1:s.1.length<=10^9)(h2:s.2.1.length<=10^9)(h3:s.2.2.2.length<=10^9):nr s q p=some (sQ s q p):=by unfold nr sQ;rw[Eg s q h1 h2 h3,ab,pn,ab];cases gX s q;rfl;cases dV p;rfl;simp only[ai,ae,ab,bz,aaY s.1 p h1,Og,SS s.2.1 _ h2,Vd s.2.2 q _ h3];grind[NQ,aU,ab,NP]
theorem RT (s:eG)(q:Int)(p:aR)(h1:s.1.length<=10^9)(h2:s.2.1.length<=10^9)(h3:s.2.2.2.length<=10^9):nP s q p=some (sQ s q p):=by unfold nP sQ;rw[EW s q h1 h2 h3,ab,sf,ab];cases gX s q;rfl;cases dV p;rfl;simp only[ai,ae,ab,bz,ab3 s.1 p h1,O8,Tt s.2.1 _,Wb s.2.2 q _ h3];grind[NQ,aU,ab,NP]
def aaj (a b:Int):Int:=(oA a b).getD 0
theorem M8 (a b:Int):oA a b=some (aaj a b):=by grind[aaj,oA,cz,ab]
theorem UW (a b:Int):Aj a b=some (aaj a b):=M8 a b
theorem ae4 {a b:Int}(h:0<=a/\a<=65535)(k:0<=b/\b<=65535):0<=aaj a b/\aaj a b<=65535:=by have e:=M8 a b;simp only[oA,cz,ab,bM.2 h,bM.2 k,ai,ae]at e;rw[aj (n:=a+b) (by omega) (by omega)]at e;by_cases hc:a+b>65535;rw[ax hc,af,aj (by omega) (by omega)]at e;rw[<-cx e];omega;rw[aq hc,ae]at e;rw[<-cx e];omega
def sw (s:Bytes):Nat->Int
 |0=>0
 |j+1=>aaj (sw s j) ((bF s (2*j)*256+bF s (2*j+1):Nat):Int)
theorem aeL (s:Bytes):∀j,0<=sw s j/\sw s j<=65535
 |0=>by simp[sw]
 |j+1=>by have b0:=eL s (2*j);have b1:=eL s (2*j+1);exact ae4 (aeL s j) (by omega)
theorem Io {i:Nat}(h:s.length<=i:=by omega):bF s i=0:=by simp_all[bF]
theorem af1 (s:Bytes)(h:s.length<=10^9):yE s=some (sw s ((s.length+1)/2)):=by
 unfold yE;refine cd (λj=>(sw s j,((2*j:Nat):Int))) ((s.length+1)/2) (by omega) (λj nx hj=>?_) (λnx=>?_);have b0:=eL s (2*j);have b1:=eL s (2*j+1);obtain⟨x,hx,ex⟩:=jQ (s:=s) (i:=2*j);simp only[sv];rw[jo,af,hx,ab,mG,aj (n:=((2*j:Nat):Int)+1) (by omega) (by omega),aj (n:=((2*j:Nat):Int)+2) (by omega) (by omega),ex,fD (by omega)];have e8:rp 8=8:=rfl;have en:((2*j:Nat):Int)+2=((2*(j+1):Nat):Int):=by omega
 rw[e8,aj (n:=((bF s (2*j):Nat):Int)*2^8) (by omega) (by omega)];by_cases hc:2*j+1<s.length;obtain⟨y,hy,ey⟩:=jQ (s:=s) (i:=2*j+1) hc;rw[jo,af,show((2*j:Nat):Int)+1=((2*j+1:Nat):Int) by omega,hy,ab,ey,fD (n:=bF s (2*j+1)) (by omega),aj (by omega) (by omega),M8,ab,en,show((bF s (2*j):Nat):Int)*2^8+((bF s (2*j+1):Nat):Int)=((bF s (2*j)*256+bF s (2*j+1):Nat):Int) by omega];rfl;have hz:=Io (s:=s) (i:=2*j+1);rw[fO,ae,M8,ab,en,show((bF s (2*j):Nat):Int)*2^8=((bF s (2*j)*256+bF s (2*j+1):Nat):Int) by rw[hz];omega];rfl;simp only[sv];rw[fO];rfl
theorem afE (s:Bytes)(h:s.length<=10^9):yd s=some (sw s ((s.length+1)/2)):=by
 unfold yd;refine cd (λj=>(sw s j,((2*j:Nat):Int))) ((s.length+1)/2) (by omega) (λj nx hj=>?_) (λnx=>?_);have b0:=eL s (2*j);have b1:=eL s (2*j+1);obtain⟨x,hx,ex⟩:=jQ (s:=s) (i:=2*j);simp only[rO];rw[jo,af,hx,ab,mG,aj (n:=((2*j:Nat):Int)+1) (by omega) (by omega),aj (n:=((2*j:Nat):Int)+2) (by omega) (by omega),ex,fD (by omega)];have e8:rp 8=8:=rfl;have en:((2*j:Nat):Int)+2=((2*(j+1):Nat):Int):=by omega
 rw[e8,show((bF s (2*j):Nat):Int)*2^8=((2^8*bF s (2*j):Nat):Int) by omega,fD (n:=2^8*bF s (2*j)) (by omega)];by_cases hc:2*j+1<s.length;obtain⟨y,hy,ey⟩:=jQ (s:=s) (i:=2*j+1) hc;rw[jo,af,show((2*j:Nat):Int)+1=((2*j+1:Nat):Int) by omega,hy,ab,ey,fD (n:=bF s (2*j+1)) (by omega),IM (bF s (2*j)) 8 (bF s (2*j+1)),UW,ab,en,show 2^8*bF s (2*j)+bF s (2*j+1)=bF s (2*j)*256+bF s (2*j+1) by omega];rfl;have hz:=Io (s:=s) (i:=2*j+1);rw[fO,ae,UW,ab,en,show((2^8*bF s (2*j):Nat):Int)=((bF s (2*j)*256+bF s (2*j+1):Nat):Int) by rw[hz];omega];rfl;simp only[rO];rw[fO];rfl
def Sj (s:Bytes):Int:=65535-sw s ((s.length+1)/2)
theorem Ka (s:Bytes)(h:s.length<=10^9):kt s=some (Sj s):=by have:=aeL s ((s.length+1)/2);simp only[kt,af1 s h,ab];rw[aj (by omega) (by omega)];rfl
theorem M3 (s:Bytes)(h:s.length<=10^9):iX s=some (Sj s):=by have:=aeL s ((s.length+1)/2);simp only[iX,afE s h,ab];rw[aj (by omega) (by omega)];rfl
def wC (s:Bytes)(a:Int)(p:Bytes):Bytes:=bif fu s a (p.length:Int) then(s.take a.toNat++p)++s.drop (a.toNat+p.length) else s
theorem zg (s:Bytes)(a:Int)(p:Bytes):(wC s a p).length=s.length:=by grind[wC,fu]
theorem VG (s:Bytes)(a:Int)(p:Bytes)(h:s.length<=10^9)(hw:fu s a (p.length:Int)=true): (aa (sub s 0 a) λx2=>room (List.length x2+List.length p) (aa (sub s (ak (a+((List.length p:Int)))) ((List.length s:Int))) λx3=>room (List.length (x2++p)+List.length x3) (some ((x2++p)++x3))))=some (wC s a p):=by
 have hw':=hw;simp only[fu,bD]at hw';obtain⟨n,rfl⟩:=aG hw'.1;have e1:sub s 0 (n:Int)=some (s.take n):=by grind[sub]
 have e2:sub s (((n+p.length:Nat):Int)) (s.length:Int)=some (s.drop (n+p.length)):=by grind[sub,cw]
 rw[e1,aj (by omega) (by omega),show(n:Int)+(p.length:Int)=((n+p.length:Nat):Int) by omega,e2,ab,aQ (by grind),ab,aQ (by grind)];grind[wC]
theorem EV (s:Bytes)(a:Int)(p:Bytes)(h:s.length<=10^9):ee s a p=some (wC s a p):=by grind[ee,GN,ab,wC,VG]
theorem Ef (s:Bytes)(a:Int)(p:Bytes)(h:s.length<=10^9:=by omega)(hp:p.length<=10^9:=by omega):fj s a p=some (wC s a p):=by
 unfold fj;rw[aj (n:=(s.length:Int)-(p.length:Int)) (by omega) (by omega)];cases hw:fu s a (p.length:Int)with
 |true=>have hw':=hw;simp only[fu,bD]at hw';rw[aq (show¬a<0 by omega),aq (show¬a>(s.length:Int)-(p.length:Int) by omega)];exact VG s a p h hw
 |false=>
  have hp:wC s a p=s:=by grind[wC]
  rw[hp];simp only[fu,cM]at hw;by_cases h0:a<0;all_goals simp(disch:=omega)[ax]
def bs2 (x y:Int):Bytes:=aM [x,y]
theorem Sh (x y:Int):(bs2 x y).length=2:=rfl
def Aw (a b k n:Int):Bool:=dw a 0 4294967295&&(dw b 0 4294967295&&(dw k 0 255&&dw n 0 65535))
def xA (a b k n:Int):Bytes:=((iS a++iS b)++bs2 0 (fW k))++bU n
theorem Ho (a b k n:Int):(xA a b k n).length<=12:=by grind[dz,bu,xA,Sh]
theorem EU (a b k n:Int):jC a b k n=some (bif Aw a b k n then(xA a b k n,true) else([],false)):=by have:=dz a;have:=dz b;have:=bu n;unfold jC Aw;simp only[cz,ab,mz,gM];cases dw a 0 4294967295;rfl;cases dw b 0 4294967295;rfl;cases dw k 0 255;rfl;cases dw n 0 65535;rfl;simp only[ai,ae,du,af,ab];have e:(aM [0,fW k]).length=2:=rfl;rw[aQ (by omega),aQ (by grind),aQ (by grind)];rfl
theorem Ok (a b k n:Int):pX a b k n=some (bif Aw a b k n then(xA a b k n,true) else([],false)):=EU a b k n
def bare (g:dy):Bytes:=bif g.1==6 then
    (((((bU g.2.1++bU g.2.2.1)++iS g.2.2.2.1)++iS g.2.2.2.2.1)++bs2 80 (fW g.2.2.2.2.2.1))++bU g.2.2.2.2.2.2.1)++iS 0++g.2.2.2.2.2.2.2
 else(((bU g.2.1++bU g.2.2.1)++bU (8+(g.2.2.2.2.2.2.2.length:Int)))++bU 0)++g.2.2.2.2.2.2.2
theorem Sf (g:dy):(bare g).length<=20+g.2.2.2.2.2.2.2.length:=by have:=bu g.2.1;have:=bu g.2.2.1;have:=dz g.2.2.2.1;have:=dz g.2.2.2.2.1;have:=bu g.2.2.2.2.2.2.1;have:=dz 0;have:=bu 0;have:=bu (8+(g.2.2.2.2.2.2.2.length:Int));unfold bare;cases g.1==6<;>simp only[af,ae,ar,Sh]<;>omega
theorem acx:bU 0++bU 0=iS 0:=by rfl
theorem adD (g:dy)(h:g.2.2.2.2.2.2.2.length<=1000000):rU g=some (bare g):=by have:=bu g.2.1;have:=bu g.2.2.1;have:=dz g.2.2.2.1;have:=dz g.2.2.2.2.1;have:=bu g.2.2.2.2.2.2.1;have:=bu 0;have:=bu (8+(g.2.2.2.2.2.2.2.length:Int));have e:∀x,(aM [80,fW x]).length=2:=λ_=>rfl;unfold rU bare;rw[aj (n:=8+(g.2.2.2.2.2.2.2.length:Int)) (by omega) (by omega)];simp only[kD,Bq,ab];rw[aQ (by omega)];cases g.1==6 with|true=>simp only[af];rw[aQ (by simp only[ar,e];omega),aQ (by simp only[ar,e];omega),aQ (by simp only[ar,e];omega),aQ (by simp only[ar,e];omega),aQ (by simp only[ar,e];omega),aQ (by simp only[ar,e];omega),aQ (by simp only[ar,e];omega)];rw[<-acx];simp only[bs2,aP]|false=>simp only[ae];rw[aQ (by simp only[ar];omega),aQ (by simp only[ar];omega),aQ (by simp only[ar];omega)]
def Z8 (a b:Int)(g:dy):Int:=bif (Sj (xA a b g.1 ((bare g).length:Int)++bare g)==0)&&(g.1==17) then 65535 else Sj (xA a b g.1 ((bare g).length:Int)++bare g)
def ZX (a b:Int)(g:dy):Bytes:=wC (bare g) (bif g.1==6 then 16 else 6) (bU (Z8 a b g))
def O3 (a b:Int)(g:dy):Bool:=J4 g&&Aw a b g.1 ((bare g).length:Int)
def C7 (a b:Int)(g:dy):Bytes×Bool:=bif O3 a b g then(ZX a b g,true) else([],false)
theorem J5 {g:dy}(h:J4 g=true):g.2.2.2.2.2.2.2.length<=320:=by grind[J4]
theorem GM (a b:Int)(g:dy):jA a b g=some (C7 a b g):=by
 unfold jA C7 O3;rw[Z5,ab];cases hg:J4 g;rfl;have hb:=J5 hg;have hl:=Sf g;have hp:=Ho a b g.1 ((bare g).length:Int);have:=bu g.2.1;have:=bu g.2.2.1;have:=dz g.2.2.2.1;have:=dz g.2.2.2.2.1;have:=bu g.2.2.2.2.2.2.1;have:=dz 0;have:=bu 0;have:=bu (8+(g.2.2.2.2.2.2.2.length:Int));have e:∀x,(aM [80,fW x]).length=2:=λ_=>rfl;rw[aj (n:=8+(g.2.2.2.2.2.2.2.length:Int)) (by omega) (by omega)];simp only[gM,mz,ab,ai,ae,bt];rw[aQ (by omega)];cases h6:g.1==6 with
 |true=>
  have adh:bare g=(((((bU g.2.1++bU g.2.2.1)++iS g.2.2.2.1)++iS g.2.2.2.2.1)++aM [80,fW g.2.2.2.2.2.1])++bU g.2.2.2.2.2.2.1)++iS 0++g.2.2.2.2.2.2.2:=by unfold bare;rw[h6];rfl
  simp only[af];rw[aQ (by grind),aQ (by grind),aQ (by grind),aQ (by grind),aQ (by grind),aQ (by grind),<-adh,EU,ab];cases Aw a b g.1 ((bare g).length:Int);rfl;simp only[af,ai,ae];rw[aQ (by omega),Ka _ (by grind)];simp only[ab,cm,EV _ _ _ (show(bare g).length<=10^9 by omega),ZX,Z8,h6,af,cF];cases (Sj (xA a b g.1 ((bare g).length:Int)++bare g)==0)&&(g.1==17)<;>rfl
 |false=>
  have adh:bare g=(((bU g.2.1++bU g.2.2.1)++bU (8+(g.2.2.2.2.2.2.2.length:Int)))++bU 0)++g.2.2.2.2.2.2.2:=by unfold bare;rw[h6];rfl
  simp only[ae];rw[aQ (by simp_all;omega),aQ (by simp_all;omega),aQ (by simp_all;omega),<-adh,EU,ab];cases Aw a b g.1 ((bare g).length:Int);rfl;simp only[af,ai,ae];rw[aQ (by omega),Ka _ (by simp_all;omega)];simp only[ab,cm,EV _ _ _ (show(bare g).length<=10^9 by omega),ZX,Z8,h6,ae,cF];cases (Sj (xA a b g.1 ((bare g).length:Int)++bare g)==0)&&(g.1==17)<;>rfl
theorem Gq (a b:Int)(g:dy):ju a b g=some (C7 a b g):=by
 unfold ju C7 O3;rw[ZH,ab];cases hg:J4 g;rfl;have hb:=J5 hg;have hl:=Sf g;have hp:=Ho a b g.1 ((bare g).length:Int);have Jt:eV g.1=some (bif g.1==6 then 16 else 6):=by unfold eV;rw[cm]
 have w1:=bu 65535;have w2:=bu (Sj (xA a b g.1 ((bare g).length:Int)++bare g));simp only[adD g (by omega),Ok,ab,ai,ae,bt];cases Aw a b g.1 ((bare g).length:Int);rfl;simp only[af,ai,ae];rw[aQ (by omega),M3 _ (by grind)];simp only[ab,cm,Jt,kD,Ef _ _ _ (show(bare g).length<=10^9 by omega) (show(bU 65535).length<=10^9 by omega),Ef _ _ _ (show(bare g).length<=10^9 by omega) (show(bU (Sj (xA a b g.1 ((bare g).length:Int)++bare g))).length<=10^9 by omega),ZX,Z8,cF];grind
theorem afU (a b:Int)(g:dy):(C7 a b g).1.length<=340:=by unfold C7;cases h:O3 a b g with|false=>exact cC _|true=>simp only[O3,ah]at h;have:=J5 h.1;have:=Sf g;show(wC _ _ _).length<=340;rw[zg];omega
def ipB (d:Ip):Bool:=dw d.1 0 255&&(dw d.2.2.1 0 255&&(dw d.2.2.2.1 0 255&&(dw d.2.1 0 65535&&(dw d.2.2.2.2.1 0 4294967295&&(dw d.2.2.2.2.2.1 0 4294967295&&decide ((d.2.2.2.2.2.2.length:Int)<=380))))))
theorem V2 (d:Ip):Hx d=some (ipB d):=by simp_all[Hx,cz,cm,ipB]
theorem adJ (d:Ip):KY d=some (ipB d):=V2 d
def Ou (d:Ip):Bytes:=((((((bs2 69 (fW d.1)++bU (20+(d.2.2.2.2.2.2.length:Int)))++bU d.2.1)++bU 16384)++bs2 (fW d.2.2.1) (fW d.2.2.2.1))++bU 0)++iS d.2.2.2.2.1)++iS d.2.2.2.2.2.1
theorem Ov (d:Ip):(Ou d).length<=20:=by have:=bu (20+(d.2.2.2.2.2.2.length));have:=bu d.2.1;have:=bu 16384;have:=bu 0;have:=dz d.2.2.2.2.1;have:=dz d.2.2.2.2.2.1;simp_all[Ou,Sh];omega
def Ot (d:Ip):Bytes:=wC (Ou d) 10 (bU (Sj (Ou d)))
theorem YH (d:Ip):yy d=some (bif ipB d then(Ot d,true) else([],false)):=by
 unfold yy;rw[V2,ab];cases hd:ipB d;rfl;have hn:(d.2.2.2.2.2.2.length)<=380:=by grind[ipB]
 have:=bu (20+(d.2.2.2.2.2.2.length));have:=bu d.2.1;have:=bu 16384;have:=bu 0;have:=dz d.2.2.2.2.1;have:=dz d.2.2.2.2.2.1;have hl:=Ov d;have e:∀x y,(aM [x,y]).length=2:=λ_ _=>rfl;rw[aj (by omega) (by omega)];simp only[gM,mz,ab,ai,ae,af];rw[aQ (by grind),aQ (by grind),aQ (by simp_all;omega),aQ (by simp_all;omega),aQ (by simp_all;omega),aQ (by simp_all;omega),aQ (by simp_all;omega)];have hp:((((((aM [69,fW d.1]++bU (20+(d.2.2.2.2.2.2.length)))++bU d.2.1)++bU 16384)++aM [fW d.2.2.1,fW d.2.2.2.1])++bU 0)++iS d.2.2.2.2.1)++iS d.2.2.2.2.2.1=Ou d:=rfl;rw[hp,Ka _ (by omega),ab,EV _ _ _ (by omega)];rfl
theorem XN (d:Ip):xW d=some (bif ipB d then(Ot d,true) else([],false)):=by
 unfold xW;rw[adJ,ab];cases hd:ipB d;rfl;have hn:(d.2.2.2.2.2.2.length)<=380:=by grind[ipB]
 have:=bu (20+(d.2.2.2.2.2.2.length));have:=bu d.2.1;have:=bu 16384;have:=bu 0;have:=dz d.2.2.2.2.1;have:=dz d.2.2.2.2.2.1;have hl:=Ov d;have hw:=bu (Sj (Ou d));have e:∀x y,(aM [x,y]).length=2:=λ_ _=>rfl;rw[aj (by omega) (by omega)];simp only[kD,Bq,ab,ai,ae,af];rw[aQ (by grind),aQ (by grind),aQ (by simp_all;omega),aQ (by simp_all;omega),aQ (by simp_all;omega),aQ (by simp_all;omega),aQ (by simp_all;omega)];have hp:((((((aM [69,fW d.1]++bU (20+(d.2.2.2.2.2.2.length)))++bU d.2.1)++bU 16384)++aM [fW d.2.2.1,fW d.2.2.2.1])++bU 0)++iS d.2.2.2.2.1)++iS d.2.2.2.2.2.1=Ou d:=rfl;rw[hp,M3 _ (by omega),ab,Ef _ _ _];rfl
def ZJ (d:Ip):Bytes×Bool:=bif ipB d then(Ot d++d.2.2.2.2.2.2,true) else([],false)
theorem K0 (d:Ip):(Ot d).length<=20:=by grind[Ot,zg,Ov]
theorem aeB (d:Ip):wG d=some (ZJ d):=by grind[wG,ZJ,YH,ab,ipB,K0,aQ]
theorem adI (d:Ip):vG d=some (ZJ d):=by grind[vG,ZJ,XN,ab,ipB,K0,aQ]
def DV (n:Nat):Bytes:=aM (List.replicate n (0:Int))
theorem Ly (n:Nat):(DV n).length=n:=by simp[DV,aM]
theorem V3 (n:Nat)(h:n<=10^9:=by omega):sC (n:Int) 0=some (DV n):=by unfold sC;rw[zip,aQ (by omega),az];refine cd (λi=>(List.replicate n (0),(i:Int))) n (by omega) (λi nx hi=>?_) (λnx=>?_);simp only[uz];rw[jo,aU (by simpa using hi),aj (by omega) (by omega)];simp only[af,ab,az,List.set_replicate_self];rfl;simp only[uz];rw[fO];rfl
theorem ZG (n:Nat)(h:n<=10^9:=by omega):nX 0 (n:Int)=some (DV n):=by unfold nX;rw[zip,aQ (by omega),az];refine cd (λi=>(List.replicate n (0),(i:Int))) n (by omega) (λi nx hi=>?_) (λnx=>?_);simp only[vZ];rw[ax (by simp;omega),aU (by simpa using hi),aj (by omega) (by omega)];simp only[af,ab,az,List.set_replicate_self];rfl;simp only[vZ];rw[aq (by simp)];rfl
def pad (s:Bytes):Bytes:=if s.length<46 then s++DV (46-s.length) else s
theorem Te (s:Bytes):(pad s).length=max 46 s.length:=by grind[pad,Ly]
theorem af0 (s:Bytes)(h:s.length<=10^9):AB s=some (pad s):=by unfold AB pad;by_cases hc:s.length<46;rw[jo,aF hc,aj (by omega) (by omega),show(46:Int)-(s.length)=((46-s.length:Nat)) by omega,V3 _];simp only[af,ab];rw[aQ (by rw[Ly];omega)];rw[fO,aE hc];rfl
theorem afC (s:Bytes)(h:s.length<=10^9):Al s=some (pad s):=by unfold Al pad;by_cases hc:s.length<46;rw[fO,aF hc,aj (by omega) (by omega),show(46:Int)-(s.length)=((46-s.length:Nat)) by omega,ZG _];simp only[ae,ab];rw[aQ (by rw[Ly];omega)];rw[jo,aE hc];rfl
def Be (e:PM):Bool:=dw e.1 0 281474976710655&&(dw e.2.1 0 281474976710655&&(dw e.2.2.1 (-1) 4095&&(dw e.2.2.2.1 1536 65535&&((e.2.2.2.1 !=33024)&&dw (e.2.2.2.2.length:Int) 46 400))))
theorem Lr (e:PM):xF e=some (Be e):=by simp_all[xF,cz,cm,Be]
theorem Q4 (e:PM):Bs e=some (Be e):=Lr e
def WQ (a:Int):Bytes:=(iA a).getD []
theorem CQ (a:Int):iA a=some (WQ a)/\(WQ a).length<=6:=by
 have h:∃x,iA a=some x/\x.length<=6:=by unfold iA;simp only[gM,mz,ab];have h1:=bu (fdiv a (2^(rp 32)));grind[dz,aQ]
 grind[WQ]
theorem afB (a:Int):ye a=some (WQ a):=(CQ a).1
def QN (e:PM):Bytes:=(bif decide (e.2.2.1>=0) then(((WQ e.1++WQ e.2.1)++bU 33024)++bU e.2.2.1) else WQ e.1++WQ e.2.1)++bU e.2.2.2.1++e.2.2.2.2
theorem ac5 (e:PM):(QN e).length<=18+e.2.2.2.2.length:=by have:=(CQ e.1).2;have:=(CQ e.2.1).2;grind[bu,QN]
def Uq (e:PM):Bytes×Bool:=bif Be e then(QN e,true) else([],false)
theorem afY (e:PM):yp e=some (Uq e):=by
 unfold yp Uq;rw[Lr,ab];cases he:Be e;rfl;have hn:(e.2.2.2.2.length)<=400:=by grind[Be,bM]
 have:=(CQ e.1).2;have:=(CQ e.2.1).2;have:=bu 33024;have:=bu e.2.2.1;have:=bu e.2.2.2.1;simp only[(CQ _).1,gM,ab,ai,ae,af,QN];grind[aQ]
theorem afz (e:PM):xO e=some (Uq e):=by
 unfold xO Uq;rw[Q4,ab];cases he:Be e;rfl;have hn:(e.2.2.2.2.length)<=400:=by grind[Be,bM]
 have:=(CQ e.1).2;have:=(CQ e.2.1).2;have:=bu 33024;have:=bu e.2.2.1;have:=bu e.2.2.2.1;simp only[afB,kD,ab,ai,ae,af,QN];grind[aQ]
def aiC (p:aR):Bytes×Bool:=C7 p.2.2.2.2.2.2.1 p.2.2.2.2.2.2.2.1 p.2.2.2.2.2.2.2.2
def ipP (p:aR):Bytes×Bool:=ZJ (p.2.2.2.1,p.2.2.2.2.1,p.2.2.2.2.2.1,p.2.2.2.2.2.2.2.2.1,p.2.2.2.2.2.2.1,p.2.2.2.2.2.2.2.1,(aiC p).1)
def afm (p:aR):Bytes×Bool:=Uq (p.1,p.2.1,p.2.2.1,2048,pad (ipP p).1)
def eF (p:aR):Bytes×Bool:=bif dV p then afm p else([],false)
theorem S0 (p:aR):(ipP p).1.length<=360:=by grind[afU,ipP,ZJ,aiC,K0]
theorem Hu (p:aR):gH p=some (eF p):=by have hl:=S0 p;unfold gH eF;simp only[sf,GM,aeB,ab];rw[show(ZJ (p.2.2.2.1,p.2.2.2.2.1,p.2.2.2.2.2.1,p.2.2.2.2.2.2.2.2.1,p.2.2.2.2.2.2.1,p.2.2.2.2.2.2.2.1,(C7 p.2.2.2.2.2.2.1 p.2.2.2.2.2.2.2.1 p.2.2.2.2.2.2.2.2).1))=ipP p from rfl,af0 _ (by omega),ab,afY];cases dV p<;>rfl
theorem Hi (p:aR):gF p=some (eF p):=by have hl:=S0 p;unfold gF eF;simp only[pn,Gq,adI,ab];rw[show(ZJ (p.2.2.2.1,p.2.2.2.2.1,p.2.2.2.2.2.1,p.2.2.2.2.2.2.2.2.1,p.2.2.2.2.2.2.1,p.2.2.2.2.2.2.2.1,(C7 p.2.2.2.2.2.2.1 p.2.2.2.2.2.2.2.1 p.2.2.2.2.2.2.2.2).1))=ipP p from rfl,afC _ (by omega),ab,afz];cases dV p<;>rfl
theorem Dx (h:dV p=true):(eF p).2=true:=by grind[S0,LP,dV,Te,eF,afm,Uq,Be,bM]
theorem xr (p:aR):(eF p).1.length<=378:=by grind[S0,Te,eF,afm,Uq,ac5]
def fcs (c:Int):Bytes:=aM [fW c,fW (fdiv c (2^(rp 8))),fW (fdiv c (2^(rp 16))),fW (fdiv c (2^(rp 24)))]
def E8 (s:Bytes):Bytes:=s++fcs (acP s)
theorem afo (c:Int):(fcs c).length=4:=rfl
theorem Z4 (s:Bytes)(h:s.length<=10^9):wV s=some (E8 s):=by unfold wV;rw[afW s h,ab,mG,mG,mG];exact aQ (by show s.length+4<=_;omega)
theorem ZF (s:Bytes)(h:s.length<=10^9):vU s=some (E8 s):=by unfold vU;rw[afx s h,ab,mG,mG,mG];exact aQ (by show s.length+4<=_;omega)
def jx (p:aR):Bool:=dV p&&decide ((p.2.2.2.2.2.2.2.2.2.2.2.2.2.2.2.length:Int)<=128)
theorem ET (p:aR):mB p=some (jx p):=by grind[mB,sf,ab,jx]
theorem Ee (p:aR):mj p=some (jx p):=by grind[mj,pn,ab,jx]
def Ga (p:aR):Bytes×Bool:=bif jx p then(E8 (eF p).1,true) else([],false)
theorem ab4 (p:aR):um p=some (Ga p):=by grind[xr,um,ET,Hu,Z4,ab,Ga]
theorem aaZ (p:aR):tX p=some (Ga p):=by grind[xr,tX,Ee,Hi,ZF,ab,Ga,jx,Dx]
theorem aaG (p:aR):(Ga p).1.length<=382:=by grind[xr,Ga,E8,afo]
def OQ (p:aR)(z:Int)(k:Nat):aR:=
 (p.1,p.2.1,p.2.2.1,p.2.2.2.1,tmod (ak (p.2.2.2.2.1+(k:Int))) 65536,p.2.2.2.2.2.1,p.2.2.2.2.2.2.1,p.2.2.2.2.2.2.2.1,p.2.2.2.2.2.2.2.2.1,p.2.2.2.2.2.2.2.2.2.1,p.2.2.2.2.2.2.2.2.2.2.1,
   tmod (ak (p.2.2.2.2.2.2.2.2.2.2.2.1+((k:Int)*z))) 4294967296,p.2.2.2.2.2.2.2.2.2.2.2.2.1,
   (bif decide (((k:Int)+1)*z<(p.2.2.2.2.2.2.2.2.2.2.2.2.2.2.2.length:Int)) then ak (toNat (fE p.2.2.2.2.2.2.2.2.2.2.2.2.2.1&&&~~~ fE 9)) else p.2.2.2.2.2.2.2.2.2.2.2.2.2.1),
   p.2.2.2.2.2.2.2.2.2.2.2.2.2.2.1,(p.2.2.2.2.2.2.2.2.2.2.2.2.2.2.2.take (min ((k+1)*z.toNat) p.2.2.2.2.2.2.2.2.2.2.2.2.2.2.2.length)).drop (k*z.toNat))
def jy (n z:Nat):Nat:=(n+z-1)/z
def Da (p:aR)(z:Int):au aR:=bif dV p&&dw z 1 128 then
    (bif (p.2.2.2.2.2.2.2.2.1 !=6)||decide ((p.2.2.2.2.2.2.2.2.2.2.2.2.2.2.2.length:Int)<=z) then [p] else(range (jy p.2.2.2.2.2.2.2.2.2.2.2.2.2.2.2.length z.toNat)).map (OQ p z)) else []
theorem Lg {n z k:Nat}(hz:0<z:=by omega):k<jy n z↔k*z<n:=by grind[jy,Nat.lt_div_iff_mul_lt]
theorem xJ (h:dV p=true):p.2.2.2.2.2.2.2.2.2.2.2.2.2.2.2.length<=320:=by grind[dV,J5,N7]
theorem RX {b:Bytes}{k z:Nat}(hk:k*z<b.length)(hb:b.length<=320):sub b ((k*z:Nat):Int) ((min ((k+1)*z) b.length:Nat):Int)=some ((b.take (min ((k+1)*z) b.length)).drop (k*z)):=by grind[sub]
theorem aca (p:aR)(z:Int):EZ p z=some (Da p z):=by
 unfold EZ Da;simp only[sf,cz,ab];cases hs:dV p;rfl;cases hz:dw z 1 128;rfl;have hz':=bM.1 hz;have hb:=xJ hs;simp only[ai,ae,du,af,ab,cm,cT];cases hq:(p.2.2.2.2.2.2.2.2.1 !=6)||decide ((p.2.2.2.2.2.2.2.2.2.2.2.2.2.2.2.length)<=z)with
 |true=>rfl
 |false=>
  obtain⟨m,rfl⟩:=aG (show 0<=z by omega);have hN:∀k,k<jy p.2.2.2.2.2.2.2.2.2.2.2.2.2.2.2.length m↔k*m<p.2.2.2.2.2.2.2.2.2.2.2.2.2.2.2.length:=λk=>Lg;have HH:jy p.2.2.2.2.2.2.2.2.2.2.2.2.2.2.2.length m<=320:=by rcases bL 320 (jy p.2.2.2.2.2.2.2.2.2.2.2.2.2.2.2.length m)with h|h;have:=(hN 320).1 h;omega;exact h
  refine cd (λk=>((range k).map (OQ p (m)),(k:Int))) (jy p.2.2.2.2.2.2.2.2.2.2.2.2.2.2.2.length m) (by omega) (λk nx hk=>?_) (λnx=>?_);have hkm:=(hN k).1 hk;have hk1:(k+1)*m=k*m+m:=by rw[cl,ei]
  have e1:(k:Int)*(m)=((k*m:Nat)):=by push_cast;rfl
  have e2:((k:Int)+1)*(m)=(((k+1)*m:Nat)):=by push_cast;rfl
  simp only[yD];rw[aj (n:=(k)+1) (by omega) (by omega),e1,e2,fD (by omega),fD (by omega),jo,af];have e3:(if(((k+1)*m:Nat):Int)<(p.2.2.2.2.2.2.2.2.2.2.2.2.2.2.2.length) then(((k+1)*m:Nat):Int) else(p.2.2.2.2.2.2.2.2.2.2.2.2.2.2.2.length))=((min ((k+1)*m) p.2.2.2.2.2.2.2.2.2.2.2.2.2.2.2.length)):=by split<;>omega
  rw[e3,RX hkm hb,ab,mG,mG];rw[List.range_succ,List.map_append,List.map_singleton];simp only[OQ,e1,e2,az];cases decide ((((k+1)*m:Nat):Int)<(p.2.2.2.2.2.2.2.2.2.2.2.2.2.2.2.length))with|true=>rw[aQ (by simp;omega)];rfl|false=>simp only[ae];rw[aQ (by simp;omega)];rfl
  have hkm:¬jy p.2.2.2.2.2.2.2.2.2.2.2.2.2.2.2.length m*m<p.2.2.2.2.2.2.2.2.2.2.2.2.2.2.2.length:=λh=>absurd ((hN _).2 h) (ng _);have hub:jy p.2.2.2.2.2.2.2.2.2.2.2.2.2.2.2.length m*m<=320*128:=Nat.mul_le_mul HH (by omega);have e1:((jy p.2.2.2.2.2.2.2.2.2.2.2.2.2.2.2.length m):Int)*(m)=((jy p.2.2.2.2.2.2.2.2.2.2.2.2.2.2.2.length m*m:Nat)):=by push_cast;rfl
  simp only[yD];rw[e1,fD (by omega),fO];rfl
theorem aa6 (p:aR)(z:Int):Ej p z=some (Da p z):=by
 unfold Ej Da;simp only[pn,cO,ab];cases hs:dV p;rfl;cases hz:dw z 1 128;rfl;have hz':=bM.1 hz;have hb:=xJ hs;simp only[ai,ae,du,af,ab,cm,cT];cases hq:(p.2.2.2.2.2.2.2.2.1 !=6)||decide ((p.2.2.2.2.2.2.2.2.2.2.2.2.2.2.2.length)<=z)with
 |true=>rfl
 |false=>
  obtain⟨m,rfl⟩:=aG (show 0<=z by omega);have hN:∀k,k<jy p.2.2.2.2.2.2.2.2.2.2.2.2.2.2.2.length m↔k*m<p.2.2.2.2.2.2.2.2.2.2.2.2.2.2.2.length:=λk=>Lg;have HH:jy p.2.2.2.2.2.2.2.2.2.2.2.2.2.2.2.length m<=320:=by rcases bL 320 (jy p.2.2.2.2.2.2.2.2.2.2.2.2.2.2.2.length m)with h|h;have:=(hN 320).1 h;omega;exact h
  refine cd (λk=>((range k).map (OQ p (m)),(k:Int))) (jy p.2.2.2.2.2.2.2.2.2.2.2.2.2.2.2.length m) (by omega) (λk nx hk=>?_) (λnx=>?_);have hkm:=(hN k).1 hk;have hk1:(k+1)*m=k*m+m:=by rw[cl,ei]
  have e1:(k:Int)*(m)=((k*m:Nat)):=by push_cast;rfl
  have e2:((k:Int)+1)*(m)=(((k+1)*m:Nat)):=by push_cast;rfl
  have pG:=RX hkm hb;simp only[yb];rw[aj (n:=(k)+1) (by omega) (by omega),e1,e2,fD (by omega),fD (by omega),jo,af];rw[List.range_succ,List.map_append,List.map_singleton];simp only[OQ,e1,e2,az];by_cases hc:(((k+1)*m:Nat):Int)<(p.2.2.2.2.2.2.2.2.2.2.2.2.2.2.2.length);rw[ax hc];rw[show min ((k+1)*m) p.2.2.2.2.2.2.2.2.2.2.2.2.2.2.2.length=(k+1)*m by omega]at pG⊢;rw[pG,ab,mG,mG,aQ (by simp;omega)];rfl;rw[aq hc];rw[show min ((k+1)*m) p.2.2.2.2.2.2.2.2.2.2.2.2.2.2.2.length=p.2.2.2.2.2.2.2.2.2.2.2.2.2.2.2.length by omega]at pG⊢;rw[pG,ab,mG,mG,aQ (by simp;omega)];rfl;have hkm:¬jy p.2.2.2.2.2.2.2.2.2.2.2.2.2.2.2.length m*m<p.2.2.2.2.2.2.2.2.2.2.2.2.2.2.2.length:=λh=>absurd ((hN _).2 h) (ng _);have hub:jy p.2.2.2.2.2.2.2.2.2.2.2.2.2.2.2.length m*m<=320*128:=Nat.mul_le_mul HH (by omega);have e1:((jy p.2.2.2.2.2.2.2.2.2.2.2.2.2.2.2.length m):Int)*(m)=((jy p.2.2.2.2.2.2.2.2.2.2.2.2.2.2.2.length m*m:Nat)):=by push_cast;rfl
  simp only[yb];rw[e1,fD (by omega),fO];rfl
theorem IW (p:aR)(z:Int):(Da p z).length<=320:=by unfold Da;cases hs:dV p&&dw z 1 128;exact cC _;simp only[ah,bM]at hs;have hb:=xJ hs.1;cases (p.2.2.2.2.2.2.2.2.1 !=6)||decide ((p.2.2.2.2.2.2.2.2.2.2.2.2.2.2.2.length)<=z)with|true=>simp only[af,bf];omega|false=>simp only[af,ae,cj,List.length_range];rcases bL 320 (jy p.2.2.2.2.2.2.2.2.2.2.2.2.2.2.2.length z.toNat)with h|h;have:=(Lg).1 h;omega;exact h
def Nj (acc:bw)(p:aR):bw:=bif (Ga p).2 then acc++[(Ga p).1] else acc
theorem Nk (acc:bw)(p:aR):(Nj acc p).length<=acc.length+1:=by grind[Nj]
def He (l:au aR):bw:=l.foldl Nj []
theorem LH:∀(l:au aR)(acc:bw),(l.foldl Nj acc).length<=acc.length+l.length
 |[],acc=>by simp
 |p::l,acc=>by have:=LH l (Nj acc p);grind[Nk]
theorem HN:∀(l:au aR)(acc:bw),(∀x∈acc,x.length<=382)->∀x∈l.foldl Nj acc,x.length<=382
 |[],acc,h=>h
 |p::l,acc,h=>by refine HN l _ (λx hx=>?_);grind[Nj,aaG]
theorem YE (l:au aR)(h:l.length<=10^9):yv l=some (He l):=by
 unfold yv He;have:=DP (T:=nI (λ(y3) (_)=>some y3) l) l (λ(s) i=>(s,(i))) (λi s=>s.length<=i) (λp s=> .ok (Nj s p)) (λs=>some s) (by omega) (λi hi s nx hI=>?hs) (λi hi s s' hI hg=>?hn) (λs nx hI=>?hf) [] (by simp)
 case hs=>
  grind[nI,aU,aj,ab,ab4,Nj,aQ]
 all_goals grind[Nk,nI,J0]
theorem XK (l:au aR)(h:l.length<=10^9):xT l=some (He l):=by
 unfold xT He;have:=DP (T:=nk (λ(y3) (_)=>some y3) l (l.length)) l (λ(s) i=>(s,(i))) (λi s=>s.length<=i) (λp s=> .ok (Nj s p)) (λs=>some s) (by omega) (λi hi s nx hI=>?hs) (λi hi s s' hI hg=>?hn) (λs nx hI=>?hf) [] (by simp)
 case hs=>
  grind[nk,aU,aj,ab,aaZ,Nj,aQ]
 all_goals grind[Nk,nk,J0]
def Mf (p:aR)(z:Int):bw:=He (Da p z)
theorem Wa (p:aR)(z:Int):pb p z=some (Mf p z):=by have:=IW p z;simp only[pb,aca,YE _ (show(Da p z).length<=10^9 by omega),ab];rfl
theorem Vb (p:aR)(z:Int):oR p z=some (Mf p z):=by have:=IW p z;simp only[oR,aa6,XK _ (show(Da p z).length<=10^9 by omega),ab];rfl
theorem Hr (p:aR)(z:Int):(Mf p z).length<=320/\∀x∈Mf p z,x.length<=382:=by have:=IW p z;have:=LH (Da p z) [];exact⟨by grind[Mf,He],HN _ [] (by simp)⟩
theorem Dt {a:Int}(h0:0<=a:=by omega)(h:a+2<=(s.length:Int):=by omega):0<=cp s a/\cp s a<=65535:=by grind[eL,cp,fu]
theorem Du {a:Int}(h0:0<=a:=by omega)(h:a+4<=(s.length:Int):=by omega):0<=eS s a/\eS s a<=4294967295:=by grind[eL,eS,fu]
theorem ad1 {x y:Int}(hx:0<=x/\x<=65535)(hy:0<=y/\y<=4294967295):ak (toNat (fE (ak (x*2^(rp 32)))|||fE y))=x*4294967296+y:=by have e:(2:Int)^(rp 32)=4294967296:=rfl;obtain⟨x,rfl⟩:=aG hx.1;obtain⟨y,rfl⟩:=aG hy.1;rw[e,aj (n:=(x:Int)*4294967296) (by omega) (by omega),show(x:Int)*4294967296=((2^32*x:Nat):Int) by omega,IM x 32 y];omega
theorem ZM {x y:Int}(hx:0<=x/\x<=65535)(hy:0<=y/\y<=4294967295):ak (ak (x*2^(rp 32))+y)=x*4294967296+y:=by grind[IntKind.bits,aj]
theorem CU {l:au α}{n:Int}(h0:0<=n)(h1:n<=(l.length:Int)):sub l 0 n=some (l.take n.toNat):=by grind[sub]
theorem sK {l:au α}(k:Nat)(h:k<=l.length:=by omega){a:Int}(ha:a=(k:Int):=by omega):sub l a (l.length:Int)=some (l.drop k):=by simp_all[sub]
theorem Kq {l:au α}(k:Nat){a n:Int}(ha:a=(k:Int))(h0:a<=n)(h1:n<=(l.length:Int)):sub l a n=some ((l.take n.toNat).drop k):=by grind[sub]
def D1 (s:Bytes):Bytes×Bool:=bif decide ((s.length:Int)<4) then([],false) else bif E8 (s.take ((s.length:Int)-4).toNat)==s then(s.take ((s.length:Int)-4).toNat,true) else([],false)
theorem YC (s:Bytes)(h:s.length<=10^9):yq s=some (D1 s):=by unfold yq D1;rw[aj (n:=(s.length:Int)-4) (by omega) (by omega)];by_cases h4:(s.length:Int)<4;rw[ax h4];rfl;rw[aq h4,CU (by omega) (by omega)];simp only[ae,ab,Z4 _ (show(s.take ((s.length:Int)-4).toNat).length<=10^9 by rw[bn];omega)];cases E8 (s.take ((s.length:Int)-4).toNat)==s<;>rfl
theorem XI (s:Bytes)(h:s.length<=10^9):xP s=some (D1 s):=by unfold xP D1;rw[aj (n:=(s.length:Int)-4) (by omega) (by omega)];by_cases h4:(s.length:Int)<4;rw[ax (show(s.length:Int)-4<0 by omega),ax h4];rfl;rw[aq (show¬(s.length:Int)-4<0 by omega),aq h4,CU (by omega) (by omega)];simp only[ae,ab,ZF _ (show(s.take ((s.length:Int)-4).toNat).length<=10^9 by rw[bn];omega)];cases E8 (s.take ((s.length:Int)-4).toNat)==s<;>rfl
def afl:PM:=(0,0,0,0,([]:Bytes))
def H0 (s:Bytes)(a:Int):Int:=cp s a*4294967296+eS s (a+2)
def NG (s:Bytes):PM:=(H0 s 0,H0 s 6,cp s 14,cp s 16,s.drop 18)
def Dm (s:Bytes):PM:=(H0 s 0,H0 s 6, -1,cp s 12,s.drop 14)
def fC (s:Bytes):PM×Bool:=bif decide ((s.length:Int)<18) then(afl,false) else
 bif cp s 12==33024 then(bif Be (NG s) then(NG s,true) else(afl,false)) else bif Be (Dm s) then(Dm s,true) else(afl,false)
theorem Tu (s:Bytes)(h:s.length<=10^9):yz s=some (fC s):=by unfold yz fC;by_cases h8:(s.length:Int)<18;rw[ax h8];rfl;rw[aq h8];simp only[ae,se s _ h,AZ s _ h,ab];rw[mG,mG,sK (l:=s) 14 (by omega) (show(14:Int)=((14:Nat):Int) from rfl),ab,sK (l:=s) 18 (by omega) (show(18:Int)=((18:Nat):Int) from rfl)];rw[ZM (Dt (s:=s) (a:=0)) (Du (s:=s) (a:=2)),ZM (Dt (s:=s) (a:=6)) (Du (s:=s) (a:=8))];simp only[ab,Lr];rw[show((cp s 0*4294967296+eS s 2,cp s 6*4294967296+eS s 8,cp s 14,cp s 16,s.drop 18):PM)=NG s from rfl,show((cp s 0*4294967296+eS s 2,cp s 6*4294967296+eS s 8, -1,cp s 12,s.drop 14):PM)=Dm s from rfl];cases cp s 12==33024<;>cases Be (NG s)<;>cases Be (Dm s)<;>rfl
theorem JC (s:Bytes)(h:s.length<=10^9):td s=some (fC s):=by
 unfold td fC;by_cases h4:(s.length:Int)<14;rw[ax h4,ax (show(s.length:Int)<18 by omega)];rfl;rw[aq h4];simp only[ae,xt s _ h,AU s _ h,ab];rw[mG,mG,sK (l:=s) 14 (by omega) (show(14:Int)=((14:Nat):Int) from rfl),ab];rw[ad1 (Dt (s:=s) (a:=0)) (Du (s:=s) (a:=2)),ad1 (Dt (s:=s) (a:=6)) (Du (s:=s) (a:=8))];simp only[ab,Q4];rw[show((cp s 0*4294967296+eS s 2,cp s 6*4294967296+eS s 8, -1,cp s 12,s.drop 14):PM)=Dm s from rfl];by_cases h8:(s.length:Int)<18;have hB:Be (Dm s)=false:=by
  unfold Be Dm;have:dw ((s.drop 14).length:Int) 46 400=false:=by rw[Bool.eq_false_iff,ne_eq,bM,bh];omega
  simp only[this,js]
 rw[ax h8,aq (show¬(s.length:Int)>=18 by omega),hB];cases cp s 12==33024<;>rfl;rw[aq h8,ax (show(s.length:Int)>=18 by omega),sK (l:=s) 18 (by omega) (show(18:Int)=((18:Nat):Int) from rfl)];simp only[ab];rw[show((cp s 0*4294967296+eS s 2,cp s 6*4294967296+eS s 8,cp s 14,cp s 16,s.drop 18):PM)=NG s from rfl];cases cp s 12==33024<;>cases Be (NG s)<;>cases Be (Dm s)<;>rfl
def ip0:Ip:=(0,0,0,0,0,0,([]:Bytes))
def IK (s:Bytes):Ip:=((bF s 1:Int),cp s 4,(bF s 8:Int),(bF s 9:Int),eS s 12,eS s 16,(s.take (cp s 2).toNat).drop 20)
def lS (s:Bytes):Ip×Bool:=bif decide ((s.length:Int)<20)||(decide (cp s 2<20)||decide (cp s 2>(s.length:Int))) then(ip0,false) else
 bif (ZJ (IK s)).2&&((ZJ (IK s)).1==s.take (cp s 2).toNat) then(IK s,true) else(ip0,false)
theorem V5 (s:Bytes)(h:s.length<=10^9):AD s=some (lS s):=by
 unfold AD lS;simp only[se s _ h,AZ s _ h,ab];by_cases h1:(s.length:Int)<20;rw[ax h1];rfl;by_cases h2:cp s 2<20;rw[aq h1,ax h2];rfl;by_cases h3:cp s 2>(s.length:Int);rw[aq h1,aq h2,ax h3];rfl;rw[aq h1,aq h2,aq h3];have b1:=kc (s[1]'(by omega));have b8:=kc (s[8]'(by omega));have b9:=kc (s[9]'(by omega));have i1:idx s 1=some (s[1]'(by omega)):=aU (i:=1) (by omega);have i8:idx s 8=some (s[8]'(by omega)):=aU (i:=8) (by omega);have i9:idx s 9=some (s[9]'(by omega)):=aU (i:=9) (by omega);simp only[ae,ab,bz,i1,i8,i9];rw[Kq (l:=s) 20 (show(20:Int)=((20:Nat):Int) from rfl) (by omega) (by omega),CU (by omega) (by omega),fD (n:=(s[1]'(by omega)).toNat) (by omega),fD (n:=(s[8]'(by omega)).toNat) (by omega),fD (n:=(s[9]'(by omega)).toNat) (by omega)];have e:(((s[1]'(by omega)).toNat:Int),cp s 4,((s[8]'(by omega)).toNat:Int),((s[9]'(by omega)).toNat:Int),eS s 12,eS s 16,(s.take (cp s 2).toNat).drop 20)=IK s:=by grind[IK,bF]
 simp only[ab,e,aeB];cases (ZJ (IK s)).2<;>cases (ZJ (IK s)).1==s.take (cp s 2).toNat<;>rfl
theorem U4 (s:Bytes)(h:s.length<=10^9):Am s=some (lS s):=by
 unfold Am lS;simp only[xt s _ h,AU s _ h,ab];by_cases h1:(s.length:Int)<20;rw[ax h1];rfl;by_cases h2:cp s 2<20;rw[aq h1,ax h2];rfl;by_cases h3:cp s 2>(s.length:Int);rw[aq h1,aq h2,ax h3];rfl;rw[aq h1,aq h2,aq h3];have b1:=kc (s[1]'(by omega));have b8:=kc (s[8]'(by omega));have b9:=kc (s[9]'(by omega));have i1:idx s 1=some (s[1]'(by omega)):=aU (i:=1) (by omega);have i8:idx s 8=some (s[8]'(by omega)):=aU (i:=8) (by omega);have i9:idx s 9=some (s[9]'(by omega)):=aU (i:=9) (by omega);simp only[ae,ab,bz,i1,i8,i9];rw[Kq (l:=s) 20 (show(20:Int)=((20:Nat):Int) from rfl) (by omega) (by omega),CU (by omega) (by omega),fD (n:=(s[1]'(by omega)).toNat) (by omega),fD (n:=(s[8]'(by omega)).toNat) (by omega),fD (n:=(s[9]'(by omega)).toNat) (by omega)];have e:(((s[1]'(by omega)).toNat:Int),cp s 4,((s[8]'(by omega)).toNat:Int),((s[9]'(by omega)).toNat:Int),eS s 12,eS s 16,(s.take (cp s 2).toNat).drop 20)=IK s:=by grind[IK,bF]
 simp only[ab,e,adI];cases (ZJ (IK s)).2<;>cases (ZJ (IK s)).1==s.take (cp s 2).toNat<;>rfl
def ahA:dy:=(0,0,0,0,0,0,0,([]:Bytes))
def O4 (k:Int)(s:Bytes):dy:=(k,cp s 0,cp s 2,eS s 4,eS s 8,(bF s 13:Int),cp s 14,s.drop 20)
def Tp (k:Int)(s:Bytes):dy:=(k,cp s 0,cp s 2,0,0,0,0,s.drop 8)
def tE (a b k:Int)(s:Bytes):dy×Bool:=
 bif (k==6)&&decide ((s.length:Int)>=20) then(bif (C7 a b (O4 k s)).2&&((C7 a b (O4 k s)).1==s) then(O4 k s,true) else(ahA,false)) else
 bif (k==17)&&decide ((s.length:Int)>=8) then(bif (C7 a b (Tp k s)).2&&((C7 a b (Tp k s)).1==s) then(Tp k s,true) else(ahA,false)) else(ahA,false)
theorem Tv (a b k:Int)(s:Bytes)(h:s.length<=10^9):ql a b k s=some (tE a b k s):=by
 unfold ql tE;simp only[se s _ h,AZ s _ h,ab];rw[show(aa (cond (k==6) (some (decide ((s.length:Int)>=20))) (some false)):(Bool->aw (dy×Bool))->aw (dy×Bool))=λK=>K ((k==6)&&decide ((s.length:Int)>=20)) from by funext K;cases k==6<;>rfl];rw[show(aa (cond (k==17) (some (decide ((s.length:Int)>=8))) (some false)):(Bool->aw (dy×Bool))->aw (dy×Bool))=λK=>K ((k==17)&&decide ((s.length:Int)>=8)) from by funext K;simp_all];simp only;cases h1:(k==6)&&decide ((s.length:Int)>=20)with
 |true=>
  simp only[ah,bD]at h1;have bb:=kc (s[13]'(by omega));have i:idx s 13=some (s[13]'(by omega)):=aU (i:=13) (by omega);have e:(k,cp s 0,cp s 2,eS s 4,eS s 8,((s[13]'(by omega)).toNat:Int),cp s 14,s.drop 20)=O4 k s:=by grind[O4,bF]
  simp only[af,i,ab];rw[sK (l:=s) 20 (by omega) (show(20:Int)=((20:Nat):Int) from rfl),fD (n:=(s[13]'(by omega)).toNat) (by omega)];simp only[ab,e,GM];cases (C7 a b (O4 k s)).2<;>cases (C7 a b (O4 k s)).1==s<;>rfl
 |false=>simp only[ae];cases h2:(k==17)&&decide ((s.length:Int)>=8)with|false=>rfl|true=>simp only[ah,bD]at h2;rw[sK (l:=s) 8 (by omega) (show(8:Int)=((8:Nat):Int) from rfl)];simp only[af,ab,show((k,cp s 0,cp s 2,0,0,0,0,s.drop 8):dy)=Tp k s from rfl,GM];cases (C7 a b (Tp k s)).2<;>cases (C7 a b (Tp k s)).1==s<;>rfl
theorem SU (a b k:Int)(s:Bytes)(h:s.length<=10^9):pW a b k s=some (tE a b k s):=by
 unfold pW tE;simp only[xt s _ h,AU s _ h,ab];rw[show(aa (cond (k==6) (some (decide ((s.length:Int)>=20))) (some false)):(Bool->aw (dy×Bool))->aw (dy×Bool))=λK=>K ((k==6)&&decide ((s.length:Int)>=20)) from by funext K;cases k==6<;>rfl];rw[show(aa (cond (k==17) (some (decide ((s.length:Int)>=8))) (some false)):(Bool->aw (dy×Bool))->aw (dy×Bool))=λK=>K ((k==17)&&decide ((s.length:Int)>=8)) from by funext K;simp_all];simp only;cases h1:(k==6)&&decide ((s.length:Int)>=20)with
 |true=>
  simp only[ah,bD]at h1;have bb:=kc (s[13]'(by omega));have i:idx s 13=some (s[13]'(by omega)):=aU (i:=13) (by omega);have e:(k,cp s 0,cp s 2,eS s 4,eS s 8,((s[13]'(by omega)).toNat:Int),cp s 14,s.drop 20)=O4 k s:=by grind[O4,bF]
  simp only[af,i,ab];rw[sK (l:=s) 20 (by omega) (show(20:Int)=((20:Nat):Int) from rfl),fD (n:=(s[13]'(by omega)).toNat) (by omega)];simp only[ab,e,Gq];cases (C7 a b (O4 k s)).2<;>cases (C7 a b (O4 k s)).1==s<;>rfl
 |false=>simp only[ae];cases h2:(k==17)&&decide ((s.length:Int)>=8)with|false=>rfl|true=>simp only[ah,bD]at h2;rw[sK (l:=s) 8 (by omega) (show(8:Int)=((8:Nat):Int) from rfl)];simp only[af,ab,show((k,cp s 0,cp s 2,0,0,0,0,s.drop 8):dy)=Tp k s from rfl,Gq];cases (C7 a b (Tp k s)).2<;>cases (C7 a b (Tp k s)).1==s<;>rfl
def pk0:aR:=(0,0,0,0,0,0,0,0,0,0,0,0,0,0,0,([]:Bytes))
def vh (s:Bytes):aR×Int:=
 let e:=fC s
 bif !e.2||(e.1.2.2.2.1 !=2048) then(pk0,2) else
 let i:=lS e.1.2.2.2.2
 bif !i.2 then(pk0,3) else
 let g:=tE i.1.2.2.2.2.1 i.1.2.2.2.2.2.1 i.1.2.2.2.1 i.1.2.2.2.2.2.2
 bif !g.2 then(pk0,4) else
 bif !dV (e.1.1,e.1.2.1,e.1.2.2.1,i.1.1,i.1.2.1,i.1.2.2.1,i.1.2.2.2.2.1,i.1.2.2.2.2.2.1,g.1) then(pk0,5) else
 ((e.1.1,e.1.2.1,e.1.2.2.1,i.1.1,i.1.2.1,i.1.2.2.1,i.1.2.2.2.2.1,i.1.2.2.2.2.2.1,g.1),0)
theorem EG (s:Bytes):(fC s).1.2.2.2.2.length<=s.length:=by grind[fC,afl,NG,Dm]
theorem L6 (s:Bytes):(lS s).1.2.2.2.2.2.2.length<=s.length:=by grind[lS,ip0,IK]
theorem Hv (s:Bytes)(h:s.length<=10^9):im s=some (vh s):=by
 have h1:=EG s;unfold im vh;rw[Tu s h,ab];generalize fC s=e at h1⊢;have h2:=L6 e.1.2.2.2.2;simp only;cases e.2;rfl;cases e.1.2.2.2.1 !=2048;case true=>rfl
 simp only[ai,ae,ab,bz,V5 _ (show e.1.2.2.2.2.length<=10^9 by omega)];generalize lS e.1.2.2.2.2=i at h2⊢;cases i.2;rfl;simp only[ai,ae,ab,Tv _ _ _ _ (show i.1.2.2.2.2.2.2.length<=10^9 by omega)];generalize tE i.1.2.2.2.2.1 i.1.2.2.2.2.2.1 i.1.2.2.2.1 i.1.2.2.2.2.2.2=g;cases g.2;rfl;simp only[ai,ae,ab,sf];cases dV (e.1.1,e.1.2.1,e.1.2.2.1,i.1.1,i.1.2.1,i.1.2.2.1,i.1.2.2.2.2.1,i.1.2.2.2.2.2.1,g.1)<;>rfl
theorem Hj (s:Bytes)(h:s.length<=10^9):ig s=some (vh s):=by
 have h1:=EG s;unfold ig vh;rw[JC s h,ab];generalize fC s=e at h1⊢;have h2:=L6 e.1.2.2.2.2;simp only;cases e.2;rfl;cases e.1.2.2.2.1 !=2048;case true=>rfl
 simp only[ai,ae,ab,bz,U4 _ (show e.1.2.2.2.2.length<=10^9 by omega)];generalize lS e.1.2.2.2.2=i at h2⊢;cases i.2;rfl;simp only[ai,ae,ab,SU _ _ _ _ (show i.1.2.2.2.2.2.2.length<=10^9 by omega)];generalize tE i.1.2.2.2.2.1 i.1.2.2.2.2.2.1 i.1.2.2.2.1 i.1.2.2.2.2.2.2=g;cases g.2;rfl;simp only[ai,ae,ab,pn];cases dV (e.1.1,e.1.2.1,e.1.2.2.1,i.1.1,i.1.2.1,i.1.2.2.1,i.1.2.2.2.2.1,i.1.2.2.2.2.2.1,g.1)<;>rfl
def qZ (s:Bytes):aR×Int:=
 let c:=D1 s
 bif !c.2 then(pk0,1) else
 let r:=vh c.1
 bif r.2 !=0 then(pk0,r.2) else
 bif !jx r.1 then(pk0,5) else(r.1,0)
theorem Ny (s:Bytes):(D1 s).1.length<=s.length:=by grind[D1]
theorem RQ (s:Bytes)(h:s.length<=10^9):rh s=some (qZ s):=by
 have h1:=Ny s;unfold rh qZ;rw[YC s h,ab];generalize D1 s=c at h1⊢;simp only;cases c.2;rfl;simp only[ai,ae,ab,Hv _ (show c.1.length<=10^9 by omega)];generalize vh c.1=r;cases r.2 !=0;case true=>rfl
 simp only[ae,ab,ET];cases jx r.1<;>rfl
theorem Q9 (s:Bytes)(h:s.length<=10^9):qJ s=some (qZ s):=by
 have h1:=Ny s;unfold qJ qZ;rw[XI s h,ab];generalize D1 s=c at h1⊢;simp only;cases c.2;rfl;simp only[ai,ae,ab,Hj _ (show c.1.length<=10^9 by omega)];generalize vh c.1=r;cases r.2 !=0;case true=>rfl
 simp only[ae,ab,Ee];cases jx r.1<;>rfl
theorem fF (a:bw)(h:a.length<=1073741824:=by omega):cW a=some a:=by simp_all[cW,iM,aQ]
theorem gJ (a:bw)(h:a.length<=1073741824:=by omega):de a=some a:=by grind[de,aQ]
theorem Fm (l:bw)(h:l.length<=10^9):iM l=some l:=by grind[iM,ff]
theorem Gn (f:Filter)(h:f.2.2.length<=10^9):oS f=some f:=by grind[oS,nV,ab]
theorem BS (f:Filter)(h:f.2.2.length<=10^9):sH f=some f:=by simp only[sH,ff h,bK]
theorem tW (l:au Stream)(h:l.length<=10^9:=by omega):iL l=some l:=by grind[iL,ff]
theorem P7 (t:au Slot)(h:t.length<=10^9):vW t=some t:=by grind[vW,ff]
theorem Of (s:iB)(h:s.2.length<=10^9):ug s=some s:=by grind[ug,nV,ab]
theorem HX (s:eG)(h1:s.1.length<=10^9)(h2:s.2.1.length<=10^9)(h3:s.2.2.2.length<=10^9):lO s=some s:=by simp only[lO,ff h1,P7 _ h2,Of _ h3,ab,bK]
theorem Qn (t:au Slot)(h:t.length<=10^9):AH t=some t:=by grind[AH,ff]
theorem C9 (s:eG)(h1:s.1.length<=10^9)(h2:s.2.1.length<=10^9)(h3:s.2.2.2.length<=10^9):sD s=some s:=by simp only[sD,ff h1,Qn _ h2,ff h3,ab,bK]
theorem RJ (l:au ir)(i:Nat)(hi:i<l.length):l.take i++[(l[i].1,l[i].2.1,l[i].2.2)]=l.take (i+1):=(bg hi).symm
theorem Jx (l:au ir)(h:l.length<=10^9)(hx:∀x∈l,x.2.2.length<=10^9):ti l=some l:=by unfold ti;refine(cd (λi=>(l.take i,(i:Int))) l.length (by omega) (λi nx hi=>?_) (λnx=>?_));simp only[rX];rw[jo,aU hi,aj (by omega) (by omega)];simp only[af,ab,nV _ (hx _ (bc hi))];rw[aQ (by simp;omega),RJ l i hi];rfl;simp only[rX];rw[fO,cw];rfl
structure WU (t:bI):Prop where
 p:t.2.1.2.2.2.length<=10^9
 w:t.2.2.1.length<=10^9
 x:∀x∈t.2.2.1,x.2.2.length<=10^9
theorem IE (t:bI)(z:WU t):qL t=some t:=by simp only[qL,uO _ z.p,Jx _ z.w z.x,ab]
theorem BT (t:bI)(z:WU t):je t=some t:=by have h:=z.w;unfold je;simp only[xx _ z.p,ab];refine(cd (λi=>((i:Int),t.1,t.2.1,t.2.2.1.take i,t.2.2.2)) t.2.2.1.length (by omega) (λi nx hi=>?_) (λnx=>?_));simp only[uD];rw[jo,aU hi,aj (by omega) (by omega)];simp only[af,ab,ff (z.x _ (bc hi)),bK];rw[aQ (by simp;omega),RJ _ i hi];rfl;simp only[uD];rw[fO,cw];rfl
theorem agC (z:bm 1000000000 da h):WU h.2.2.1:=⟨z.2.2.1.2.1.2.2.2.1,z.2.2.1.2.2.1.1,λx hx=>(z.2.2.1.2.2.1.2 x hx).2.2.1⟩
theorem ic (h:Host)(z:bm 1000000000 da h):fH h=some h:=by have hp:h.2.2.2.2.1.length<=10^9:=z.2.2.2.2.1.1;have hm:h.1.length<=10^9:=z.1.1;unfold fH;simp only[fF _ (show h.1.length<=1073741824 by omega),vV,ff z.2.1.1,IE _ (agC z),ff z.2.2.2.1.1,ab,bK];refine(cd (λi=>((i:Int),h.1,h.2.1,h.2.2.1,h.2.2.2.1,h.2.2.2.2.1.take i,h.2.2.2.2.2)) h.2.2.2.2.1.length (by omega) (λi nx hi=>?_) (λnx=>?_));simp only[rV];rw[jo,aU hi,aj (by omega) (by omega)];simp only[af,ab,uO _ (z.2.2.2.2.1.2 _ (bc hi)).2.2.2.1];rw[aQ (by simp;omega),<-bg hi];rfl;simp only[rV];rw[fO,cw];simp only[ae,ff z.2.2.2.2.2.1.1,ff z.2.2.2.2.2.2.1.1,Gn _ z.2.2.2.2.2.2.2.1.2.2.1,HX _ z.2.2.2.2.2.2.2.2.1.1.1 z.2.2.2.2.2.2.2.2.1.2.1.1 z.2.2.2.2.2.2.2.2.1.2.2.2.1,tW _ z.2.2.2.2.2.2.2.2.2.1.1,Fm _ z.2.2.2.2.2.2.2.2.2.2.2.1.1,nV _ z.2.2.2.2.2.2.2.2.2.2.2.2.1.1,nV _ z.2.2.2.2.2.2.2.2.2.2.2.2.2.1.1,ab,bK]
theorem il (h:Host)(z:bm 1000000000 da h):gi h=some h:=by have hp:h.2.2.2.2.1.length<=10^9:=z.2.2.2.2.1.1;have hm:h.1.length<=10^9:=z.1.1;unfold gi;simp only[gJ _ (show h.1.length<=1073741824 by omega),ff z.2.1.1,BT _ (agC z),ff z.2.2.2.1.1,ab,bK];refine(cd (λi=>((i:Int),h.1,h.2.1,h.2.2.1,h.2.2.2.1,h.2.2.2.2.1.take i,h.2.2.2.2.2)) h.2.2.2.2.1.length (by omega) (λi nx hi=>?_) (λnx=>?_));simp only[uE];rw[jo,aU hi,aj (by omega) (by omega)];simp only[af,ab,xx _ (z.2.2.2.2.1.2 _ (bc hi)).2.2.2.1];rw[aQ (by simp;omega),<-bg hi];rfl;simp only[uE];rw[fO,cw];simp only[ae,ff z.2.2.2.2.2.1.1,ff z.2.2.2.2.2.2.1.1,BS _ z.2.2.2.2.2.2.2.1.2.2.1,C9 _ z.2.2.2.2.2.2.2.2.1.1.1 z.2.2.2.2.2.2.2.2.1.2.1.1 z.2.2.2.2.2.2.2.2.1.2.2.2.1,ff z.2.2.2.2.2.2.2.2.2.1.1,ff z.2.2.2.2.2.2.2.2.2.2.2.1.1,ff z.2.2.2.2.2.2.2.2.2.2.2.2.1.1,ff z.2.2.2.2.2.2.2.2.2.2.2.2.2.1.1,ab,bK]
theorem Zj:∀l:au ir,(cb l).length<=qs (.sl xi) l
 |[]=>by simp[cb]
 |x::l=>by have:=Zj l;grind[cb,qs]
theorem Ai (s:iV)(z:bm 1000000000 lC s):mn s=some s:=by simp only[mn,Gn _ z.1.2.2.1,HX _ z.2.1.1.1 z.2.1.2.1.1 z.2.1.2.2.2.1,tW _ z.2.2.2.1.1,Fm _ z.2.2.2.2.1,ab]
def aiE:iV:=((0,false,([]:dR)),(([]:au gA),([]:au Slot),([]:Bytes),([]:dR)),0,([]:au Stream),([]:bw))
def J8 (h:Host):iV:=bif dN h then(h.2.2.2.2.2.2.2.1,h.2.2.2.2.2.2.2.2.1,(h.2.2.2.1.length:Int),h.2.2.2.2.2.2.2.2.2.1,([]:bw)) else aiE
theorem YL (h:Host)(z:bm 1000000000 da h)(k:DX h):CR h=some (J8 h):=by simp only[CR,lX h k,ab,J8];cases dN h with|false=>rfl|true=>simp only[ai,ae,af,BS _ z.2.2.2.2.2.2.2.1.2.2.1,C9 _ z.2.2.2.2.2.2.2.2.1.1.1 z.2.2.2.2.2.2.2.2.1.2.1.1 z.2.2.2.2.2.2.2.2.1.2.2.2.1,ff z.2.2.2.2.2.2.2.2.2.1.1,ab,bK]
theorem Lp (h:Host){n:Nat}(z:bm n da h):bm n lC (J8 h):=by unfold J8;cases dN h with|false=>exact⟨⟨df,df,cC _,λ_ h=>nomatch h⟩,⟨⟨cC _,λ_ h=>nomatch h⟩,⟨cC _,λ_ h=>nomatch h⟩,cC _,cC _,λ_ h=>nomatch h⟩,df,⟨cC _,λ_ h=>nomatch h⟩,cC _,λ_ h=>nomatch h⟩|true=>exact⟨z.2.2.2.2.2.2.2.1,z.2.2.2.2.2.2.2.2.1,df,z.2.2.2.2.2.2.2.2.2.1,cC _,λ_ h=>nomatch h⟩
theorem XR (h:Host)(z:bm 1000000000 da h)(k:DX h):Cp h=some (J8 h):=by have hl:=Lp h z;simp only[Cp,oN h k,ab,J8]at hl⊢;cases hb:dN h with|false=>rfl|true=>grind[Ai,ab]
noncomputable def DR (s:iV):Bool:=Ag s.1&&gX s.2.1 s.2.2.1
theorem Pe (s:iV)(h0:s.1.2.2.length<=10^9)(h1:s.2.1.1.length<=10^9)(h2:s.2.1.2.1.length<=10^9)(h3:s.2.1.2.2.2.length<=10^9):vl s=some (DR s):=by grind[vl,DR,IS,EW,ab]
theorem Ol (s:iV)(h0:s.1.2.2.length<=10^9)(h1:s.2.1.1.length<=10^9)(h2:s.2.1.2.1.length<=10^9)(h3:s.2.1.2.2.2.length<=10^9):uU s=some (DR s):=by grind[uU,DR,IG,Eg,ab]
def atF (f:Fa)(s:Stream):Bool:=decide (s.1=f)
def MP (l:au Stream)(f:Fa):Int:=match l.findIdx? (atF f)with|some i=>(i:Int)|none=> -1
theorem aeJ (l:au Stream)(f:Fa)(h:l.length<=10^9):gW l f=some (MP l f):=by unfold gW MP;rw[G9 (p:=atF f) (hit:=λi=>some i) (fin:=some (-1)) l (by omega) (λi hi nx=>?hs) (λnx=>?hf)];all_goals grind[jY,aU,aj,ab,atF]
theorem adR (l:au Stream)(f:Fa)(h:l.length<=10^9):gU l f=some (MP l f):=by unfold gU MP;rw[G9 (p:=atF f) (hit:=λi=>some i) (fin:=some (-1)) l (by omega) (λi hi nx=>?hs) (λnx=>?hf)];all_goals grind[jR,aU,aj,ab,atF]
def YT:Stream:=((0,0,0,0,0),0,([]:Bytes),false)
def body (p:aR):Bytes:=p.2.2.2.2.2.2.2.2.2.2.2.2.2.2.2
def udp (p:aR):Bytes:=bU ((body p).length:Int)++body p
def zA (p:aR)(b:Int):Bool:=ak (toNat (fE p.2.2.2.2.2.2.2.2.2.2.2.2.2.1&&&fE b)) !=0
def qx (s:Stream)(p:aR):Int:=(s.2.1-p.2.2.2.2.2.2.2.2.2.2.2.1)%4294967296
def agb (s:Stream)(p:aR):Stream:=(s.1,(s.2.1+((body p).length:Int)-qx s p)%4294967296,s.2.2.1++(body p).drop (qx s p).toNat,zA p 1)
def sU (l:au Stream)(p:aR):au Stream:=
 bif !dV p then l else
 match l.findIdx? (atF (mi p))with
 |none=>
  bif p.2.2.2.2.2.2.2.2.1==17 then l++[(mi p,0,udp p,false)] else
  bif zA p 2 then l++[(mi p,tmod (ak (p.2.2.2.2.2.2.2.2.2.2.2.1+1)) 4294967296,([]:Bytes),false)] else l
 |some i=>
  bif p.2.2.2.2.2.2.2.2.1==17 then l.set i ((l.getD i YT).1,(l.getD i YT).2.1,(l.getD i YT).2.2.1++udp p,(l.getD i YT).2.2.2) else
  bif zA p 2 then l else
  bif (l.getD i YT).2.2.2||zA p 4 then l else
  bif decide (qx (l.getD i YT) p<=((body p).length:Int)) then l.set i (agb (l.getD i YT) p) else l
theorem T4 (s:Stream)(p:aR):0<=qx s p/\qx s p<4294967296:=by unfold qx;omega
theorem ad4 (x:Int):ak (toNat (fE x&&&fE 4294967295))=x%4294967296:=by have:=Dk x 32;grind[aj]
theorem ae0 (x:Int):ak x%4294967296=x%4294967296:=by have:=DU x 32;omega
theorem J7 (l:au α)(x y:α):(l++[x]).set l.length y=l++[y]:=by grind
theorem ZB {l:au α}{i:Nat}(h:i<l.length)(x:α):idx (l.set i x) (i:Int)=some x:=by rw[SP,List.getElem?_set_self h]
theorem Ah (l:au α)(x:α):idx (l++[x]) (l.length:Int)=some x:=by grind[SP]
theorem Nr (h:dV p=true):(body p).length<=320:=xJ h
theorem Jy (l:au Stream)(p:aR)(h:bm 900000000 (.sl fi) l):rC l p=some (sU l p):=by
 have hl:l.length<=900000000:=h.1;unfold rC sU;simp only[tW l,pn,ab,Og,adR l _ (show l.length<=10^9 by omega),kD];cases hs:dV p;rfl;have hb:=Nr hs;have hw:=bu ((body p).length:Int);simp only[ai,ae];rw[show p.2.2.2.2.2.2.2.2.2.2.2.2.2.2.2=body p from rfl];cases hf:l.findIdx? (atF (mi p))with
 |none=>
  have e1:MP l (mi p)= -1:=by rw[MP,hf]
  simp only[e1,show decide ((-1:Int)<0)=true from rfl,af];cases p.2.2.2.2.2.2.2.2.1==17 with|true=>simp only[af];rw[aQ (by simp;omega),Ah,ab];simp only;rw[aQ (by omega),aQ (by simp only[ar,dU];omega),ab,az];simp only[ab,Ah,J7,bK];rfl|false=>simp only[ae];rw[show(ak (toNat (fE p.2.2.2.2.2.2.2.2.2.2.2.2.2.1&&&fE 2)) !=0)=zA p 2 from rfl];cases zA p 2 with|true=>simp only[af];rw[mG,aQ (by simp;omega)]|false=>rfl
 |some i=>
  obtain⟨hi,_⟩:=List.findIdx?_eq_some_iff_getElem.1 hf;have hd:(l[i].2.2.1).length<=900000000:=(h.2 _ (bc hi)).2.2.1;have e1:MP l (mi p)=(i:Int):=by rw[MP,hf]
  simp only[e1,aq (show¬(i:Int)<0 by omega),ae,aU hi,ab,eO hi,az];cases p.2.2.2.2.2.2.2.2.1==17 with
  |true=>simp only[af];rw[aQ (by omega),aQ (by simp only[ar];omega)];rfl
  |false=>
   simp only[ae];rw[show(ak (toNat (fE p.2.2.2.2.2.2.2.2.2.2.2.2.2.1&&&fE 2)) !=0)=zA p 2 from rfl,show(ak (toNat (fE p.2.2.2.2.2.2.2.2.2.2.2.2.2.1&&&fE 4)) !=0)=zA p 4 from rfl,show(ak (toNat (fE p.2.2.2.2.2.2.2.2.2.2.2.2.2.1&&&fE 1)) !=0)=zA p 1 from rfl];cases zA p 2;case true=>rfl
   simp only[ae];rw[show(aa (cond l[i].2.2.2 (some true) (some (zA p 4))):(Bool->aw (au Stream))->aw (au Stream))=λK=>K (l[i].2.2.2||zA p 4) from by funext K;cases l[i].2.2.2<;>rfl];simp only;cases l[i].2.2.2||zA p 4;case true=>rfl
   simp only[ae,K6 _ 4294967296,ab,ae0];rw[show(l[i].2.1-p.2.2.2.2.2.2.2.2.2.2.2.1)%4294967296=qx l[i] p from rfl];have ha:=T4 l[i] p;by_cases hq:qx l[i] p<=((body p).length:Int)
   rw[ax hq,sK (l:=body p) (qx l[i] p).toNat];simp only[af,ab];rw[aQ (by rw[bh];omega)];simp only[ZB hi,ab,List.set_set];refine congrArg some (congrArg (l.set i) ?_);simp only[agb];rw[show(ak (l[i].2.1+((body p).length:Int))-qx l[i] p)%4294967296=(l[i].2.1+((body p).length:Int)-qx l[i] p)%4294967296 from by rw[Int.sub_emod,ae0,<-Int.sub_emod]];rw[aq hq];rfl
theorem Kb (l:au Stream)(p:aR)(h:bm 900000000 (.sl fi) l):si l p=some (sU l p):=by
 have hl:l.length<=900000000:=h.1;unfold si sU;rw[ff (by omega)];simp only[bK,sf,ab,O8,aeJ l _ (show l.length<=10^9 by omega),gM];cases hs:dV p;rfl;have hb:=Nr hs;have hw:=bu ((body p).length:Int);simp only[ai,ae];rw[show p.2.2.2.2.2.2.2.2.2.2.2.2.2.2.2=body p from rfl];cases hf:l.findIdx? (atF (mi p))with
 |none=>
  have e1:MP l (mi p)= -1:=by rw[MP,hf]
  simp only[e1,show decide ((-1:Int)<0)=true from rfl,af];cases p.2.2.2.2.2.2.2.2.1==17 with|true=>simp only[af];rw[aQ (by simp;omega),Ah,ab];simp only;rw[aQ (by simp only[dU];omega),aQ (by simp only[ar,dU];omega),ab,az];simp only[ab,Ah,J7,bK];rfl|false=>simp only[ae];rw[show(ak (toNat (fE p.2.2.2.2.2.2.2.2.2.2.2.2.2.1&&&fE 2)) !=0)=zA p 2 from rfl];cases zA p 2 with|true=>simp only[af];rw[mG,aQ (by simp;omega)]|false=>rfl
 |some i=>
  obtain⟨hi,_⟩:=List.findIdx?_eq_some_iff_getElem.1 hf;have hd:(l[i].2.2.1).length<=900000000:=(h.2 _ (bc hi)).2.2.1;have e1:MP l (mi p)=(i:Int):=by rw[MP,hf]
  simp only[e1,aq (show¬(i:Int)<0 by omega),ae,aU hi,ab,eO hi,az];cases p.2.2.2.2.2.2.2.2.1==17 with
  |true=>simp only[af];rw[aQ (by omega),aQ (by simp only[ar];omega),aP];rfl
  |false=>
   simp only[ae];rw[show(ak (toNat (fE p.2.2.2.2.2.2.2.2.2.2.2.2.2.1&&&fE 2)) !=0)=zA p 2 from rfl,show(ak (toNat (fE p.2.2.2.2.2.2.2.2.2.2.2.2.2.1&&&fE 4)) !=0)=zA p 4 from rfl,show(ak (toNat (fE p.2.2.2.2.2.2.2.2.2.2.2.2.2.1&&&fE 1)) !=0)=zA p 1 from rfl];cases zA p 2;case true=>rfl
   simp only[ae];rw[show(aa (cond l[i].2.2.2 (some true) (some (zA p 4))):(Bool->aw (au Stream))->aw (au Stream))=λK=>K (l[i].2.2.2||zA p 4) from by funext K;cases l[i].2.2.2<;>rfl];simp only;cases l[i].2.2.2||zA p 4;case true=>rfl
   simp only[ae,ad4,ab,ae0];rw[show(l[i].2.1-p.2.2.2.2.2.2.2.2.2.2.2.1)%4294967296=qx l[i] p from rfl];have ha:=T4 l[i] p;by_cases hq:qx l[i] p<=((body p).length:Int)
   rw[ax hq,sK (l:=body p) (qx l[i] p).toNat];simp only[af,ab];rw[aQ (by rw[bh];omega)];simp only[ZB hi,ab,List.set_set,aE (show¬(4294967296:Nat)=0 by omega)];refine congrArg some (congrArg (l.set i) ?_);simp only[agb];have e:tmod (ak (ak (l[i].2.1%4294967296+((body p).length:Int))-qx l[i] p)) 4294967296=(l[i].2.1+((body p).length:Int)-qx l[i] p)%4294967296:=by rw[aj (n:=l[i].2.1%4294967296+((body p).length:Int)) (by omega) (by omega),aj (by omega) (by omega),eC (by omega)];omega
   rw[e];rw[aq hq];rfl
theorem UZ (l:au Stream)(p:aR)(h:bm 100000000 (.sl fi) l):rC l p=some (sU l p):=Jy l p (h.mono)
theorem VY (l:au Stream)(p:aR)(h:bm 100000000 (.sl fi) l):si l p=some (sU l p):=Kb l p (h.mono)
theorem Jd {l:au Stream}{n:Nat}(h:bm n (.sl fi) l):bm (n+322) (.sl fi) (sU l p):=by
 have h':bm (n+322) (.sl fi) l:=h.mono;unfold sU;cases hs:dV p;exact h';have hb:=Nr hs;have hw:=bu ((body p).length:Int);have hu:(udp p).length<=322:=by simp only[udp,ar];omega
 simp only[ai,ae];have app:∀x:Stream,x.2.2.1.length<=n+322->bm (n+322) (.sl fi) (l++[x]):=by intro x hx;refine⟨?_,λy hy=>?_⟩;have:l.length<=n:=h.1;simp only[ar,bf];omega;rcases ay.1 hy with g|g;exact h'.2 y g;rw[eu.1 g];exact⟨⟨df,df,df,df,df⟩,df,hx,df⟩
 have put:∀(i:Nat)(x:Stream),x.2.2.1.length<=n+322->bm (n+322) (.sl fi) (l.set i x):=by intro i x hx;refine⟨?_,λy hy=>?_⟩;show(l.set i x).length<=_;rw[aJ];exact h'.1;rcases List.mem_or_eq_of_mem_set hy with g|rfl;exact h'.2 y g;exact⟨⟨df,df,df,df,df⟩,df,hx,df⟩
 split;cases p.2.2.2.2.2.2.2.2.1==17 with|true=>exact app _ (show(udp p).length<=_ by omega)|false=>cases zA p 2 with|true=>exact app _ (cC _)|false=>exact h'
 ·rename_i i hf;obtain⟨hi,_⟩:=List.findIdx?_eq_some_iff_getElem.1 hf;have hd:(l[i].2.2.1).length<=n:=(h.2 _ (bc hi)).2.2.1;simp only[eO hi];cases p.2.2.2.2.2.2.2.2.1==17 with
  |true=>exact put _ _ (by simp only[ar];omega)
  |false=>
   cases zA p 2;case true=>exact h'
   cases l[i].2.2.2||zA p 4;case true=>exact h'
   cases decide (qx l[i] p<=((body p).length:Int))with|false=>exact h'|true=>exact put _ _ (by simp only[agb,ar,bh];omega)
theorem ER (s:iV)(z:bm 1000000000 lC s):sI s=some s:=by simp only[sI,BS _ z.1.2.2.1,C9 _ z.2.1.1.1 z.2.1.2.1.1 z.2.1.2.2.2.1,ff z.2.2.2.1.1,ff z.2.2.2.2.1,ab,bK]
def TL (s:iV)(x:Bytes):Bool:=DR s&&(((qZ x).2==0)&&(qw s.1 (qZ x).1&&(sQ s.2.1 s.2.2.1 (qZ x).1 != -1)))
def BN (s:iV)(x:Bytes):iV:=bif TL s x then(s.1,s.2.1,s.2.2.1,sU s.2.2.2.1 (qZ x).1,s.2.2.2.2) else s
theorem U7 (s:iV)(x:Bytes)(z:bm 100000000 lC s)(h:x.length<=10^9):rM s x=some (BN s x):=by have z9:bm 1000000000 lC s:=z.mono;unfold rM BN TL;simp only[Ai s z9,Q9 x h,Ol s z9.1.2.2.1 z9.2.1.1.1 z9.2.1.2.1.1 z9.2.1.2.2.2.1,LX s.1 _ z9.1.2.2.1,Re s.2.1 _ _ z9.2.1.1.1 z9.2.1.2.1.1 z9.2.1.2.2.2.1,UZ s.2.2.2.1 _ z.2.2.2.1,ab];cases DR s<;>cases (qZ x).2==0<;>cases qw s.1 (qZ x).1<;>cases sQ s.2.1 s.2.2.1 (qZ x).1 != -1<;>rfl
theorem V7 (s:iV)(x:Bytes)(z:bm 100000000 lC s)(h:x.length<=10^9):sq s x=some (BN s x):=by have z9:bm 1000000000 lC s:=z.mono;unfold sq BN TL;simp only[ER s z9,RQ x h,Pe s z9.1.2.2.1 z9.2.1.1.1 z9.2.1.2.1.1 z9.2.1.2.2.2.1,Mh s.1 _ z9.1.2.2.1,RT s.2.1 _ _ z9.2.1.1.1 z9.2.1.2.1.1 z9.2.1.2.2.2.1,VY s.2.2.2.1 _ z.2.2.2.1,ab];cases DR s<;>cases (qZ x).2==0<;>cases qw s.1 (qZ x).1<;>cases sQ s.2.1 s.2.2.1 (qZ x).1 != -1<;>rfl
theorem Tk {s:iV}{n:Nat}(z:bm n lC s):bm (n+322) lC (BN s x):=by have z':bm (n+322) lC s:=z.mono;unfold BN;cases TL s x with|false=>exact z'|true=>exact⟨z'.1,z'.2.1,df,Jd z.2.2.2.1,z'.2.2.2.2⟩
theorem jg {y:Bytes}{i:Nat}(h:i<x.length):bF (x++y) i=bF x i:=by grind[bF]
theorem uN {y:Bytes}{i:Nat}(h:x.length<=i):bF (x++y) i=bF y (i-x.length):=by grind[bF]
theorem Ue {i n:Nat}(h:i<n):bF (x.take n) i=bF x i:=by grind[bF]
theorem nU {i n:Nat}:bF (x.drop n) i=bF x (n+i):=by grind[bF]
theorem ZR {p:Bytes}{i:Nat}(h:i<a\/a+p.length<=i):bF (wC s (a:Int) p) i=bF s i:=by
 unfold wC fu;by_cases hw:(0:Int)<=a/\(a:Int)+(p.length:Int)<=(s.length:Int)
 rw[ax hw,af,az];have ht:(s.take a).length=a:=by rw[bn];omega
 rcases h with h|h;rw[jg (by rw[ar];omega),jg (by omega),Ue h];rw[uN (by rw[ar];omega),nU,ar,ht];congr 1;omega;rw[aq hw];rfl
theorem ZQ {p:Bytes}{j:Nat}(hw:a+p.length<=s.length)(hj:j<p.length):bF (wC s (a:Int) p) (a+j)=bF p j:=by unfold wC fu;rw[ax ⟨by omega,by omega⟩,af,az];grind[jg,uN]
theorem xp:cp s (a:Int)=bif decide (a+2<=s.length) then((bF s a*256+bF s (a+1):Nat):Int) else-1:=by grind[cp,fu]
theorem Gb (hl:s.length=t.length)(h0:bF s a=bF t a)(h1:bF s (a+1)=bF t (a+1)):cp s (a:Int)=cp t (a:Int):=by grind[xp]
theorem NY {k:Nat}:cp (s.drop k) (a:Int)=cp s ((k+a:Nat):Int):=by rw[xp,xp,nU,nU,bh,show k+(a+1)=k+a+1 by omega,show decide (a+2<=s.length-k)=decide (k+a+2<=s.length) from decide_eq_decide.2 (by omega)]
theorem Hf:eS s (a:Int)=bif decide (a+4<=s.length) then(((bF s a*256+bF s (a+1))*65536+(bF s (a+2)*256+bF s (a+3)):Nat):Int) else-1:=by grind[eS,fu]
theorem NZ {k:Nat}:eS (s.drop k) (a:Int)=eS s ((k+a:Nat):Int):=by rw[Hf,Hf,nU,nU,nU,nU,bh,show k+(a+1)=k+a+1 by omega,show k+(a+2)=k+a+2 by omega,show k+(a+3)=k+a+3 by omega,show decide (a+4<=s.length-k)=decide (k+a+4<=s.length) from decide_eq_decide.2 (by omega)]
theorem UE (hl:s.length=t.length)(h:∀j,j<4->bF s (a+j)=bF t (a+j)):eS s (a:Int)=eS t (a:Int):=by rw[Hf,Hf,hl,show bF s a=bF t a from h 0 (by omega),h 1 (by omega),h 2 (by omega),h 3 (by omega)]
def bW (s:Bytes):Nat:=bif cp s 12==33024 then 18 else 14
def ix (s:Bytes):Nat:=bF s (bW s+9)
def MN (k:Nat):Nat:=bif (k:Int)==6 then 16 else 6
def xa (s:Bytes):Nat:=bW s+10
def rl (s:Bytes):Nat:=bW s+20+MN (ix s)
theorem Hz (k:Nat):MN k=16/\k=6\/MN k=6/\k≠6:=by grind[MN]
theorem I8 (s:Bytes):bW s=18/\(cp s 12==33024)=true\/bW s=14/\(cp s 12==33024)=false:=by grind[bW]
theorem KX (k:Nat)(h:k<256):eV (k:Int)=some (MN k:Int):=by grind[eV,MN]
theorem JG (s:Bytes)(h:s.length<=10^9):qQ s=some ((xa s:Int),(rl s:Int)):=by
 unfold qQ;rw[xt s 12 h,ab];have hk:=eL s (bW s+9)
 have core:∀o:Nat,bW s=o->(o=18\/o=14)->(bif decide (ak ((o:Int)+9)<(s.length:Int)) then
  aa (idx s (ak ((o:Int)+9))) λx2=>aa (eV (ak ((UInt8.toNat x2:Int)))) λr3=>some (ak ((o:Int)+10),ak ((ak ((o:Int)+20))+r3))
  else aa (eV 0) λr4=>some (ak ((o:Int)+10),ak ((ak ((o:Int)+20))+r4)))=some ((xa s:Int),(rl s:Int)):=by
  intro o ho h2
  have hs:=Hz (ix s)
  rw[aj (n:=(o:Int)+9) (by omega) (by omega),aj (n:=(o:Int)+10) (by omega) (by omega),aj (n:=(o:Int)+20) (by omega) (by omega)]
  unfold xa rl
  rw[ho]
  by_cases hl:o+9<s.length
  ·obtain⟨x,hx,ex⟩:=jQ hl
   rw[jo,af,show(o:Int)+9=((o+9:Nat):Int) by omega,hx,ab,ex,fD (by rw[<-ho];omega),KX _ (by rw[<-ho];exact hk),ab,show bF s (o+9)=ix s by unfold ix;rw[ho],aj (by omega) (by omega)]
   congr 1
  ·have hz:ix s=0:=by unfold ix;rw[ho];exact Io
   have h0:eV 0=some (MN 0:Int):=KX 0 (by omega)
   rw[fO,ae,h0,ab,<-hz,aj (by omega) (by omega)]
   congr 1
 rcases I8 s with⟨h1,h2⟩|⟨h1,h2⟩;rw[h2,af];exact core 18 h1 (.inl rfl);rw[h2,ae];exact core 14 h1 (.inr rfl)
theorem Pc (s:Bytes)(h:s.length<=10^9):wW s=some (bif decide (s.length<bW s+46) then(-1, -1) else((xa s:Int),(rl s:Int))):=by
 unfold wW;rw[se s 12 h,ab];have hk:=eL s (bW s+9)
 have core:∀o:Nat,bW s=o->(o=18\/o=14)->(bif decide ((s.length:Int)<ak ((o:Int)+46)) then some ((-1),(-1)) else
  aa (idx s (ak ((o:Int)+9))) λx2=>bif (ak ((UInt8.toNat x2:Int)))==6 then some (ak ((o:Int)+10),ak ((o:Int)+36)) else some (ak ((o:Int)+10),ak ((o:Int)+26)))=some (bif decide (s.length<bW s+46) then(-1, -1) else((xa s:Int),(rl s:Int))):=by
  intro o ho h2
  rw[aj (n:=(o:Int)+9) (by omega) (by omega),aj (n:=(o:Int)+10) (by omega) (by omega),aj (n:=(o:Int)+46) (by omega) (by omega),aj (n:=(o:Int)+36) (by omega) (by omega),aj (n:=(o:Int)+26) (by omega) (by omega),ho]
  by_cases hl:s.length<o+46
  ·rw[ax (show(s.length:Int)<(o:Int)+46 by omega),ax hl];rfl
  ·obtain⟨x,hx,ex⟩:=jQ (s:=s) (i:=o+9)
   rw[aq (show¬(s.length:Int)<(o:Int)+46 by omega),aq hl,ae,ae,show(o:Int)+9=((o+9:Nat):Int) by omega,hx,ab,ex,fD (by rw[<-ho];omega),show bF s (o+9)=ix s by unfold ix;rw[ho]]
   unfold xa rl MN
   rw[ho]
   cases (ix s:Int)==6 with
   |true=>simp only[af];congr 2
   |false=>simp only[ae];congr 2
 rcases I8 s with⟨h1,h2⟩|⟨h1,h2⟩;rw[h2,af];exact core 18 h1 (.inl rfl);rw[h2,ae];exact core 14 h1 (.inr rfl)
theorem ZN {a:Int}(h:dw a 0 281474976710655=true):(WQ a).length=6:=by
 have ha:=bM.1 h;have e:WQ a=bU (fdiv a (2^(rp 32)))++iS (ak (toNat (fE a&&&fE 4294967295))):=by grind[WQ,iA,gM,mz,ab,bu,dz,aQ]
 grind[IntKind.bits,I1,PJ,ad4,bM]
theorem LW (h:dV p=true):bW (eF p).1+46<=(eF p).1.length:=by
 have hh:LP p=true:=by simp only[dV,ah]at h;exact h.1
 have hp:=Te (ipP p).1;have hi:=Dx h;unfold eF afm Uq at hi⊢;rw[h,af]at hi⊢;cases he:Be (p.1,p.2.1,p.2.2.1,2048,pad (ipP p).1)with|false=>rw[he]at hi;cases hi|true=>?_
 simp only[af];simp only[LP,ah]at hh;have m1:=ZN hh.1;have m2:=ZN hh.2.1;have hv:=bM.1 hh.2.2.1;have w1:(bU 33024).length=2:=rfl;have w3:(bU 2048).length=2:=rfl;generalize pad (ipP p).1=bd at hp⊢;unfold QN;simp only;generalize WQ p.1=M1 at m1⊢;generalize WQ p.2.1=M2 at m2⊢;by_cases hc:p.2.2.1>=0;have w2:(bU p.2.2.1).length=2:=by rw[I1,bM.2 (by omega)];rfl
 rw[ax hc,af];have hb:bW (((((M1++M2)++bU 33024)++bU p.2.2.1)++bU 2048)++bd)=18:=by
  unfold bW;have e12:cp (((((M1++M2)++bU 33024)++bU p.2.2.1)++bU 2048)++bd) ((12:Nat):Int)=33024:=by rw[xp,ax (by simp only[ar];omega),af];rw[jg (by simp only[ar];omega),jg (by simp only[ar];omega),jg (by simp only[ar];omega),uN (by simp only[ar];omega)];rw[jg (by simp only[ar];omega),jg (by simp only[ar];omega),jg (by simp only[ar];omega),uN (by simp only[ar];omega)];rw[ar,m1,m2];rfl
  rw[show(12:Int)=((12:Nat):Int) from rfl,e12];rfl
 rw[hb];simp only[ar];omega;rw[aq hc,ae];have hb:bW (((M1++M2)++bU 2048)++bd)=14:=by
  unfold bW;have e12:cp (((M1++M2)++bU 2048)++bd) ((12:Nat):Int)=2048:=by rw[xp,ax (by simp only[ar];omega),af];rw[jg (by simp only[ar];omega),uN (by simp only[ar];omega)];rw[jg (by simp only[ar];omega),uN (by simp only[ar];omega)];rw[ar,m1,m2];rfl
  rw[show(12:Int)=((12:Nat):Int) from rfl,e12];rfl
 rw[hb];simp only[ar];omega
def qb (t:Bytes)(x y:Bytes):Bytes:=wC (wC t (xa t:Int) x) (rl t:Int) y
theorem CN (t x y:Bytes):(qb t x y).length=t.length:=by grind[qb,zg]
def iC (p:aR):Bytes×Bool:=bif dV p then(qb (eF p).1 (bU 0) (bU 0),true) else([],false)
theorem UU (h:dV p=false):eF p=([],false):=by grind[eF]
theorem Rh (p:aR):ml p=some (iC p):=by have hl:=xr p;have w0:=bu 0;unfold ml iC qb;rw[Hi,ab];cases h:dV p with|false=>rw[UU h];rfl|true=>rw[Dx h];simp only[ai,ae,af,JG _ (show(eF p).1.length<=10^9 by omega),ab,kD,Ef _ _ _ (show(eF p).1.length<=10^9 by omega) (show(bU 0).length<=10^9 by omega),Ef _ _ _ (show(wC (eF p).1 (xa (eF p).1:Int) (bU 0)).length<=10^9 by rw[zg];omega) (show(bU 0).length<=10^9 by omega)]
theorem RV (p:aR):mC p=some (iC p):=by have hl:=xr p;unfold mC iC qb;rw[Hu,ab];cases h:dV p with|false=>rw[UU h];rfl|true=>grind[LW,Dx,Pc,ab,gM,EV,bU,zg]
def Fb (s t:Bytes):Prop:=s.length=t.length/\∀i,i<xa t\/(xa t+2<=i/\i<rl t)\/rl t+2<=i->bF s i=bF t i
theorem ze (t:Bytes):(bW t=14\/bW t=18)/\xa t=bW t+10/\bW t+26<=rl t/\rl t<=bW t+36/\(rl t=bW t+36/\ix t=6\/rl t=bW t+26/\ix t≠6):=by grind[I8,Hz,xa,rl]
theorem H6 (t:Bytes){y:Bytes}(hx:x.length<=2)(hy:y.length<=2):Fb (qb t x y) t:=by have:=ze t;refine⟨CN t x y,λi hi=>?_⟩;grind[qb,ZR]
theorem Fb.body (h:Fb s t):bW s=bW t:=by have:=ze t;unfold bW;have e:cp s ((12:Nat):Int)=cp t ((12:Nat):Int):=Gb h.1 (h.2 _ (by omega)) (h.2 _ (by omega));grind
theorem Fb.kind (h:Fb s t):ix s=ix t:=by have:=ze t;unfold ix;rw[h.body,h.2 _ (by omega)]
theorem Fb.ahw (h:Fb s t):xa s=xa t/\rl s=rl t:=by unfold xa rl;rw[h.body,h.kind];exact⟨rfl,rfl⟩
theorem Fb.ait (h:Fb s t):cp s ((bW t+2:Nat):Int)=cp t ((bW t+2:Nat):Int):=by have:=ze t;exact Gb h.1 (h.2 _ (by omega)) (h.2 _ (by omega))
structure TOk (t:Bytes):Prop where
 eth:(fC t).2=true
 bd:(fC t).1.2.2.2.2=t.drop (bW t)
 l1:bW t+46<=t.length
 n1:20+MN (ix t)+2<=cp t ((bW t+2:Nat):Int)
 n2:cp t ((bW t+2:Nat):Int)<=(t.length:Int)-(bW t:Int)
theorem Lf (h:(fC s).2=true):(fC s).1.2.2.2.2=s.drop (bW s)/\18<=s.length/\46<=s.length-bW s/\s.length-bW s<=400:=by
 unfold fC at h⊢;by_cases h8:(s.length:Int)<18;rw[ax h8]at h;cases h;rw[aq h8]at h⊢;simp only[ae]at h⊢;rcases I8 s with⟨h1,h2⟩|⟨h1,h2⟩;rw[h2]at h⊢;simp only[af]at h⊢;cases he:Be (NG s)with|false=>rw[he]at h;cases h|true=>rw[h1];simp only[Be,ah,bM,NG,bh]at he;simp only[af,NG];refine⟨df,by omega,by omega,by omega⟩
 rw[h2]at h⊢;simp only[ae]at h⊢;cases he:Be (Dm s)with|false=>rw[he]at h;cases h|true=>rw[h1];simp only[Be,ah,bM,Dm,bh]at he;simp only[af,Dm];refine⟨df,by omega,by omega,by omega⟩
theorem aeo (h:(vh s).2=0):(fC s).2=true/\(lS (fC s).1.2.2.2.2).2=true/\dV (vh s).1=true/\ (tE (lS (fC s).1.2.2.2.2).1.2.2.2.2.1 (lS (fC s).1.2.2.2.2).1.2.2.2.2.2.1 (lS (fC s).1.2.2.2.2).1.2.2.2.1 (lS (fC s).1.2.2.2.2).1.2.2.2.2.2.2).2=true:=by grind[vh]
theorem aej {b:Bytes}(h:(lS b).2=true):20<=cp b 2/\cp b 2<=(b.length:Int)/\(lS b).1=IK b:=by grind[lS]
theorem abM {a b k:Int}(h:(tE a b k s).2=true):k=6/\20<=s.length\/k=17/\8<=s.length:=by grind[tE]
theorem aaA (hl:s.length=t.length)(h:∀i,i<18->bF s i=bF t i)(hs:(fC s).2=true):(fC t).2=true:=by
 have g16:∀a,a+2<=18->cp s ((a:Nat):Int)=cp t ((a:Nat):Int):=λa ha=>Gb hl (h _ (by omega)) (h _ (by omega));have g32:∀a,a+4<=18->eS s ((a:Nat):Int)=eS t ((a:Nat):Int):=λa ha=>UE hl (λj hj=>h _ (by omega));have e0:H0 s 0=H0 t 0:=by unfold H0;rw[show(0:Int)=((0:Nat):Int) from rfl,g16 0 (by omega),show((0:Nat):Int)+2=((2:Nat):Int) from rfl,g32 2 (by omega)]
 have e6:H0 s 6=H0 t 6:=by unfold H0;rw[show(6:Int)=((6:Nat):Int) from rfl,g16 6 (by omega),show((6:Nat):Int)+2=((8:Nat):Int) from rfl,g32 8 (by omega)]
 grind[cp,Be,NG,Dm,fC]
theorem ahG (ha:Fb s t)(h:(vh s).2=0):TOk t:=by
 have hp:=ze t;obtain⟨h1,h2,_,h4⟩:=aeo h;have he:=Lf h1;rw[he.1]at h2 h4;have hi:=aej h2;have hs:=abM h4;rw[hi.2.2]at hs;have e1:(fC t).2=true:=aaA ha.1 (λi hi=>ha.2 i (by omega)) h1;have e2:=Lf e1;have en:cp (s.drop (bW s)) 2=cp t ((bW t+2:Nat):Int):=by have:cp (s.drop (bW s)) ((2:Nat):Int)=cp s ((bW s+2:Nat):Int):=NY;rw[show(2:Int)=((2:Nat):Int) from rfl,this,ha.body,ha.ait]
 have ek:(IK (s.drop (bW s))).2.2.2.1=(ix t:Int):=by show(bF (s.drop (bW s)) 9:Int)=_;rw[nU,<-ha.kind];rfl
 have eg:(IK (s.drop (bW s))).2.2.2.2.2.2.length=(cp t ((bW t+2:Nat):Int)).toNat-20:=by show(((s.drop (bW s)).take (cp (s.drop (bW s)) 2).toNat).drop 20).length=_;grind
 rw[ek,eg]at hs;rw[en]at hi;have hn:=hi.2.1;rw[bh,ha.1,ha.body]at hn;have hk:=Hz (ix t);exact⟨e1,e2.1,by omega,by omega,by omega⟩
theorem acn (h:(iC p).1=t)(hs:dV p=true)(ht:TOk t):cp t (xa t:Int)=0/\cp t (rl t:Int)=0:=by
 unfold iC at h;rw[hs]at h;simp only[af]at h;have w0:(bU 0).length=2:=rfl;have ha:Fb (qb (eF p).1 (bU 0) (bU 0)) (eF p).1:=H6 _ (by omega) (by omega);rw[h]at ha;have hp:=ze t;have B9:=ha.ahw;have hl:=ht.l1;have zH:=ha.1;have DW:=ht.n1;have B8:=ht.n2;have hk:=Hz (ix t);have hB:rl t+2<=t.length:=by omega
 have b0:bF (bU 0) 0=0:=rfl;have b1:bF (bU 0) 1=0:=rfl;rw[xp,xp,jo,ax hB,af,af];have eB:∀j,j<2->bF t (rl t+j)=bF (bU 0) j:=by intro j hj;rw[<-h];unfold qb;rw[show rl (wC (wC (eF p).1 (xa (eF p).1:Int) (bU 0)) (rl (eF p).1:Int) (bU 0))=rl (eF p).1 from by have:=B9.2;rw[<-h]at this;exact this];simp_all[ZQ,zg]
 have eA:∀j,j<2->bF t (xa t+j)=bF (bU 0) j:=by intro j hj;rw[<-h];unfold qb;rw[show xa (wC (wC (eF p).1 (xa (eF p).1:Int) (bU 0)) (rl (eF p).1:Int) (bU 0))=xa (eF p).1 from by have:=B9.1;rw[<-h]at this;exact this];simp(disch:=omega)[ZR,ZQ]
 grind
theorem Nx (s:Bytes):aM (dc s)=s:=by simp_all[aM,dc,List.map_congr_left]
theorem adT (s t:Bytes):dc (s++t)=dc s++dc t:=List.map_append
theorem JM (s:Bytes):(dc s).length=s.length:=cj ..
theorem M9 (l:au α)(i j:Nat)(h:i<=j)(h2:j<=l.length):sub l (i:Int) (j:Int)=some ((l.drop i).take (j-i)):=by grind[sub,List.take_drop]
theorem aad (a k:Nat):Int.tdiv (a:Int) (k:Int)=((a/k:Nat):Int):=(Int.ofNat_tdiv a k).symm
theorem Wp (a k:Nat):tmod (a:Int) (k:Int)=((a%k:Nat):Int):=(Int.ofNat_tmod a k).symm
theorem mem_iff:gx m=true↔(∀x∈m,x.length=128)/\m.length<=64:=by grind[gx]
theorem Uy:∀{m:bw},(∀x∈m,x.length=128)->m.flatten.length=128*m.length
 |[],_=>rfl
 |x::m,h=>by have:=Uy (m:=m) (λy hy=>h y (by simp[hy]));grind
theorem QU:∀{m:bw}(_:∀x∈m,x.length=128)(p:Nat)(hp:p<m.length)(o c:Nat),o+c<=128->(m.flatten.drop (128*p+o)).take c=(m[p].drop o).take c
 |x::m,h,0,hp,o,c,ho=>by grind
 |x::m,h,p+1,hp,o,c,ho=>by have hx:=h x (by simp);simp only[List.flatten_cons,List.getElem_cons_succ];rw[show 128*(p+1)+o=x.length+(128*p+o) by omega,List.drop_length_add_append];exact QU (m:=m) (λy hy=>h y (by simp[hy])) p (by simpa using hp) o c ho
def Aa (m:bw)(a n:Nat):Bytes:=(m.flatten.drop a).take n
theorem DL {n:Nat}(h:gx m=true)(hn:a+n<=128*m.length):(Aa m a n).length=n:=by have:=Uy (mem_iff.1 h).1;grind[Aa]
theorem aep (m:bw)(a n:Nat):(Aa m a n).length<=n:=by simp[Aa];omega
theorem RD (m:bw)(a k c:Nat):Aa m a (k+c)=Aa m a k++Aa m (a+k) c:=by grind[Aa,dJ]
theorem OX (h:gx m=true){p:Nat}(hp:p<m.length){o:Nat}(ho:o+c<=128)(ha:a=128*p+o):(m[p].drop o).take c=Aa m a c:=by subst ha;exact(QU (mem_iff.1 h).1 p hp o c ho).symm
def gj (m:bw)(a n:Int):Bool:=gx m&&decide (0<=n/\0<=a/\a+n<=128*(m.length:Int))
theorem Gr (m:bw)(a n:Int)(h:m.length<=10^9):uW m a n=some (gj m a n):=by unfold uW gj;rw[IH m h,ab,aj (n:=(m.length:Int)*128) (by omega) (by omega)];cases hm:gx m with|false=>rfl|true=>simp only[af,bt];by_cases h1:n>=0;by_cases h2:n<=(m.length:Int)*128;rw[aj (n:=(m.length:Int)*128-n) (by omega) (by omega)];by_cases h3:a>=0;simp only[ax h1,ax h2,ax h3,af,ab];exact congrArg some (decide_eq_decide.2 (by omega));simp only[ax h1,ax h2,aq h3,af,ae,ab];exact congrArg some (fO).symm;simp only[ax h1,aq h2,af,ae,ab];exact congrArg some (fO).symm;simp only[aq h1,ae,ab];exact congrArg some (fO).symm
theorem GO (m:bw)(a n:Int)(h:m.length<=10^9):kQ m a n=some (gj m a n):=by unfold kQ gj;rw[ES m h,ab,aj (n:=128*(m.length:Int)) (by omega) (by omega)];cases hm:gx m with|false=>rfl|true=>simp only[af,bt];by_cases h1:n>=0;by_cases h3:a>=0;by_cases h2:a<=128*(m.length:Int);rw[aj (n:=128*(m.length:Int)-a) (by omega) (by omega)];simp only[ax h1,ax h2,ax h3,af,ab];exact congrArg some (decide_eq_decide.2 (by omega));simp only[ax h1,aq h2,ax h3,af,ae,ab];exact congrArg some (fO).symm;simp only[ax h1,aq h3,af,ae,ab];exact congrArg some (fO).symm;simp only[aq h1,ae,ab];exact congrArg some (fO).symm
theorem JE (hm:gx m=true)(K:Int->dR->aw R):∀(n r k a f:Nat),r<=n->n<f->a+k+r<=128*m.length->
 aL (kG K ((k+r:Nat):Int) m) f (((a+k:Nat):Int),dc (Aa m a k))=K ((a+k+r:Nat):Int) (dc (Aa m a (k+r)))
 |n,r,k,a,0,_,hf,_=>by omega
 |n,0,k,a,f+1,hr,hf,hb=>by grind[aL,kG,JM,DL]
 |0,r+1,k,a,f+1,hr,hf,hb=>by omega
 |n+1,r+1,k,a,f+1,hr,hf,hb=>by
  have h64:=(mem_iff.1 hm).2;have hl:=DL hm (show a+k<=128*m.length by omega);obtain⟨p,hp⟩:∃p,(a+k)/128=p:=⟨_,rfl⟩
  obtain⟨o,ho⟩:∃o,(a+k)%128=o:=⟨_,rfl⟩
  have hpo:a+k=128*p+o:=by omega
  have ho2:o<128:=by omega
  have B9:p<m.length:=by omega
  obtain⟨c,hc⟩:∃c,min (r+1) (128-o)=c:=⟨_,rfl⟩
  have hpg:=(mem_iff.1 hm).1 _ (bc B9);have e1:Int.tdiv ((a+k:Nat):Int) 128=(p:Int):=by grind
  have e2:tmod ((a+k:Nat):Int) 128=(o:Int):=by grind
  have key:=JE hm K n (r+1-c) (k+c) a f (by omega) (by omega) (by omega);rw[aL];simp only[kG,JM,hl,e1,e2];rw[jo,af,mG,aj (n:=(p:Int)) (by omega) (by omega),aU B9,ab,mG];rw[aj (n:=(o:Int)+((k+(r+1):Nat):Int)) (by omega) (by omega),aj (n:=(o:Int)+((k+(r+1):Nat):Int)-(k:Int)) (by omega) (by omega)];rw[show(if(o:Int)+((k+(r+1):Nat):Int)-(k:Int)<128 then(o:Int)+((k+(r+1):Nat):Int)-(k:Int) else 128)=((o+c:Nat):Int) by split<;>omega];rw[M9 _ _ _ (by omega) (by omega),ab,show o+c-o=c by omega,OX hm B9 (show o+c<=128 by omega) hpo];have zH:=DL hm (show a+k+c<=128*m.length by omega);rw[zH,aQ (by omega),aj (by omega) (by omega),<-adT,<-RD];grind
theorem adO (m:bw)(a n:Int)(h:m.length<=10^9):oQ m a n=some (bif gj m a n then(Aa m a.toNat n.toNat,true) else([],false)):=by have vC:=cE;unfold oQ;rw[Gr m a n h,ab];cases hw:gj m a n with|false=>rfl|true=>simp only[gj,ah,bD]at hw;obtain⟨hm,h1,h2,h3⟩:=hw;have h64:=(mem_iff.1 hm).2;simp only[ai,ae,af];rw[zip,aQ (by omega)];obtain⟨a,rfl⟩:=aG h2;obtain⟨n,rfl⟩:=aG h1;have:=JE hm (λ(y4:Int) (y5:dR)=>some (aM y5,true)) n n 0 a fuel (by omega) (by omega) (by omega);rw[cc,dC]at this;refine Eq.trans this ?_;simp only[Nx,az]
theorem Ki (hm:gx m=true)(K:Int->Int->Bytes->aw R):∀(n r k a f:Nat),r<=n->n<f->a+k+r<=128*m.length->
 aL (oH K m) f (((a+k:Nat):Int),(r:Int),Aa m a k)=K ((a+k+r:Nat):Int) 0 (Aa m a (k+r))
 |n,r,k,a,0,_,hf,_=>by omega
 |n,0,k,a,f+1,hr,hf,hb=>by rfl
 |0,r+1,k,a,f+1,hr,hf,hb=>by omega
 |n+1,r+1,k,a,f+1,hr,hf,hb=>by
  have h64:=(mem_iff.1 hm).2;have hl:=DL hm (show a+k<=128*m.length by omega);obtain⟨p,hp⟩:∃p,(a+k)/128=p:=⟨_,rfl⟩
  obtain⟨o,ho⟩:∃o,(a+k)%128=o:=⟨_,rfl⟩
  have hpo:a+k=128*p+o:=by omega
  have ho2:o<128:=by omega
  have B9:p<m.length:=by omega
  obtain⟨c,hc⟩:∃c,min (r+1) (128-o)=c:=⟨_,rfl⟩
  have hpg:=(mem_iff.1 hm).1 _ (bc B9);have e1:Int.tdiv ((a+k:Nat):Int) 128=(p:Int):=by grind
  have e2:tmod ((a+k:Nat):Int) 128=(o:Int):=by grind
  have key:=Ki hm K n (r+1-c) (k+c) a f (by omega) (by omega) (by omega);rw[aL];simp only[oH,e1,e2];rw[jo,af,mG,mG,aj (n:=(p:Int)) (by omega) (by omega),aU B9,ab];rw[aj (n:=128-(o:Int)) (by omega) (by omega)];rw[show(if 128-(o:Int)<((r+1:Nat):Int) then 128-(o:Int) else((r+1:Nat):Int))=(c:Int) by split<;>omega];rw[aj (n:=(o:Int)+(c:Int)) (by omega) (by omega),show(o:Int)+(c:Int)=((o+c:Nat):Int) by omega];rw[M9 _ _ _ (by omega) (by omega),ab,show o+c-o=c by omega,OX hm B9 (show o+c<=128 by omega) hpo];have zH:=DL hm (show a+k+c<=128*m.length by omega);rw[zH,hl,aQ (by omega),aj (n:=((a+k:Nat):Int)+(c:Int)) (by omega) (by omega),aj (n:=((r+1:Nat):Int)-(c:Int)) (by omega) (by omega),<-RD];grind
theorem aeH (m:bw)(a n:Int)(h:m.length<=10^9):pa m a n=some (bif gj m a n then(Aa m a.toNat n.toNat,true) else([],false)):=by have vC:=cE;unfold pa;rw[GO m a n h,ab];cases hw:gj m a n with|false=>rfl|true=>simp only[gj,ah,bD]at hw;obtain⟨hm,h1,h2,h3⟩:=hw;have h64:=(mem_iff.1 hm).2;simp only[ai,ae,af];obtain⟨a,rfl⟩:=aG h2;obtain⟨n,rfl⟩:=aG h1;have:=Ki hm (λ(y4:Int) (y5:Int) (y6:Bytes)=>some (y6,true)) n n 0 a fuel (by omega) (by omega) (by omega);rw[cc,dC]at this;exact this
end
end Go.Pu
