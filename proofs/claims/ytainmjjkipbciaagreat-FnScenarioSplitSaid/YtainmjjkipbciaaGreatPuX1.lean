import Derived.Test.YtainmjjkipbciaaGreatDnData
import Derived.Test.YtainmjjkipbciaaGreatPure
namespace Go.Pu
open Go.Dn
open List (range)
open BitVec (toNat)
open Int (fdiv tmod)
set_option linter.unusedSimpArgs false
set_option linter.unusedVariables false
noncomputable section
variable {b s t x:Bytes} {h:Host} {f:Int->ax Int} {a i n:Nat} {p:aO} {R X α σ:Type} {l:aw aA} {m:ca}
/- Plain laws of the partial operations and of loops. -/
theorem ak {n:Int}(h1: -9223372036854775808<=n:=by omega)(h2:n<=9223372036854775807:=by omega):aq n=n:=by simp only[aq,fU,IntKind.wrap,IntKind.bits,IntKind.signed];simp;omega
@[simp] theorem ab (a:α)(k:α->ax R):aa (some a) k=k a:=rfl
@[simp] theorem ahi (k:α->ax R):aa none k=none:=rfl
@[simp] theorem Bs (c:Bool)(x y:α)(k:α->ax R):aa (cond c (some x) (some y)) k=k (cond c x y):=by cases c<;>rfl
theorem bL (c:Bool)(x y:α):cond c (some x) (some y)=some (cond c x y):=by cases c<;>rfl
theorem aS {k:ax R}(h:n<=1073741824:=by omega):room n k=k:=by simp[room,h]
theorem Py (xs:aw α)(i:Nat):idx xs (i:Int)=xs[i]?:=rfl
theorem bn {xs:aw α}(h:i<xs.length):idx xs (i:Int)=some xs[i]:=by rw[Py];exact al h
def upK (step:Nat->σ->(σ->ax R)->ax R)(fin:σ->ax R)(N:Nat):Nat->Nat->σ->ax R
 |0,_,s=>fin s
 |n+1,i,s=>step i s (λs'=>upK step fin N n (i+1) s')
theorem FF {T:(X->ax R)->X->ax R}(N:Nat)(e:σ->Nat->X)(step:Nat->σ->(σ->ax R)->ax R)(fin:σ->ax R)(hs:∀i s nx,i<N->T nx (e s i)=step i s (λs'=>nx (e s' (i+1))))(hf:∀s nx,T nx (e s N)=fin s): ∀n i s,i<=N->N-i<n->bc T n (e s i)=upK step fin N (N-i) i s:=by
 intro n;induction n with
 |zero=>intro i s _ h;omega
 |succ n ih=>
  intro i s hi hn;rw[bc];rcases cf i N with gW|yt;rw[hs i s _ gW,show N-i=(N-(i+1))+1 by omega,upK];congr 1;funext s';exact ih (i+1) s' (by omega) (by omega);have:i=N:=by omega
  subst this;rw[hf,kQ,upK]
def Bv (step:α->σ->(σ->ax R)->ax R)(fin:σ->ax R):aw α->σ->ax R
 |[],s=>fin s
 |x::xs,s=>step x s (Bv step fin xs)
theorem De {T:(X->ax R)->X->ax R}(xs:aw α)(e:σ->Nat->X)(step:α->σ->(σ->ax R)->ax R)(fin:σ->ax R)(hs:∀i (h:i<xs.length) s nx,T nx (e s i)=step xs[i] s (λs'=>nx (e s' (i+1))))(hf:∀s nx,T nx (e s xs.length)=fin s): ∀n i s,i<=xs.length->xs.length-i<n->bc T n (e s i)=Bv step fin (xs.drop i) s:=by
 intro n;induction n with
 |zero=>intro i s _ h;omega
 |succ n ih=>
  intro i s hi hn;rw[bc];rcases cf i xs.length with gW|yt;rw[hs i gW s _,cd gW,Bv];congr 1;funext s';exact ih (i+1) s' (by omega) (by omega);have:i=xs.length:=by omega
  subst this;rw[hf,List.drop_length,Bv]
def T7:(t:CT)->t.D->Nat
 | .int _,_=>0
 | .bool,_=>0
 | .str,s=>s.length
 | .sl e,xs=>xs.length+(xs.map (T7 e)).sum
 | .pair a b,x=>T7 a x.1+T7 b x.2
def cY (n:Nat):(t:CT)->t.D->Prop
 | .int _,_=>True
 | .bool,_=>True
 | .str,s=>s.length<=n
 | .sl e,xs=>xs.length<=n/\∀x∈xs,cY n e x
 | .pair a b,x=>cY n a x.1/\cY n b x.2
theorem KP (f:α->Nat):∀(xs:aw α)(x:α),x∈xs->f x<=(xs.map f).sum
 |y::ys,x,h=>by rcases cm.1 h with rfl|h;simp;have:=KP f ys x h;simp;omega
theorem I3:∀{t:CT}{x:t.D},T7 t x<=n->cY n t x
 | .int _,_,_=>trivial
 | .bool,_,_=>trivial
 | .str,_,h=>h
 | .sl e,xs,h=>by simp only[T7]at h;exact⟨by omega,λx hx=>I3 (by have:=KP (T7 e) xs x hx;omega)⟩
 | .pair a b,x,h=>by simp only[T7]at h;exact⟨I3 (by omega),I3 (by omega)⟩
theorem cY.mono {m:Nat}(h:n<=m:=by omega):∀{t:CT}{x:t.D},cY n t x->cY m t x
 | .int _,_,_=>trivial
 | .bool,_,_=>trivial
 | .str,_,k=>bA k h
 | .sl _,_,k=>⟨bA k.1 h,λx hx=>cY.mono h (k.2 x hx)⟩
 | .pair _ _,_,k=>⟨cY.mono h k.1,cY.mono h k.2⟩
def XW:(t:CT)->t.D->Prop
 | .int k,n=>k.min<=n/\n<=k.max
 | .bool,_=>True
 | .str,s=>s.length<=9223372036854775807
 | .sl e,xs=>xs.length<=9223372036854775807/\∀x∈xs,XW e x
 | .pair a b,x=>XW a x.1/\XW b x.2
def kt (l n:Int):Int:=if n<=l then l-n else-1
def I4 (f:α->Int->ax Int)(k0:Int->Int->ax R)(k1:Int->Int->Int->ax R)(v0:aw α)(nx:Int×Int->ax R)(x:Int×Int):ax R:=
 cond (decide (x.2<((List.length v0:Int)))) (
  aa (idx v0 x.2) λx1=>
  aa (f x1 x.1) λr2=>
  cond (decide (r2<0)) (
   k1 r2 (-1) x.2) (
   nx (r2,aq (x.2+1)))) (
  k0 x.1 x.2)
noncomputable def Qu (f:α->Int->ax Int)(a0:aw α)(a1:Int):ax Int:=
 cond (decide ((aq (a1-((List.length a0:Int))))<0)) (
  some (-1)) (
  bc (I4 f (λy3 _=>some y3) (λ_ y6 _=>some y6) a0) fuel (aq (a1-((List.length a0:Int))),0))
theorem Wn {f:α->Int->ax Int}{s:α->Nat}{a:aw α}{l:Int}(h0:0<=l)(h1:l<=1048576)(hm:a.length<=9223372036854775807)(hf:∀x∈a,∀l:Int,0<=l->l<=1048576->∃r,f x l=some r/\((s x:Int)<=l->r=l-s x)/\(¬(s x:Int)<=l->r<0)):Qu f a l=some (kt l ((a.length+(a.map s).sum:Nat):Int)):=by
 unfold Qu;have Bx:=ee;rw[ak];rcases Int.lt_or_le (l-a.length) 0 with arT|YC;rw[au arT];simp only[ah,kt];rw[lR];rw[jj];simp only[af];have key:=De (T:=I4 f (λy3 _=>some y3) (λ_ y6 _=>some y6) a) a (λ(q:Int) i=>(q,(i:Int))) (λx q k=>aa (f x q) λr=>cond (decide (r<0)) (some (-1)) (k r)) (λq=>some q) (λi hi q nx=>by simp only[I4];rw[kK];simp only[ah,bn hi,ab];rw[ak];rfl) (λq nx=>by simp only[I4];rw[jj];rfl) fuel 0 (l-a.length) (by omega) (by omega);have e:((0:Nat):Int)=0:=rfl;rw[e,eV]at key;rw[key];have main:∀(b:aw α)(q:Int),0<=q->q<=1048576->(∀x∈b,x∈a)->Bv (λx q k=>aa (f x q) λr=>cond (decide (r<0)) (some (-1)) (k r)) (λq=>some q) b q=some (kt q ((b.map s).sum:Nat)):=by intro b;induction b with|nil=>intro q hq _ _;simp[Bv,kt,hq]|cons x b ih=>intro q hq hq2 hb;obtain⟨r,hr,hr1,L9⟩:=hf x (hb x (by simp)) q hq hq2;rw[Bv,hr,ab];by_cases hle:(s x:Int)<=q;have:=hr1 hle;subst this;rw[jj];simp only[af];rw[ih _ (by omega) (by omega) (λy hy=>hb y (by simp[hy]))];simp only[kt,cR,List.sum_cons];congr 1;split<;>split<;>omega;rw[au (L9 hle)];simp only[ah,kt,cR,List.sum_cons];rw[lR]
 rw[main a _ (by omega) (by omega) (λx h=>h)];simp only[kt];congr 1;split<;>split<;>omega
def ze (f:Int->ax Int)(n:Nat):Prop:=∀l:Int,0<=l->l<=1048576->f l=some (kt l n)
theorem ze.nil:ze (λl=>some l) 0:=λl h0 _=>by simp[kt,h0]
theorem ze.len {m:Nat}(hn:n<=9223372036854775807){k:Int->ax Int}(h:ze k m): ze (λl=>cond (decide (aq (l-(n:Int))<0)) (some (-1)) (k (aq (l-(n:Int))))) (n+m):=by intro l h0 h1;simp only;rw[ak];by_cases hl:l-(n:Int)<0;rw[au hl];simp only[ah,kt];rw[lR];rw[ar hl];simp only[af];rw[h _ (by omega) (by omega)];simp only[kt];congr 1;split<;>split<;>omega
theorem ze.sub {k:Int->ax Int}{m:Nat}(hf:ze f n)(h:ze k m):ze (λl=>aa (f l) λr=>cond (decide (r<0)) (some (-1)) (k r)) (n+m):=by
 intro l h0 h1;simp only;rw[hf l h0 h1,ab];by_cases hl:(n:Int)<=l;have e:kt l n=l-n:=by simp[kt,hl]
 rw[e,jj];simp only[af];rw[h _ (by omega) (by omega)];simp only[kt];congr 1;split<;>split<;>omega;have e:kt l n= -1:=by simp[kt,hl]
 rw[e];simp only[kt];rw[lR];rfl
theorem ze.cast {m:Nat}(h:ze f n)(e:n=m):ze f m:=e▸h
theorem ze.list {f:α->Int->ax Int}{s:α->Nat}{a:aw α}(hm:a.length<=9223372036854775807)(hf:∀x∈a,ze (f x) (s x)):ze (Qu f a) (a.length+(a.map s).sum):=λ_ h0 h1=>Wn h0 h1 hm (λx hx l h0 h1=>⟨_,hf x hx l h0 h1,λh=>by simp[kt,h],λh=>by simp[kt,h]⟩)
theorem ze.flat (hn:n<=9223372036854775807):ze (λl=>cond (decide (aq (l-(n:Int))<0)) (some (-1)) (some (aq (l-(n:Int))))) n:=(ze.len (n:=n) hn ze.nil).cast (by omega)
theorem ze.use (hf:ze f n){l:Int}(h0:0<=l)(h1:l<=1048576){k:Int->ax Bool}(hk:(n:Int)<=l->k (l-n)=some true): (aa (f l) λr=>cond (decide (r<0)) (some true) (k r))=some true:=by
 rw[hf l h0 h1,ab];by_cases hl:(n:Int)<=l;have e:kt l n=l-n:=by simp[kt,hl]
 rw[e,jj];exact hk hl;have e:kt l n= -1:=by simp[kt,hl]
 rw[e];rfl
theorem I9 {T:(Int->ax R)->Int->ax R}{fin hit:ax R}(p:α->Bool)(a:aw α)(h:a.length<=1000000000000)(hs:∀i (hi:i<a.length) nx,T nx (i:Int)=cond (p a[i]) hit (nx ((i+1:Nat):Int)))(hf:∀nx,T nx (a.length:Int)=fin): bc T fuel 0=cond (a.any p) hit fin:=by
 have Bx:=ee;have key:∀n i,i<=a.length->a.length-i<n->bc T n (i:Int)=cond ((a.drop i).any p) hit fin:=by
  intro n;induction n with
  |zero=>intro i _ h;omega
  |succ n ih=>
   intro i hi hn;rw[bc];rcases cf i a.length with gW|yt;rw[hs i gW,cd gW,List.any_cons];cases hq:p a[i]with|true=>rfl|false=>exact ih (i+1) (by omega) (by omega)
   have:i=a.length:=by omega
   subst this;rw[hf,List.drop_length];rfl
 exact key fuel 0 (by omega) (by omega)
theorem ot {T:(Int->ax R)->Int->ax R}{fin hit:ax R}(p:Nat->Bool)(N:Nat)(h:N<=1000000000000)(hs:∀i nx,i<N->T nx (i:Int)=cond (!(p i)) hit (nx ((i+1:Nat):Int)))(hf:∀nx,T nx (N:Int)=fin): bc T fuel 0=cond ((range N).all p) fin hit:=by
 have Bx:=ee;have key:∀n i,i<=N->N-i<n->bc T n (i:Int)=cond ((List.range' i (N-i)).all p) fin hit:=by
  intro n;induction n with
  |zero=>intro i _ h;omega
  |succ n ih=>
   intro i hi hn;rw[bc];rcases cf i N with gW|yt;rw[hs i _ gW,show N-i=(N-(i+1))+1 by omega,List.range'_succ,cc];cases hq:p i with|false=>rfl|true=>exact ih (i+1) (by omega) (by omega)
   have:i=N:=by omega
   subst this;rw[hf,kQ];rfl
 have:=key fuel 0 (by omega) (by omega);rw[Nat.sub_zero,<-List.range_eq_range']at this;exact this
theorem oq {T:(Int->ax R)->Int->ax R}{fin hit:ax R}(p:α->Bool)(a:aw α)(h:a.length<=1000000000000)(hs:∀i (hi:i<a.length) nx,T nx (i:Int)=cond (!(p a[i])) hit (nx ((i+1:Nat):Int)))(hf:∀nx,T nx (a.length:Int)=fin): bc T fuel 0=cond (a.all p) fin hit:=by
 have:=I9 (T:=T) (fin:=fin) (hit:=hit) (λx=> !(p x)) a h hs hf;rw[this];have e:a.any (λx=> !(p x))= !(a.all p):=by rw[cB];simp
 rw[e];cases a.all p<;>rfl
theorem ME {T:(X->ax R)->X->ax R}{fin hit:ax R}(e:Nat->X)(p:Nat->Bool)(N:Nat)(h:N<=1000000000000)(hs:∀i nx,i<N->(∀j,j<i->p j=true)->T nx (e i)=cond (!(p i)) hit (nx (e (i+1))))(hf:(∀j,j<N->p j=true)->∀nx,T nx (e N)=fin): bc T fuel (e 0)=cond ((range N).all p) fin hit:=by
 have Bx:=ee;have key:∀n i,i<=N->N-i<n->(∀j,j<i->p j=true)->bc T n (e i)=cond ((List.range' i (N-i)).all p) fin hit:=by
  intro n;induction n with
  |zero=>intro i _ h;omega
  |succ n ih=>
   intro i hi hn hp;rw[bc];rcases cf i N with gW|yt;rw[hs i _ gW hp,show N-i=(N-(i+1))+1 by omega,List.range'_succ,cc];cases hq:p i with|false=>rfl|true=>refine ih (i+1) (by omega) (by omega) λj hj=>?_;by_cases hji:j=i;rw[hji];exact hq;exact hp j (by omega)
   have:i=N:=by omega
   subst this;rw[hf hp,kQ];rfl
 have:=key fuel 0 (by omega) (by omega) (λj hj=>absurd hj (by omega));rw[Nat.sub_zero,<-List.range_eq_range']at this;exact this
theorem C1 {T:(Int->ax R)->Int->ax R}{fin:ax R}{hit:Int->ax R}(p:α->Bool)(a:aw α)(h:a.length<=1000000000000)(hs:∀i (hi:i<a.length) nx,T nx (i:Int)=cond (p a[i]) (hit (i:Int)) (nx ((i+1:Nat):Int)))(hf:∀nx,T nx (a.length:Int)=fin): bc T fuel 0=(match a.findIdx? p with|some i=>hit (i:Int)|none=>fin):=by
 have Bx:=ee;have key:∀n i,i<=a.length->a.length-i<n->bc T n (i:Int)=(match (a.drop i).findIdx? p with|some j=>hit ((i+j:Nat):Int)|none=>fin):=by
  intro n;induction n with
  |zero=>intro i _ h;omega
  |succ n ih=>
   intro i hi hn;rw[bc];rcases cf i a.length with gW|yt;rw[hs i gW,cd gW,List.findIdx?_cons];cases hq:p a[i]with|true=>rfl|false=>have:=ih (i+1) (by omega) (by omega);simp only[af];refine this.trans ?_;cases (a.drop (i+1)).findIdx? p with|none=>rfl|some j=>simp only[dc,aW,bX];congr 2;omega
   have:i=a.length:=by omega
   subst this;rw[hf,List.drop_length];rfl
 have:=key fuel 0 (by omega) (by omega);refine this.trans ?_;rw[eV];cases a.findIdx? p with|none=>rfl|some j=>simp only[cp]
theorem cF (a b:Bool):(bif a then b else false)=(a&&b):=by cases a<;>rfl
theorem cT (a b:Bool):(bif a then true else b)=(a||b):=by cases a<;>rfl
theorem cN (a b:Bool):(bif a then false else b)=(!a&&b):=by cases a<;>rfl
def P9 (g:α->σ->Except (ax R) σ)(fin:σ->ax R):aw α->σ->ax R
 |[],s=>fin s
 |x::xs,s=>match g x s with| .error r=>r| .ok s'=>P9 g fin xs s'
theorem FX {T:(X->ax R)->X->ax R}(xs:aw α)(e:σ->Nat->X)(Inv:Nat->σ->Prop)(g:α->σ->Except (ax R) σ)(fin:σ->ax R)(h:xs.length<=1000000000000)(hs:∀i (hi:i<xs.length) s nx,Inv i s->T nx (e s i)=match g xs[i] s with| .error r=>r| .ok s'=>nx (e s' (i+1)))(hn:∀i (hi:i<xs.length) s s',Inv i s->g xs[i] s=.ok s'->Inv (i+1) s')(hf:∀s nx,Inv xs.length s->T nx (e s xs.length)=fin s)(s:σ)(h0:Inv 0 s): bc T fuel (e s 0)=P9 g fin xs s:=by
 have key:∀n i s,i<=xs.length->xs.length-i<n->Inv i s->bc T n (e s i)=P9 g fin (xs.drop i) s:=by
  intro n;induction n with
  |zero=>intro i s _ h;omega
  |succ n ih=>
   intro i s hi BB hI;rw[bc];rcases cf i xs.length with gW|yt;rw[hs i gW s _ hI,cd gW,P9];cases hg:g xs[i] s with|error r=>rfl|ok s'=>exact ih (i+1) s' (by omega) (by omega) (hn i gW s s' hI hg)
   have:i=xs.length:=by omega
   subst this;rw[hf s _ hI,List.drop_length,P9]
 have Bx:=ee;have:=key fuel 0 s (by omega) (by omega) h0;rwa[eV]at this
theorem IZ (f:σ->α->σ)(fin:σ->ax R):∀(xs:aw α)(s:σ),P9 (λx s=> .ok (f s x)) fin xs s=fin (xs.foldl f s)
 |[],_=>rfl
 |x::xs,s=>by rw[P9];exact IZ f fin xs (f s x)
theorem eo {T:(X->ax R)->X->ax R}{fin:ax R}(e:Nat->X)(N:Nat)(h:N<=1000000000000)(hs:∀i nx,i<N->T nx (e i)=nx (e (i+1)))(hf:∀nx,T nx (e N)=fin):bc T fuel (e 0)=fin:=by rw[ME (hit:=fin) (fin:=fin) e (λ_=>true) N h (λi nx hi _=>by rw[hs i nx hi];rfl) (λ_ nx=>hf nx)];cases (range N).all (λ_=>true)<;>rfl
theorem mL {l:aw α}{k:ax R}(h:l.length<=10^9):room (List.length ([]:aw α)+l.length) k=k:=aS (by simp only[eI];omega)
def Ends (o:ax α)(P:α->Prop):Prop:=∃x,o=some x/\P x
theorem Ends.pure {x:α}{P:α->Prop}(h:P x):Ends (some x) P:=⟨x,rfl,h⟩
theorem Ends.bind {o:ax α}{P:α->Prop}{k:α->ax R}{Q:R->Prop}(h:Ends o P)(hk:∀x,P x->Ends (k x) Q):Ends (aa o k) Q:=by obtain⟨x,rfl,hx⟩:=h;exact hk x hx
theorem Ends.mono {o:ax α}{P Q:α->Prop}(h:Ends o P)(hq:∀x,P x->Q x):Ends o Q:=by obtain⟨x,hx,hp⟩:=h;exact⟨x,hx,hq x hp⟩
theorem Ends.cond {c:Bool}{a b:ax α}{P:α->Prop}(h1:c=true->Ends a P)(h2:c=false->Ends b P):Ends (cond c a b) P:=by cases c with|true=>exact h1 rfl|false=>exact h2 rfl
theorem Ends.ifn {p:Prop}[Decidable p]{a:ax α}{P:α->Prop}(h:¬p)(ha:Ends a P):Ends (if p then none else a) P:=by rw[aH h];exact ha
theorem Ends.room {k:ax α}{P:α->Prop}(h:n<=1073741824)(hk:Ends k P):Ends (room n k) P:=by rw[aS h];exact hk
theorem Ends.of {o:ax α}{x:α}{P:α->Prop}(h:o=some x)(hp:P x):Ends o P:=⟨x,h,hp⟩
theorem Ends.iter {T:(σ->ax R)->σ->ax R}{Q:R->Prop}(I:σ->Prop)(m:σ->Nat)(hs:∀x nx,I x->(∀y,I y->m y<m x->Ends (nx y) Q)->Ends (T nx x) Q): ∀n x,I x->m x<n->Ends (bc T n x) Q:=by intro n;induction n with|zero=>intro x _ h;omega|succ n ih=>intro x hx hm;rw[bc];exact hs x _ hx λy hy gW=>ih y hy (by omega)
theorem Ends.wc {T:(σ->ax R)->σ->ax R}{Q:R->Prop}(I:σ->Prop)(m:σ->Nat){x:σ}(hx:I x)(hm:m x<=1000000000000)(hs:∀x nx,I x->(∀y,I y->m y<m x->Ends (nx y) Q)->Ends (T nx x) Q):Ends (bc T fuel x) Q:=Ends.iter I m hs fuel x hx (by have:=ee;omega)
theorem Ends.idx {xs:aw α}{i:Int}{k:α->ax R}{Q:R->Prop}(h0:0<=i)(h1:i<(xs.length:Int))(hk:∀(h:i.toNat<xs.length),Ends (k xs[i.toNat]) Q):Ends (aa (idx xs i) k) Q:=by
 obtain⟨n,rfl⟩:=aX h0;have hn:n<xs.length:=by omega
 rw[bn hn,ab];exact hk (by simpa using hn)
abbrev N3:=cL×Int×Int
variable {c:N3}
def Cu (c:N3):Prop:=0<=c.2.1/\c.2.1<=(c.1.length:Int)/\c.1.length<=1048576
theorem aaY (x y:Int)(n:Nat)(hy:(gb y).toNat=n)(hn:n<9223372036854775808):0<=aq (toNat (gb x&&&gb y))/\aq (toNat (gb x&&&gb y))<=n:=by
 have h:(gb x&&&gb y).toNat<=n:=by rw[BitVec.toNat_and,hy];exact Nat.and_le_right
 generalize (gb x&&&gb y).toNat=k at h;rw[ak];omega
theorem ajs {a:cL}(ha:a.length<=1048576):Ends (yY a) Cu:=by
 unfold yY;refine Ends.wc (λx=>0<=x.2/\x.2<=4000) (λx=>(4000-x.2).toNat) ⟨by omega,by omega⟩ (by simp) λx nx hx hn=>?_;unfold yo;refine Ends.bind (P:=λb=>b=true->x.2<(a.length:Int)/\x.2<4000) (Ends.cond (λh=>Ends.pure λh2=>⟨bk h,bk h2⟩) λh=>Ends.pure λh2=>by cases h2) λq hq=>?_;refine Ends.cond (λh=>?_) (λh=>Ends.pure ⟨dC _,by simp,ha⟩);have hq:=hq h;refine Ends.idx hx.1 hq.1 λ_=>hn _ ⟨?_,?_⟩ ?_;all_goals simp only[ak (n:=x.2+1) (by omega) (by omega)]
 all_goals omega
theorem CX (h:Cu c):Ends (jQ c) λr=>(0<=r.1/\r.1<=255)/\Cu r.2:=by
 unfold jQ;refine Ends.ifn (by decide) (Ends.ifn (by decide) (Ends.cond (λh1=>?_) λh1=>?_))
 ·have h1:=bk h1;refine Ends.idx h.1 h1 λ_=>Ends.pure ⟨aaY _ 255 255 rfl (by decide),?_⟩;refine⟨?_,?_,h.2.2⟩;all_goals simp only[ak (n:=c.2.1+1) (by have:=h.1;omega) (by have:=h.2.2;omega)]
  have:=h.1;omega;omega
 exact Ends.pure ⟨aaY _ 255 255 rfl (by decide),h.1,h.2.1,h.2.2⟩
theorem gw (h:Cu c){n:Int}(hn:0<n:=by omega):Ends (cg c n) λr=>(0<=r.1/\r.1<n)/\Cu r.2:=by unfold cg;rw[jj];simp only[af];refine Ends.cond (λh1=>?_) λh1=>?_;refine(CX h).bind λr hr=>Ends.ifn (by omega) (Ends.pure ⟨⟨Int.tmod_nonneg _ hr.1.1,Int.tmod_lt_of_pos _ hn⟩,hr.2⟩);refine(CX h).bind λr2 h2=>(CX h2.2).bind λr3 h3=>(CX h3.2).bind λr4 h4=>(CX h4.2).bind λr5 h5=>Ends.ifn (by omega) (Ends.pure ⟨⟨Int.tmod_nonneg _ ?_,Int.tmod_lt_of_pos _ hn⟩,h5.2⟩);have a2:=h2.1;have a3:=h3.1;have a4:=h4.1;have a5:=h5.1;rw[ak (n:=r2.1*16777216),ak (n:=r3.1*65536),ak (n:=r4.1*256)];rw[ak (n:=r2.1*16777216+r3.1*65536)];rw[ak (n:=r2.1*16777216+r3.1*65536+r4.1*256)];rw[ak];omega
theorem EW (h:Cu c)(n:Int):Ends (cg c n) λr=>(0<=r.1/\(r.1<n\/r.1=0))/\Cu r.2:=by
 rcases Int.lt_or_le 0 n with hn|hn;exact(gw h hn).mono λr hr=>⟨⟨hr.1.1,Or.inl hr.1.2⟩,hr.2⟩
 unfold cg;rw[au hn];exact Ends.pure ⟨⟨dC _,Or.inr rfl⟩,h⟩
theorem vB (h:Cu c)(n:Int):Ends (gr c n) λr=>Cu r.2:=by unfold gr;exact(EW h n).bind λr hr=>Ends.pure hr.2
theorem iE (h:Cu c){l:cL}{P:Int->Prop}(hl:0<l.length)(hp:∀x∈l,P x):Ends (cq c l) λr=>P r.1/\Cu r.2:=by unfold cq;exact(gw h).bind λr hr=>Ends.idx hr.1.1 hr.1.2 λhi=>Ends.pure ⟨hp _ (bm hi),hr.2⟩
theorem Gd (h:Cu c)(n:Int):Ends (lC c n) λr=>(r.1.length<=5000/\(0<=n->n<=5000->(r.1.length:Int)=n)/\(n<=0->r.1=[]))/\Cu r.2:=by
 have key:∀v:Int,v<=5000->∀Q:(Bytes×N3)->Prop,(∀x c,((x.length:Int)=v\/(v<=0/\x=[]))->Cu c->Q (aJ x,c))->Ends (bc (nX (λy _ z=>some (aJ y,z)) v) fuel (([]:cL),0,c)) Q:=by
  intro v hv Q hQ;refine Ends.wc (λx=>(x.1.length:Int)=x.2.1/\(x.2.1<=v\/x.2.1=0)/\Cu x.2.2) (λx=>(v-x.2.1).toNat) ⟨rfl,Or.inr rfl,h⟩ (by simp;omega) λx nx hx hn=>?_;unfold nX;refine Ends.cond (λh1=>?_) λh1=>Ends.pure (hQ _ _ ?_ hx.2.2)
  ·have h1:=bk h1;refine(CX hx.2.2).bind λr hr=>Ends.room (by simp;omega) (hn _ ⟨?_,?_,hr.2⟩ ?_);all_goals simp only[ak (n:=x.2.1+1) (by omega) (by omega)]
   simp;omega;omega;omega
  have h1:=fP h1;rcases hx.2.1 with h2|h2;exact Or.inl (by omega);rcases Int.lt_or_le 0 v with h3|h3;omega;exact Or.inr ⟨h3,bV (by omega)⟩
 have hb:∀x:cL,(aJ x).length=x.length:=λx=>by simp[aJ]
 unfold lC;refine Ends.cond (λh1=>?_) λh1=>?_;have h1:=bk h1;refine key 5000 (by omega) _ λx c hx hc=>⟨⟨by rw[hb];rcases hx with hx|hx<;>omega,λ_ _=>by omega,λ_=>by omega⟩,hc⟩
 have h1:=fP h1;refine key n (by omega) _ λx c hx hc=>⟨⟨?_,λh0 _=>?_,λh0=>?_⟩,hc⟩
 rw[hb];rcases hx with hx|hx;omega;rw[hx.2];simp;rw[hb];rcases hx with hx|hx;omega;rw[hx.2];simp;omega;rcases hx with hx|hx;have:x=[]:=bV (by omega);rw[this];rfl;rw[hx.2];rfl
theorem ahh {a:cL}{k:Bool->ax Bool}(ht:k true=some true)(hk:a.length<=1048576->Ends (k false) (λb=>b=true)):Ends (aa (FG a) k) (λb=>b=true):=by unfold FG;rw[ab];by_cases h:((a.length:Int))>1048576;rw[au h,ht];exact Ends.pure rfl;rw[ar h];exact hk (by omega)
theorem Ends.true {o:ax Bool}(h:Ends o (λb=>b=true)):o=some true:=by obtain⟨x,h1,rfl⟩:=h;exact h1
theorem Mq (l:cL)(h:l.length<=10^9):vA l l=some true:=by refine Ends.true ?_;unfold vA;rw[bne_self_eq_false,af];refine Ends.wc (λx=>0<=x/\x<=(l.length:Int)) (λx=>((l.length:Int)-x).toNat) ⟨by omega,by omega⟩ (by omega) λx nx hx hn=>?_;unfold uH;refine Ends.cond (λk=>?_) λ_=>Ends.pure rfl;have k:=bk k;refine Ends.idx hx.1 k λ_=>Ends.idx hx.1 k λ_=>?_;rw[bne_self_eq_false,af,ak];exact hn _ ⟨by omega,by omega⟩ (by omega)
theorem ak2 {a:cL}(ha:XW (.sl (.int .u8)) a)(hl:a.length<=1048576){i:Int}(h0:0<=i)(h1:i<=1000000):Ends (IW a i) λx=>0<=x/\x<=255:=by
 unfold IW;refine Ends.cond (λ_=>Ends.pure ⟨dC _,by omega⟩) λk=>?_;have k:((a.length:Int))≠0:=by simpa using k
 have m1:=Int.tmod_nonneg (a.length:Int) (a:=i*5+1) (by omega);have m2:=Int.tmod_lt_of_pos (i*5+1) (b:=(a.length:Int)) (by omega);rw[ak (n:=i*5),ak (n:=i*5+1)];refine Ends.ifn k (Ends.idx m1 m2 λhi=>Ends.pure ?_);have hx:0<=a[(tmod (i*5+1) (a.length:Int)).toNat]/\a[(tmod (i*5+1) (a.length:Int)).toNat]<=255:=ha.2 _ (bm hi);rw[ak];exact hx
def dm (a lo hi:Int):Bool:=decide (lo<=a)&&decide (a<=hi)
theorem bh {a lo hi:Int}:dm a lo hi=true↔lo<=a/\a<=hi:=by simp[dm]
theorem ei (a b c:Int):bf a b c=some (dm a b c):=by simp only[bf,bL,ab,dm];cases h:decide (a>=b)<;>rfl
theorem de (a b c:Int):aD a b c=some (dm a b c):=ei a b c
theorem cI {l:aw α}(h:i<l.length)(d:α):l.getD i d=l[i]:=by rw[cH,al h];rfl
def LJ (l:cL)(i:Nat):Bool:=dm (l.getD i 0) 0 4095&& !(decide (0<i)&&decide (l.getD i 0<=l.getD (i-1) 0))
def pT (f:Filter):Bool:=(range f.2.2.length).all (LJ f.2.2)&&(dm f.1 0 281474976710654&&decide ((f.2.2.length:Int)<=8))
theorem V8 (f:Filter)(h:f.2.2.length<=10^9):vH f=some (pT f):=by
 unfold vH;rw[ot (hit:=some false) (fin:=some (dm f.1 0 281474976710654&&decide ((f.2.2.length:Int)<=8))) (LJ f.2.2) f.2.2.length (by omega) (λi nx hi=>?hs) (λnx=>?hf)]
 case hs=>
  simp only[qt]
  rw[kK,bn hi,ak (n:=(i:Int)+1)]
  simp only[ah,ab,ei,LJ,cI hi]
  by_cases h0:0<i
  ·have e:aq ((i:Int)-1)=((i-1:Nat):Int):=by rw[ak];omega
   have hp:i-1<f.2.2.length:=by omega
   rw[e,bn hp,au (show(i:Int)>0 by omega),au h0,cI hp]
   simp only[ah,ab,bC]
   cases dm f.2.2[i] 0 4095<;>cases decide (f.2.2[i]<=f.2.2[i-1])<;>rfl
  ·rw[ar (show¬(i:Int)>0 by omega),ar h0]
   simp only[af,eE]
   cases dm f.2.2[i] 0 4095<;>rfl
 case hf=>
  simp only[qt]
  rw[jj]
  simp only[af,ei,ab,Bs,bL]
  cases dm f.1 0 281474976710654<;>rfl
 unfold pT;cases (range f.2.2.length).all (LJ f.2.2)<;>rfl
theorem Kv (f:Filter)(h:f.2.2.length<=10^9):qV f=some (pT f):=by
 unfold qV;rw[ot (hit:=some false) (fin:=some (dm f.1 0 281474976710654&&decide ((f.2.2.length:Int)<=8))) (LJ f.2.2) f.2.2.length (by omega) (λi nx hi=>?hs) (λnx=>?hf)]
 case hs=>
  simp only[pV]
  rw[kK,bn hi,ak (n:=(i:Int)+1)]
  simp only[ah,ab,de,LJ,cI hi]
  by_cases h0:0<i
  ·have e:aq ((i:Int)-1)=((i-1:Nat):Int):=by rw[ak];omega
   have hp:i-1<f.2.2.length:=by omega
   rw[e,bn hp,au (show(i:Int)>0 by omega),au h0,cI hp]
   simp only[ah,ab,bC,ge_iff_le]
   cases dm f.2.2[i] 0 4095<;>cases decide (f.2.2[i]<=f.2.2[i-1])<;>rfl
  ·rw[ar (show¬(i:Int)>0 by omega),ar h0]
   simp only[af,eE]
   cases dm f.2.2[i] 0 4095<;>rfl
 case hf=>
  simp only[pV]
  rw[jj]
  simp only[af,de,ab,Bs,bL]
  cases dm f.1 0 281474976710654<;>rfl
 unfold pT;cases (range f.2.2.length).all (LJ f.2.2)<;>rfl
def yV (r:iH):Bool:=(lB r).getD false
theorem TB (r:iH):lB r=some (yV r):=by
 have:∃b,lB r=some b:=by simp only[lB,ei,ab,bL];exact⟨_,rfl⟩
 obtain⟨b,hb⟩:=this;simp[yV,hb]
theorem ab1 (r:iH):yO r=some (yV r):=TB r
theorem Tj {r:iH}(h:yV r=true):r.2.2.2.2.2.2.2.1=0\/r.2.2.2.2.2.2.2.2=0:=by
 by_cases h0:r.2.2.2.2.2.2.2.1=0;exact .inl h0;by_cases h1:r.2.2.2.2.2.2.2.2=0;exact .inr h1;exfalso;have e0:(r.2.2.2.2.2.2.2.1==0)=false:=by simp[h0]
 have e1:(r.2.2.2.2.2.2.2.2==0)=false:=by simp[h1]
 revert h;unfold yV;simp only[lB,ei,ab,bL,e0,e1,af,fj];have z:∀c:Bool,(bif c then false else false)=false:=by intro c;cases c<;>rfl
 simp only[z];intro h;cases h
def wF (l:aw iH):Bool:=l.all yV&&decide ((l.length:Int)<=12)
theorem NQ (l:aw iH)(h:l.length<=10^9):xk l=some (wF l):=by
 unfold xk;rw[oq (hit:=some false) (fin:=some (decide ((l.length:Int)<=12))) yV l (by omega) (λi hi nx=>?hs) (λnx=>?hf)]
 case hs=>
  simp only[sg]
  rw[kK,bn hi,ak]
  simp only[ah,ab,TB];rfl
 case hf=>
  simp only[sg]
  rw[jj];rfl
 unfold wF;cases l.all yV<;>rfl
theorem Ng (l:aw iH)(h:l.length<=10^9):xc l=some (wF l):=by rw[<-NQ l h];rfl
theorem apA (x:Int):((BitVec.ofInt 64 x&&&BitVec.ofInt 64 7).toNat:Int)=x%8:=by
 have h7:(BitVec.ofInt 64 7).toNat=2^3-1:=by decide
 rw[BitVec.toNat_and,h7,Nat.and_two_pow_sub_one_eq_mod];simp only[BitVec.toNat_ofInt];omega
theorem ak0 (x:Int):((gb x&&&gb 7).toNat:Int)=x%8:=apA x
theorem afm (x:Int):ix x 8=some (x%8):=by unfold ix;rw[lR,Int.tmod_eq_emod];split;rw[jj];simp;rw[au (by simp;omega),ak (by simp;omega) (by simp;omega)];simp
def zQ (f:iz):Int:=(f.1%8+f.2.1%8+f.2.2.1%8+f.2.2.2.1%8+f.2.2.2.2%8)%8
theorem Kk (f:iz):0<=zQ f/\zQ f<8:=by unfold zQ;omega
theorem aei {n:Int}(h:0<=n:=by omega):tmod n 8=n%8:=dg h
theorem Tx (f:iz):ru f=some (zQ f):=by
 unfold ru;generalize hL:[f.1,f.2.1,f.2.2.1,f.2.2.2.1,f.2.2.2.2]=L;have hlen:L.length=5:=by rw[<-hL];rfl
 have Bx:=ee;have key:=De (R:=Int) (T:=mQ (λ(y2:Int) (y3:Int)=>if 8=0 then none else(some (tmod y2 8))) L) L (λ(s:Int) i=>(s,(i:Int))) (λx s k=>k (aq (s+aq (x%8)))) (λs=>some (tmod s 8)) (λi hi s nx=>by simp only[mQ];rw[kK,bn hi,ak (n:=(i:Int)+1)];simp only[ah,ab];rw[ak0 L[i]];rfl) (λs nx=>by simp only[mQ];rw[jj];rfl) fuel 0 0 (by omega) (by omega);refine key.trans ?_;rw[<-hL];simp only[eV,Bv];rw[ak (n:=f.1%8),ak (n:=f.2.1%8),ak (n:=f.2.2.1%8),ak (n:=f.2.2.2.1%8),ak (n:=f.2.2.2.2%8)];rw[ak (n:=0+f.1%8),ak (n:=0+f.1%8+_),ak (n:=0+f.1%8+_+_),ak (n:=0+f.1%8+_+_+_),ak (n:=0+f.1%8+_+_+_+_)];rw[aei,zQ,Int.zero_add]
theorem abS (f:iz):vm f=some (zQ f):=by
 unfold vm;generalize hL:[f.1,f.2.1,f.2.2.1,f.2.2.2.1,f.2.2.2.2]=L;have hlen:L.length=5:=by rw[<-hL];rfl
 have Bx:=ee;have key:=De (R:=Int) (T:=mC (λ(y2:Int) (y3:Int)=>if 8=0 then none else(some (tmod y2 8))) L (L.length:Int)) L (λ(s:Int) i=>(s,(i:Int))) (λx s k=>k (aq (s+(x%8)))) (λs=>some (tmod s 8)) (λi hi s nx=>by simp only[mC];rw[kK,bn hi,ak (n:=(i:Int)+1)];simp only[ah,ab,afm];rfl) (λs nx=>by simp only[mC];rw[jj];rfl) fuel 0 0 (by omega) (by omega);refine key.trans ?_;rw[<-hL];simp only[eV,Bv];rw[ak (n:=0+f.1%8),ak (n:=0+f.1%8+_),ak (n:=0+f.1%8+_+_),ak (n:=0+f.1%8+_+_+_),ak (n:=0+f.1%8+_+_+_+_)];rw[aei,zQ,Int.zero_add]
def fQ (t:aw Slot)(i:Nat):Slot:=t.getD i (0,(0,0,0,0,0),0)
theorem uO {t:aw Slot}(h:i<t.length):fQ t i=t[i]:=cI h _
def kJ (f:iz)(k:Nat):Nat:=((zQ f).toNat+k)%8
theorem Dm (f:iz)(k:Nat):kJ f k<8:=Nat.mod_lt _ (by omega)
theorem TU (f:iz)(k:Nat)(h:k<8):tmod (aq (zQ f+(k:Int))) 8=(kJ f k:Int):=by have:=Kk f;rw[ak,aei,kJ];omega
def og (s:Slot)(f:iz):Bool:=(s.1==1)&&decide (s.2.1=f)
theorem E7 (p q:iz):((p.1==q.1)&&((p.2.1==q.2.1)&&((p.2.2.1==q.2.2.1)&&((p.2.2.2.1==q.2.2.2.1)&&((p.2.2.2.2==q.2.2.2.2)&&true)))))=decide (p=q):=by obtain⟨a,b,c,d,e⟩:=p;obtain⟨a',b',c',d',e'⟩:=q;rw[cB];simp
def walk (t:aw Slot)(f:iz):Nat->Nat->Int
 |0,_=> -1
 |n+1,k=>if(fQ t (kJ f k)).1=0 then-1 else if og (fQ t (kJ f k)) f then(kJ f k:Int) else walk t f n (k+1)
theorem Tw (t:aw Slot)(f:iz)(ht:t.length=8):uk t f=some (walk t f 8 0):=by
 unfold uk;have Bx:=ee
 have key:=FF (R:=Int) (T:=oa (λ(y6:Int)=>some (-1)) (λ(y7:Int) (y8:Int)=>some y7) 0 t f) 8 (λ(_:Unit) i=>(i:Int))
  (λi s k=>if(fQ t (kJ f i)).1=0 then some (-1) else if og (fQ t (kJ f i)) f then some (kJ f i:Int) else k s) (λ_=>some (-1))
  (λi s nx hi=>by
   have hw:kJ f i<t.length:=by have:=Dm f i;omega
   simp only[oa,Tx];rw[kK,ak (n:=(i:Int)+1)];simp only[ah,ab,TU f i hi,bn hw,uO hw,E7,og,bL,ab];rw[lR];by_cases h0:t[kJ f i].1=0;simp[h0];have e0:(t[kJ f i].1==0)=false:=by simp[h0]
   rw[e0,aH h0];cases (t[kJ f i].1==1)<;>cases decide (t[kJ f i].2.1=f)<;>rfl)
  (λs nx=>by simp only[oa];rfl)
  fuel 0 () (by omega) (by omega)
 refine key.trans ?_;have main:∀n i,upK (R:=Int) (λi (s:Unit) k=>if(fQ t (kJ f i)).1=0 then some (-1) else if og (fQ t (kJ f i)) f then some (kJ f i:Int) else k s) (λ_=>some (-1)) 8 n i ()=some (walk t f n i):=by intro n;induction n with|zero=>intro i;rfl|succ n ih=>intro i;rw[upK,walk];split;rfl;split;rfl;exact ih (i+1)
 exact main 8 0
def wz (f:iz):aw Slot->Int->Int
 |[],_=> -1
 |s::r,i=>if og s f then i else wz f r (i+1)
theorem Sn (t:aw Slot)(f:iz)(h:t.length<=10^9):wb t f=some (wz f t 0):=by
 unfold wb;have Bx:=ee;have key:∀n i,i<=t.length->t.length-i<n->bc (tN (λ(y3:Int)=>some (-1)) (λ(y4:Int) (y5:Int)=>some y4) 0 t ((List.length t:Int)) f) n (i:Int)=some (wz f (t.drop i) i):=by
  intro n;induction n with
  |zero=>intro i _ h;omega
  |succ n ih=>
   intro i hi hn;rw[bc];simp only[tN];rcases cf i t.length with gW|yt;rw[kK,bn gW,cd gW,wz,ak];simp only[ah,ab,E7,bL];have e:(bif t[i].1==1 then decide (t[i].2.1=f) else false)=og t[i] f:=by unfold og;cases (t[i].1==1)<;>rfl
   rw[e];cases og t[i] f with|true=>rfl|false=>exact ih (i+1) (by omega) (by omega)
   have:i=t.length:=by omega
   subst this;rw[jj,List.drop_length];rfl
 exact key fuel 0 (by omega) (by omega)
theorem ae5 (f:iz):AL f=some ((range 8).map λk=>(kJ f k:Int)):=by unfold AL;have Bx:=ee;have key:=FF (R:=cL) (T:=rj (λ(y2:cL) (y3:Int)=>some y2) f) 8 (λ(_:Unit) i=>((range i).map (λk=>(kJ f k:Int)),(i:Int))) (λ_ s k=>k s) (λ_=>some ((range 8).map λk=>(kJ f k:Int))) (λi s nx hi=>by simp only[rj,abS];rw[kK,ak (n:=(i:Int)+1)];simp only[ah,ab,TU f i hi];rw[lR,aS (by simp;omega),List.range_succ,List.map_append];rfl) (λs nx=>by simp only[rj];rfl) fuel 0 () (by omega) (by omega);exact key
def clear (t:aw Slot)(f:iz)(i:Nat):Nat->Nat->Bool
 |0,_=>true
 |n+1,k=>if kJ f k=i then true else if(fQ t (kJ f k)).1=0 then false else clear t f i n (k+1)
theorem YK (k0:Int->ax R)(k1:Bool->Int->ax R)(hit fin:ax R)(h0:∀x,k0 x=fin)(h1:∀x,k1 false x=hit)(v2:Bool)(i:Nat)(ER:aw Slot)(Wq v14:Int)(t:aw Slot)(f:iz)(ht:t.length=8): bc (jY k0 k1 v2 (i:Int) ER Wq v14 ((range 8).map λk=>(kJ f k:Int)) (((range 8).map λk=>(kJ f k:Int)).length:Int) t) fuel 0=cond (clear t f i 8 0) fin hit:=by
 have Bx:=ee;have hl:((range 8).map λk=>(kJ f k:Int)).length=8:=by simp
 have key:=FF (R:=R) (T:=jY k0 k1 v2 (i:Int) ER Wq v14 ((range 8).map λk=>(kJ f k:Int)) (((range 8).map λk=>(kJ f k:Int)).length:Int) t) 8 (λ(_:Unit) i=>(i:Int))
  (λk s c=>if kJ f k=i then fin else if(fQ t (kJ f k)).1=0 then hit else c s) (λ_=>fin)
  (λk s nx hk=>by
   have hw:kJ f k<t.length:=by have:=Dm f k;omega
   simp only[jY];rw[kK,bn (show k<((range 8).map λk=>(kJ f k:Int)).length by omega),ak (n:=(k:Int)+1)];simp only[ah,ab,List.getElem_map,List.getElem_range,bn hw,uO hw,h0,h1];by_cases e1:kJ f k=i;subst e1;simp;have:((kJ f k:Int)==(i:Int))=false:=by simp;omega
   rw[this,aH e1];by_cases e2:t[kJ f k].1=0;simp[e2];have:(t[kJ f k].1==0)=false:=by simp[e2]
   rw[this,aH e2];rfl)
  (λs nx=>by simp only[jY];rw[jj];exact h0 _)
  fuel 0 () (by omega) (by omega)
 refine key.trans ?_;have main:∀n k,upK (R:=R) (λk (s:Unit) c=>if kJ f k=i then fin else if(fQ t (kJ f k)).1=0 then hit else c s) (λ_=>fin) 8 n k ()=cond (clear t f i n k) fin hit:=by intro n;induction n with|zero=>intro k;rfl|succ n ih=>intro k;rw[upK,clear];split;rfl;split;rfl;exact ih (k+1)
 exact main 8 0
def RE:iz:=(0,0,0,0,0)
theorem RF (p:iz):((p.1==0)&&((p.2.1==0)&&((p.2.2.1==0)&&((p.2.2.2.1==0)&&((p.2.2.2.2==0)&&true)))))=decide (p=RE):=E7 p RE
def NP (s:Slot):Bool:=dm s.1 0 2&&dm s.2.2 0 3&&((s.1==1)||(s.2.2==0)&&decide (s.2.1=RE))
def mN (t:aw Slot)(i:Nat):Bool:=NP (fQ t i)&&(!((fQ t i).1==1)||(walk t (fQ t i).2.1 8 0==(i:Int)))
def sJ (t:aw Slot)(i:Nat):Bool:=NP (fQ t i)&&(!((fQ t i).1==1)||(wz (fQ t i).2.1 t 0==(i:Int))&&clear t (fQ t i).2.1 i 8 0)
def nH (t:aw Slot):Bool:=(t.length==8)&&(range 8).all (mN t)
theorem NR (t:aw Slot):uf t=some (nH t):=by
 unfold uf nH;by_cases ht:t.length=8
 ·have e:((t.length:Int) !=8)=false:=by rw[ht];rfl
  have e2:(t.length==8)=true:=by rw[ht];rfl
  rw[e,e2];simp only[af,bC];rw[ot (hit:=some false) (fin:=some true) (mN t) 8 (by omega) (λi nx hi=>?hs) (λnx=>?hf)]
  case hs=>
   have hl:i<t.length:=by omega
   simp only[sj]
   rw[kK,bn hl,ak]
   simp only[ah,ab,ei,bL,RF,Tw t _ ht,mN,uO hl,NP,bne]
   cases dm t[i].1 0 2<;>cases dm t[i].2.2 0 3<;>cases (t[i].1==1)<;>cases (t[i].2.2==0)<;>cases decide (t[i].2.1=RE)<;>first|rfl|(cases (walk t t[i].2.1 8 0==(i:Int))<;>rfl)
  case hf=>
   simp only[sj]
   rw[jj];rfl
  cases (range 8).all (mN t)<;>rfl
 have e:((t.length:Int) !=8)=true:=by simp;omega
 have e2:(t.length==8)=false:=by simp[ht]
 rw[e,e2];rfl
theorem Vd (t:aw Slot):qh t=some ((t.length==8)&&(range 8).all (sJ t)):=by
 unfold qh;by_cases ht:t.length=8
 ·have e:((t.length:Int) !=8)=false:=by rw[ht];rfl
  have e2:(t.length==8)=true:=by rw[ht];rfl
  rw[e,e2];simp only[af,bC];rw[ot (hit:=some false) (fin:=some true) (sJ t) 8 (by omega) (λi nx hi=>?hs) (λnx=>?hf)]
  case hs=>
   have hl:i<t.length:=by omega
   simp only[rQ]
   rw[kK,bn hl,ak]
   simp only[ah,ab,de,bL,RF,Sn t _ (show t.length<=10^9 by omega),ae5,sJ,uO hl,NP,bne]
   rw[YK (λ_=>nx ((i:Int)+1)) (λ(y:Bool) (_:Int)=>some y) (some false) (nx ((i:Int)+1)) (λ_=>rfl) (λ_=>rfl) _ _ _ _ _ _ _ ht]
   cases dm t[i].1 0 2<;>cases dm t[i].2.2 0 3<;>cases (t[i].1==1)<;>cases (t[i].2.2==0)<;>cases decide (t[i].2.1=RE)<;>first|rfl|(cases (wz t[i].2.1 t 0==(i:Int))<;>first|rfl|(cases clear t t[i].2.1 i 8 0<;>rfl))
  case hf=>
   simp only[rQ]
   rw[jj];rfl
  cases (range 8).all (sJ t)<;>rfl
 have e:((t.length:Int) !=8)=true:=by simp;omega
 have e2:(t.length==8)=false:=by simp[ht]
 rw[e,e2];rfl
theorem NZ (t:aw Slot)(f:iz)(i:Nat):∀n k,walk t f n k=(i:Int)->og (fQ t i) f=true/\clear t f i n k=true/\∃j,j<n/\kJ f (k+j)=i
 |0,k,h=>by unfold walk at h;omega
 |n+1,k,h=>by
  unfold walk at h;unfold clear;by_cases h0:(fQ t (kJ f k)).1=0;rw[aF h0]at h;omega;rw[aH h0]at h;by_cases h1:og (fQ t (kJ f k)) f=true;rw[aF h1]at h;have:kJ f k=i:=by omega
  subst this;exact⟨h1,by simp,0,by omega,rfl⟩;rw[aH h1]at h;obtain⟨a,b,j,hj,e⟩:=NZ t f i n (k+1) h;refine⟨a,?_,j+1,by omega,by rw[<-e];congr 1;omega⟩;rw[aH h0,b];split<;>rfl
theorem XV (t:aw Slot)(f:iz)(i:Nat)(hu:og (fQ t i) f=true)(agj:∀j,j<8->og (fQ t j) f=true->j=i):∀n k,clear t f i n k=true->(∃j,j<n/\kJ f (k+j)=i)->walk t f n k=(i:Int)
 |0,k,_,h=>by obtain⟨j,hj,_⟩:=h;omega
 |n+1,k,hc,⟨j,hj,e⟩=>by unfold walk;unfold clear at hc;by_cases h1:kJ f k=i;rw[h1,aH,aF hu];intro h0;unfold og at hu;rw[h0]at hu;simp at hu;rw[aH h1]at hc;by_cases h0:(fQ t (kJ f k)).1=0;rw[aF h0]at hc;cases hc;rw[aH h0]at hc;rw[aH h0,aH (λPv=>h1 (agj _ (Dm f k) Pv))];refine XV t f i hu agj n (k+1) hc ?_;cases j with|zero=>exact absurd e h1|succ j=>exact⟨j,by omega,by rw[<-e];congr 1;omega⟩
theorem afX (f:iz)(i:Nat)(hi:i<8):∃j,j<8/\kJ f (0+j)=i:=by have:=Kk f;refine⟨(i+8-(zQ f).toNat)%8,by omega,?_⟩;unfold kJ;omega
theorem B6 (f:iz):∀(t:aw Slot)(m:Nat),(∃j,j<t.length/\og (fQ t j) f=true)->∃j,j<t.length/\og (fQ t j) f=true/\wz f t m=((m+j:Nat):Int)
 |[],_,h=>by obtain⟨j,hj,_⟩:=h;simp at hj
 |s::r,m,⟨j,hj,e⟩=>by
  unfold wz;by_cases hs:og s f=true;rw[aF hs];exact⟨0,by simp,by simpa[fQ]using hs,by simp⟩;rw[aH hs];cases j with
  |zero=>exact absurd (by simpa[fQ]using e) hs
  |succ j=>
   obtain⟨j',h1,h2,h3⟩:=B6 f r (m+1) ⟨j,by simpa using hj,by simpa[fQ]using e⟩;refine⟨j'+1,by simpa using h1,by simpa[fQ]using h2,?_⟩;have:((m:Int)+1)=((m+1:Nat):Int):=by omega
   rw[this,h3];congr 1;omega
theorem V6 (t:aw Slot)(ht:t.length=8):(range 8).all (sJ t)=(range 8).all (mN t):=by
 rw[cB,aE,aE];simp only[bW];constructor;intro h i hi;have hI:=h i hi;unfold sJ at hI;unfold mN;simp only[ae,cC,aK,aV]at hI⊢;refine⟨hI.1,?_⟩;rcases hI.2 with h1|⟨h1,h2⟩;exact .inl h1;by_cases hu:((fQ t i).1==1)=true;right;have Pv:og (fQ t i) (fQ t i).2.1=true:=by unfold og;rw[hu];simp
 refine XV t _ i Pv (λj hj huj=>?_) 8 0 h2 (afX _ i hi);have hJ:=h j hj;unfold sJ at hJ;unfold og at huj;simp only[ae,aB]at huj;simp only[ae,cC,aK,aV]at hJ;rcases hJ.2 with h3|⟨h3,_⟩;rw[huj.1]at h3;cases h3;rw[huj.2]at h3;omega;exact .inl (by simpa using hu);intro h i hi;have hI:=h i hi;unfold mN at hI;unfold sJ;simp only[ae,cC,aK,aV]at hI⊢;refine⟨hI.1,?_⟩;rcases hI.2 with h1|h1;exact .inl h1;right;obtain⟨hu,hc,_⟩:=NZ t _ i 8 0 h1;refine⟨?_,hc⟩;obtain⟨j,hj,huj,e⟩:=B6 (fQ t i).2.1 t 0 ⟨i,by omega,hu⟩;have hJ:=h j (by omega);unfold mN at hJ;unfold og at huj;simp only[ae,aB]at huj;simp only[ae,cC,aK,aV]at hJ;rcases hJ.2 with h3|h3;rw[huj.1]at h3;cases h3;rw[huj.2,h1]at h3;have e':wz (fQ t i).2.1 t 0=((0+j:Nat):Int):=e;rw[e'];omega
theorem Nk (t:aw Slot):qh t=some (nH t):=by
 rw[Vd,nH];by_cases ht:t.length=8;rw[V6 t ht];have e2:(t.length==8)=false:=by simp[ht]
 rw[e2];rfl
def XD (n:Int):Bool:=(n==1)||(n==2)||(n==4)||(n==8)||(n==16)
theorem Vm (n:Int):xo n=some (XD n):=by simp only[xo,bL,ab,XD];cases (n==1)<;>cases (n==2)<;>cases (n==4)<;>cases (n==8)<;>rfl
def qD (s:lF)(q:Int):Bool:=dm q 1 4&&((s.1.length:Int)==16)&&XD s.2.length&&s.2.all λx=>dm x 0 (q-1)
theorem Lr (s:lF)(q:Int)(h:s.2.length<=10^9):vK s q=some (qD s q):=by
 unfold vK qD;simp only[ei,Vm,ab,bL,bne];by_cases hq:dm q 1 4=true
 ·rw[oq (hit:=some false) (fin:=some true) (λx=>dm x 0 (q-1)) s.2 (by omega) (λi hi nx=>?hs) (λnx=>?hf)]
  case hs=>
   rw[bh]at hq
   simp only[qw]
   rw[kK,bn hi,ak (n:=(i:Int)+1),ak (n:=q-1)]
   simp only[ah,ab,ei];rfl
  case hf=>
   simp only[qw]
   rw[jj];rfl
  rw[hq];cases ((s.1.length:Int)==16)<;>cases XD s.2.length<;>cases s.2.all (λx=>dm x 0 (q-1))<;>rfl
 have hq':dm q 1 4=false:=by simpa using hq
 rw[hq'];rfl
theorem KC (s:lF)(q:Int)(h:s.2.length<=10^9):vu s q=some (qD s q):=by rw[<-Lr s q h];rfl
def ff (s:cV)(q:Int):Bool:=wF s.1&&nH s.2.1&&qD s.2.2 q&&s.1.all (λr=> !(decide (r.2.2.2.2.2.2.2.2>=q)))&&s.2.1.all (λx=> !(decide (x.2.2>=q)))
theorem Qi (s:cV)(q:Int)(h1:s.1.length<=10^9)(h2:s.2.1.length<=10^9)(h3:s.2.2.2.length<=10^9):si s q=some (ff s q):=by
 unfold si ff;simp only[NQ _ h1,NR,Lr _ _ h3,ab,bL];rw[oq (hit:=some false) (fin:=cond (s.2.1.all (λx=> !(decide (x.2.2>=q)))) (some true) (some false)) (λr:iH=> !(decide (r.2.2.2.2.2.2.2.2>=q))) s.1 (by omega) (λi hi nx=>?hs) (λnx=>?hf)]
 case hs=>
  simp only[nE]
  rw[kK,bn hi,ak]
  simp only[ah,ab,fY];rfl
 case hf=>
  simp only[nE]
  rw[jj]
  simp only[af]
  rw[oq (hit:=some false) (fin:=some true) (λx:Slot=> !(decide (x.2.2>=q))) s.2.1 (by omega) (λi hi nx=>?hs) (λnx=>?hf)]
  case hs=>
   simp only[nG]
   rw[kK,bn hi,ak]
   simp only[ah,ab,fY];rfl
  case hf=>
   simp only[nG]
   rw[jj];rfl
 cases wF s.1<;>cases nH s.2.1<;>cases qD s.2.2 q<;>cases s.1.all (λr=> !(decide (r.2.2.2.2.2.2.2.2>=q)))<;>cases s.2.1.all (λx=> !(decide (x.2.2>=q)))<;>rfl
theorem Fw (s:cV)(q:Int)(h1:s.1.length<=10^9)(h2:s.2.1.length<=10^9)(h3:s.2.2.2.length<=10^9):nP s q=some (ff s q):=by
 unfold nP ff;simp only[Ng _ h1,Nk,KC _ _ h3,ab,bL];rw[oq (hit:=some false) (fin:=cond (s.2.1.all (λx=> !((x.1==1)&&decide (x.2.2>=q)))) (some true) (some false)) (λr:iH=> !((r.2.2.2.2.2.2.2.1==0)&&decide (r.2.2.2.2.2.2.2.2>=q))) s.1 (by omega) (λi hi nx=>?hs) (λnx=>?hf)]
 case hs=>
  simp only[nq]
  rw[kK,bn hi,ak]
  simp only[ah,ab,fY,bL]
  cases (s.1[i].2.2.2.2.2.2.2.1==0)<;>rfl
 case hf=>
  simp only[nq]
  rw[jj]
  simp only[af]
  rw[oq (hit:=some false) (fin:=some true) (λx:Slot=> !((x.1==1)&&decide (x.2.2>=q))) s.2.1 (by omega) (λi hi nx=>?hs) (λnx=>?hf)]
  case hs=>
   simp only[ma]
   rw[kK,bn hi,ak]
   simp only[ah,ab,fY,bL]
   cases (s.2.1[i].1==1)<;>rfl
  case hf=>
   simp only[ma]
   rw[jj];rfl
 cases hr:wF s.1 with
 |false=>rfl
 |true=>
  cases ht:nH s.2.1 with
  |false=>rfl
  |true=>
   cases hs:qD s.2.2 q with
   |false=>rfl
   |true=>
    have hq:1<=q:=by unfold qD at hs;simp only[ae,bh]at hs;exact hs.1.1.1.1
    have e1:s.1.all (λr=> !((r.2.2.2.2.2.2.2.1==0)&&decide (r.2.2.2.2.2.2.2.2>=q)))=s.1.all (λr=> !(decide (r.2.2.2.2.2.2.2.2>=q))):=by unfold wF at hr;simp only[ae,aE]at hr;rw[cB,aE,aE];refine forall_congr' λr=>forall_congr' λhm=>?_;rcases Tj (hr.1 r hm)with h0|h0;rw[h0];simp;rw[h0];simp only[ar (show¬(0:Int)>=q by omega),fA]
    have e2:s.2.1.all (λx=> !((x.1==1)&&decide (x.2.2>=q)))=s.2.1.all (λx=> !(decide (x.2.2>=q))):=by unfold nH at ht;simp only[ae,aE,bW,aV]at ht;rw[cB,aE,aE];refine forall_congr' λx=>forall_congr' λhm=>?_;obtain⟨i,hi,rfl⟩:=List.mem_iff_getElem.1 hm;have hsl:=ht.2 i (by omega);unfold mN NP at hsl;rw[uO hi]at hsl;simp only[ae,cC,aV]at hsl;rcases hsl.1.2 with h0|⟨h0,_⟩;rw[h0];simp;rw[h0];simp only[ar (show¬(0:Int)>=q by omega),fA]
    rw[e1,e2];cases s.1.all (λr=> !(decide (r.2.2.2.2.2.2.2.2>=q)))<;>cases s.2.1.all (λx=> !(decide (x.2.2>=q)))<;>rfl
theorem gU (h:n<9223372036854775808:=by omega):aq (n:Int)=(n:Int):=ak
theorem Gl (h:n<4294967296:=by omega):IntKind.wrap .u32 (n:Int)=(n:Int):=by simp only[aq,fU,IntKind.wrap,IntKind.bits,IntKind.signed];simp;omega
theorem lV (b:UInt8):b.toNat<256:=b.toNat_lt
def bS (v:Int):Bytes:=(dh v).getD []
theorem nA (v:Int):dh v=some (bS v):=by
 unfold bS;have:∃x,dh v=some x:=by simp only[dh,ei,ab];cases dm v 0 65535<;>exact⟨_,rfl⟩
 obtain⟨x,hx⟩:=this;rw[hx];rfl
theorem kl (v:Int):bZ v=some (bS v):=nA v
theorem EI (v:Int):(bS v).length=bif dm v 0 65535 then 2 else 0:=by have h:=nA v;simp only[dh,ei,ab]at h;cases hb:dm v 0 65535<;>rw[hb]at h<;>(rw[<-dD h];rfl)
theorem bF (v:Int):(bS v).length<=2:=by rw[EI];cases dm v 0 65535<;>simp
def iO (v:Int):Bytes:=(fO v).getD []
theorem pL (v:Int):fO v=some (iO v):=by
 unfold iO;have:∃x,fO v=some x:=by simp only[fO,ei,ab];cases dm v 0 4294967295<;>exact⟨_,rfl⟩
 obtain⟨x,hx⟩:=this;rw[hx];rfl
theorem yd (v:Int):fW v=some (iO v):=pL v
theorem LN (v:Int):(iO v).length=bif dm v 0 4294967295 then 4 else 0:=by have h:=pL v;simp only[fO,ei,ab]at h;cases hb:dm v 0 4294967295<;>rw[hb]at h<;>(rw[<-dD h];rfl)
theorem eu (v:Int):(iO v).length<=4:=by rw[LN];cases dm v 0 4294967295<;>simp
def bJ (s:Bytes)(i:Nat):Nat:=(s.getD i 0).toNat
theorem eC (s:Bytes)(i:Nat):bJ s i<256:=lV _
theorem ld (h:i<s.length:=by omega):∃x,idx s (i:Int)=some x/\x.toNat=bJ s i:=⟨s[i],bn h,by rw[bJ,cI h]⟩
def eS (s:Bytes)(a n:Int):Bool:=decide (0<=a/\a+n<=(s.length:Int))
theorem CG (s:Bytes)(a n:Int)(h:s.length<=10^9)(hn:0<=n:=by omega):mR s a n=some (eS s a n):=by
 unfold mR eS;by_cases h0:0<=a;by_cases h1:a<=(s.length:Int)
 rw[au (show a>=0 from h0),au h1,ak];simp only[ah,ab];congr 1;rw[decide_eq_decide];omega;rw[au (show a>=0 from h0),ar h1,ar (show¬(0<=a/\a+n<=(s.length:Int)) by omega)];rfl;rw[ar (show¬a>=0 from h0),ar (show¬(0<=a/\a+n<=(s.length:Int)) by omega)];rfl
def cj (s:Bytes)(a:Int):Int:=bif eS s a 2 then((bJ s a.toNat*256+bJ s (a.toNat+1):Nat):Int) else-1
def fB (s:Bytes)(a:Int):Int:=bif eS s a 4 then(((bJ s a.toNat*256+bJ s (a.toNat+1))*65536+(bJ s (a.toNat+2)*256+bJ s (a.toNat+3)):Nat):Int) else-1
theorem Ah (s:Bytes)(a:Int)(h:s.length<=10^9):gN s a=some (cj s a):=by unfold gN cj;rw[CG s a 2 h,ab];cases hw:eS s a 2 with|false=>rfl|true=>simp only[eS,aB]at hw;obtain⟨n,rfl⟩:=aX hw.1;obtain⟨x,hx,ex⟩:=ld (s:=s) (i:=n);obtain⟨y,hy,ey⟩:=ld (s:=s) (i:=n+1);have hxl:=eC s n;have hyl:=eC s (n+1);rw[ak (n:=(n:Int)+1),hx,show(n:Int)+1=((n+1:Nat):Int) by omega,hy];simp only[aj,af,ab,az,ah];rw[lR,ex,ey,gU,gU];have e8:om 8=8:=rfl;rw[e8,ak (n:=((bJ s n:Nat):Int)*2^8),ak];congr 1;all_goals omega
theorem Hl (s:Bytes)(a:Int)(h:s.length<=10^9):nC s a=some (fB s a):=by
 unfold nC fB;rw[CG s a 4 h,ab];cases hw:eS s a 4 with
 |false=>rfl
 |true=>
  simp only[eS,aB]at hw;obtain⟨n,rfl⟩:=aX hw.1;have w1:eS s (n:Int) 2=true:=by simp only[eS,aB];omega
  have w2:eS s ((n:Int)+2) 2=true:=by simp only[eS,aB];omega
  have b0:=eC s n;have b1:=eC s (n+1);have b2:=eC s (n+2);have b3:=eC s (n+3);rw[ak (n:=(n:Int)+2),Ah s _ h,Ah s _ h];simp only[aj,af,ab,ah,cj,w1,w2,az];rw[lR,show((n:Int)+2).toNat=n+2 by omega,show n+2+1=n+3 by omega];have e8:om 16=16:=rfl;rw[e8,ak (n:=((bJ s n*256+bJ s (n+1):Nat):Int)*2^16),ak];congr 1;all_goals omega
theorem at7 (a b:Nat)(ha:a<9223372036854775808)(hb:b<9223372036854775808):toNat (gb (a:Int)|||gb (b:Int))=a|||b:=by show(BitVec.ofInt 64 (a:Int)|||BitVec.ofInt 64 (b:Int)).toNat=_;rw[dv,dv,BitVec.toNat_or,dN,dN,dU (by omega),dU (by omega)]
theorem af6 (a b:Nat)(ha:a<9223372036854775808:=by omega)(hb:b<9223372036854775808:=by omega):toNat (gb (a:Int)&&&gb (b:Int))=a&&&b:=by show(BitVec.ofInt 64 (a:Int)&&&BitVec.ofInt 64 (b:Int)).toNat=_;rw[dv,dv,BitVec.toNat_and,dN,dN,dU (by omega),dU (by omega)]
theorem aer (a b:Nat)(ha:a<9223372036854775808)(hb:b<9223372036854775808):toNat (gb (a:Int)^^^gb (b:Int))=a^^^b:=by show(BitVec.ofInt 64 (a:Int)^^^BitVec.ofInt 64 (b:Int)).toNat=_;rw[dv,dv,BitVec.toNat_xor,dN,dN,dU (by omega),dU (by omega)]
theorem akZ (a b:Nat)(ha:a<4294967296)(hb:b<4294967296):toNat (BitVec.ofInt (IntKind.bits .u32) (a:Int)&&&BitVec.ofInt (IntKind.bits .u32) (b:Int))=a&&&b:=by show(BitVec.ofInt 32 (a:Int)&&&BitVec.ofInt 32 (b:Int)).toNat=_;rw[dv,dv,BitVec.toNat_and,dN,dN,dU (by omega),dU (by omega)]
theorem ag3 (a b:Nat)(ha:a<4294967296)(hb:b<4294967296):toNat (BitVec.ofInt (IntKind.bits .u32) (a:Int)^^^BitVec.ofInt (IntKind.bits .u32) (b:Int))=a^^^b:=by show(BitVec.ofInt 32 (a:Int)^^^BitVec.ofInt 32 (b:Int)).toNat=_;rw[dv,dv,BitVec.toNat_xor,dN,dN,dU (by omega),dU (by omega)]
theorem Ev (x k y:Nat)(hy:y<2^k:=by omega)(h:2^k*x+y<9223372036854775808:=by omega):aq (toNat (gb ((2^k*x:Nat):Int)|||gb (y:Int)):Int)=((2^k*x+y:Nat):Int):=by rw[at7 _ _ (by omega) (by omega),<-Nat.two_pow_add_eq_or_of_lt hy];exact gU h
theorem Ik (s:Bytes)(a n:Int):(cond (decide (a<0)) (some true) (some (decide (a>(s.length:Int)-n))))=some (!eS s a n):=by cases hw:eS s a n with|true=>simp only[eS,aB]at hw;rw[ar (show¬a<0 by omega),ar (show¬a>(s.length:Int)-n by omega)];rfl|false=>simp only[eS,cw]at hw;by_cases h0:a<0;rw[au h0];rfl;rw[ar h0,au (show a>(s.length:Int)-n by omega)];rfl
theorem uE (s:Bytes)(a:Int)(h:s.length<=10^9):eT s a=some (cj s a):=by unfold eT cj;rw[ak (n:=(s.length:Int)-2)];rw[Ik,ab];cases hw:eS s a 2 with|false=>rfl|true=>simp only[eS,aB]at hw;obtain⟨n,rfl⟩:=aX hw.1;obtain⟨x,hx,ex⟩:=ld (s:=s) (i:=n);obtain⟨y,hy,ey⟩:=ld (s:=s) (i:=n+1);have hxl:=eC s n;have hyl:=eC s (n+1);rw[ak (n:=(n:Int)+1),hx,show(n:Int)+1=((n+1:Nat):Int) by omega,hy];simp only[aj,af,ah,ab,az];rw[lR,ex,ey,gU (n:=bJ s n),gU (n:=bJ s (n+1))];have e8:om 8=8:=rfl;rw[e8,show((bJ s n:Nat):Int)*2^8=((2^8*bJ s n:Nat):Int) by omega,gU (n:=2^8*bJ s n),Ev (bJ s n) 8 (bJ s (n+1))];congr 1;all_goals omega
theorem xG (s:Bytes)(a:Int)(h:s.length<=10^9):ig s a=some (fB s a):=by
 unfold ig fB;rw[ak (n:=(s.length:Int)-4)];rw[Ik,ab];cases hw:eS s a 4 with
 |false=>rfl
 |true=>
  simp only[eS,aB]at hw;obtain⟨n,rfl⟩:=aX hw.1;obtain⟨x0,h0,e0⟩:=ld (s:=s) (i:=n);obtain⟨x1,h1,e1⟩:=ld (s:=s) (i:=n+1);obtain⟨x2,h2,e2⟩:=ld (s:=s) (i:=n+2);obtain⟨x3,h3,e3⟩:=ld (s:=s) (i:=n+3);have b0:=eC s n;have b1:=eC s (n+1);have b2:=eC s (n+2);have b3:=eC s (n+3)
  rw[ak (n:=(n:Int)+1),ak (n:=(n:Int)+2),ak (n:=(n:Int)+3),h0,show(n:Int)+1=((n+1:Nat):Int) by omega,h1,
   show(n:Int)+2=((n+2:Nat):Int) by omega,h2,show(n:Int)+3=((n+3:Nat):Int) by omega,h3]
  simp only[aj,af,ah,ab,az];rw[lR,lR,lR,e0,e1,e2,e3];generalize bJ s n=p0 at*;generalize bJ s (n+1)=p1 at*;generalize bJ s (n+2)=p2 at*;generalize bJ s (n+3)=p3 at*;have f24:om 24=24:=rfl;have f16:om 16=16:=rfl;have f8:om 8=8:=rfl
  rw[gU (n:=p0),gU (n:=p1),gU (n:=p2),gU (n:=p3),f24,f16,f8,
   show((p0:Nat):Int)*2^24=((2^24*p0:Nat):Int) by omega,show((p1:Nat):Int)*2^16=((2^16*p1:Nat):Int) by omega,show((p2:Nat):Int)*2^8=((2^8*p2:Nat):Int) by omega,
   gU (n:=2^24*p0),gU (n:=2^16*p1),gU (n:=2^8*p2),Ev p0 24 (2^16*p1),
   show 2^24*p0+2^16*p1=2^16*(2^8*p0+p1) by omega,Ev _ 16 (2^8*p2),
   show 2^16*(2^8*p0+p1)+2^8*p2=2^8*(2^8*(2^8*p0+p1)+p2) by omega,Ev _ 8 p3]
  congr 1;all_goals omega
def Ea (c:Nat):Nat:=if c%2=1 then(c/2)^^^3988292384 else c/2
def sT:Nat->Nat->Nat
 |0,c=>c
 |n+1,c=>Ea (sT n c)
def apB (c:Nat)(s:Bytes):Nat:=s.foldl (λc b=>sT 8 (c^^^b.toNat)) c
def aa7 (s:Bytes):Int:=4294967295-(apB 4294967295 s:Int)
theorem Bm {b:Nat}(ha:a<4294967296:=by omega)(hb:b<4294967296:=by omega):a^^^b<4294967296:=Nat.xor_lt_two_pow (n:=32) ha hb
theorem X9 {c:Nat}(h:c<4294967296):Ea c<4294967296:=by unfold Ea;split;exact Bm;omega
theorem E1 {c:Nat}(h:c<4294967296):∀n,sT n c<4294967296
 |0=>h
 |n+1=>X9 (E1 h n)
theorem acV (k0:Int->Int->ax R)(k:Int->ax R)(hk:∀x y,k0 x y=k x)(v0:Bytes)(v4:Int)(c:Nat)(h:c<4294967296):bc (oA k0 v0 v4) fuel ((c:Int),0)=k (sT 8 c:Int):=by
 have Bx:=ee
 have key:=FF (T:=oA k0 v0 v4) 8 (λ(_:Unit) i=>((sT i c:Int),(i:Int))) (λ_ s nx=>nx s) (λ_=>k (sT 8 c:Int))
  (λi s nx hi=>by
   have hc:=E1 h i;simp only[oA];have a1:=af6 (sT i c) 1;have x1:=aer (sT i c/2) 3988292384 (by omega) (by omega);simp only[Int.natCast_one]at a1
   rw[kK,ah,a1,Nat.and_one_is_mod,
    show om 1=1 from rfl,show fdiv ((sT i c:Nat):Int) (2^1)=((sT i c/2:Nat):Int) from by rw[Int.fdiv_eq_ediv_of_nonneg _ (by omega)];rfl,
    show(3988292384:Int)=((3988292384:Nat):Int) from rfl,x1,
    gU (n:=sT i c%2),gU (n:=(sT i c/2)^^^3988292384) (by have:=Bm (a:=sT i c/2) (b:=3988292384);omega),lR,lR,ak (n:=(i:Int)+1)]
   show _=nx ((Ea (sT i c):Int),((i+1:Nat):Int));unfold Ea;by_cases hp:sT i c%2=1;rw[hp,aF rfl];rfl;have h0:sT i c%2=0:=by omega
   rw[h0,lR];rfl)
  (λs nx=>by simp only[oA];rw[jj,af,hk])
  fuel 0 () (by omega) (by omega)
 refine key.trans ?_;rfl
theorem abP (k0:Int->Int->ax R)(k:Int->ax R)(hk:∀x y,k0 x y=k x)(v0:Bytes)(v4:Int)(c:Nat)(h:c<4294967296):bc (ow k0 v0 v4) fuel ((c:Int),0)=k (sT 8 c:Int):=by
 have Bx:=ee
 have key:=FF (T:=ow k0 v0 v4) 8 (λ(_:Unit) i=>((sT i c:Int),(i:Int))) (λ_ s nx=>nx s) (λ_=>k (sT 8 c:Int))
  (λi s nx hi=>by
   have hc:=E1 h i;simp only[ow];have a1:=akZ (sT i c) 1 (by omega) (by omega);have x1:=ag3 (sT i c/2) 3988292384 (by omega) (by omega);simp only[Int.natCast_one]at a1
   rw[kK,ah,a1,Nat.and_one_is_mod,
    show min (Int.toNat 1) (IntKind.bits .u32)=1 from rfl,show fdiv ((sT i c:Nat):Int) (2^1)=((sT i c/2:Nat):Int) from by rw[Int.fdiv_eq_ediv_of_nonneg _ (by omega)];rfl,
    show(3988292384:Int)=((3988292384:Nat):Int) from rfl,x1,
    Gl (n:=sT i c%2),Gl (n:=(sT i c/2)^^^3988292384) (Bm),lR,ak (n:=(i:Int)+1)]
   show _=nx ((Ea (sT i c):Int),((i+1:Nat):Int));unfold Ea;by_cases hp:sT i c%2=1;rw[hp,aF rfl];rfl;have h0:sT i c%2=0:=by omega
   rw[h0,lR];rfl)
  (λs nx=>by simp only[ow];rw[jj,af,hk])
  fuel 0 () (by omega) (by omega)
 refine key.trans ?_;rfl
theorem afH (s:Bytes)(h:s.length<=10^9):Bd s=some (aa7 s):=by
 unfold Bd;have:=FX (T:=rq (λ(y4:Int) (_:Int)=>some (aq (4294967295-y4))) s) s (λ(c:Nat) i=>((c:Int),(i:Int))) (λ_ c=>c<4294967296) (λb c=> .ok (sT 8 (c^^^b.toNat))) (λc=>some (4294967295-(c:Int))) (by omega) (λi hi c nx hI=>?hs) (λi hi c c' hI hg=>?hn) (λc nx hI=>?hf) 4294967295 (by omega)
 case hs=>
  have hb:=lV s[i]
  simp only[rq]
  rw[kK,bn hi,ah,ab,gU (n:=s[i].toNat),aer c s[i].toNat (by omega) (by omega)]
  have hx:=Bm hI (show s[i].toNat<4294967296 by omega)
  rw[gU,acV _ (λy=>nx (y,(i:Int)+1)) (λx y=>by rw[ak]) _ _ _ hx];rfl
 case hn=>
  cases hg
  exact E1 (Bm hI (by have:=lV s[i];omega)) 8
 case hf=>
  simp only[rq]
  rw[jj,af,ak]
 rw[IZ]at this;exact this
theorem not_xor (c:Nat)(h:c<4294967296):toNat (BitVec.ofInt (IntKind.bits .u32) (IntKind.max .u32)^^^BitVec.ofInt (IntKind.bits .u32) (c:Int))=4294967295-c:=by show(BitVec.ofInt 32 4294967295^^^BitVec.ofInt 32 (c:Int)).toNat=_;rw[show BitVec.ofInt 32 4294967295=BitVec.allOnes 32 by decide,dv,BitVec.allOnes_xor,BitVec.toNat_not,dN,dU (show c<2^32 by omega)]
theorem aeW (s:Bytes)(h:s.length<=10^9):AG s=some (aa7 s):=by
 unfold AG;have:=FX (T:=qU (λ(y4:Int) (_:Int)=>some (aq (IntKind.wrap .u32 (toNat (BitVec.ofInt (IntKind.bits .u32) (IntKind.max .u32)^^^BitVec.ofInt (IntKind.bits .u32) y4))))) s) s (λ(c:Nat) i=>((c:Int),(i:Int))) (λ_ c=>c<4294967296) (λb c=> .ok (sT 8 (c^^^b.toNat))) (λc=>some (4294967295-(c:Int))) (by omega) (λi hi c nx hI=>?hs) (λi hi c c' hI hg=>?hn) (λc nx hI=>?hf) 4294967295 (by omega)
 case hs=>
  have hb:=lV s[i]
  simp only[qU]
  rw[kK,bn hi,ah,ab,Gl (n:=s[i].toNat),ag3 c s[i].toNat (by omega) (by omega)]
  have hx:=Bm hI (show s[i].toNat<4294967296 by omega)
  rw[Gl hx,abP _ (λy=>nx (y,(i:Int)+1)) (λx y=>by rw[ak]) _ _ _ hx];rfl
 case hn=>
  cases hg
  exact E1 (Bm hI (by have:=lV s[i];omega)) 8
 case hf=>
  simp only[qU]
  rw[jj,af,not_xor c hI,Gl,gU]
  congr 1
  all_goals omega
 rw[IZ]at this;exact this
def Uj (s:Bytes)(i:Nat):Nat:=bJ s (i/8)/2^(7-i%8)%2
theorem Ob (s:Bytes)(i:Nat):Uj s i<2:=Nat.mod_lt _ (by omega)
theorem aa1 (b k:Nat)(hb:b<256)(hk:k<=7):aq (toNat (gb (aq (fdiv (b:Int) ((2^k:Nat):Int)))&&&gb 1))=((b/2^k%2:Nat):Int):=by have e:fdiv (b:Int) ((2^k:Nat):Int)=((b/2^k:Nat):Int):=(Int.ofNat_fdiv b (2^k)).symm;have h1:b/2^k<=b:=Nat.div_le_self _ _;rw[e,gU (n:=b/2^k)];have:=af6 (b/2^k) 1;rw[show((1:Nat):Int)=1 from rfl]at this;rw[this,Nat.and_one_is_mod];exact gU
theorem Xe (s:Bytes)(i:Nat)(hi:i/8<s.length:=by omega)(h:s.length<=10^9:=by omega):vY s (i:Int)=some ((Uj s i:Nat):Int):=by
 have e1:Int.tdiv (i:Int) 8=((i/8:Nat):Int):=(Int.ofNat_tdiv i 8).symm;have e2:tmod (i:Int) 8=((i%8:Nat):Int):=(Int.ofNat_tmod i 8).symm;unfold vY;rw[lR,e1,ak (n:=((i/8:Nat):Int)),bn hi,ab,lR,e2,ak (n:=7-((i%8:Nat):Int)),lR];have e3:(2:Int)^(min (Int.toNat (7-((i%8:Nat):Int))) (IntKind.bits .u8))=((2^(7-i%8):Nat):Int):=by rw[show min (Int.toNat (7-((i%8:Nat):Int))) (IntKind.bits .u8)=7-i%8 from by show min _ 8=_;omega];push_cast;rfl
 rw[e3,aa1 _ _ (lV _) (by omega),Uj,bJ,cI hi]
def win (s:Bytes)(a:Nat):Nat->Nat
 |0=>0
 |j+1=>2*win s a j+Uj s (a+j)
theorem aeq (s:Bytes)(a:Nat):∀j,win s a j<2^j
 |0=>by simp[win]
 |j+1=>by have:=aeq s a j;have:=Ob s (a+j);rw[win,Nat.pow_succ];omega
theorem Ws (s:Bytes)(a j:Nat)(hj:j<=32:=by omega):win s a j<4294967296:=Nat.lt_of_lt_of_le (aeq s a j) (Nat.pow_le_pow_right (n:=2) (by omega) hj)
def afY (s:Bytes)(a:Int):Int:=bif ((s.length:Int) !=16)|| !dm a 0 96 then-1 else((win s a.toNat 32:Nat):Int)
theorem ae6 (s:Bytes)(a:Int):tz s a=some (afY s a):=by
 unfold tz afY;rw[de];cases hs:(s.length:Int) !=16 with|true=>rfl|false=>?_
 cases ha:dm a 0 96 with|false=>rfl|true=>?_
 have h1:=bh.1 ha;have h2:s.length=16:=by simp at hs;omega
 obtain⟨a,rfl⟩:=aX h1.1;simp only[af,ab,aj,bQ,az];refine eo (λi=>(((win s a i:Nat):Int),((a+i:Nat):Int))) 32 (by omega) (λi nx hi=>?_) (λnx=>?_);have hw:=Ws s a i;have hb:=Ob s (a+i);simp only[oP];rw[ak (n:=(a:Int)+32),kK,ah,lR,Xe s (a+i),ab,ak (n:=((a+i:Nat):Int)+1)];have e1:aq (((win s a i:Nat):Int)*2^(om 1))=((2^1*win s a i:Nat):Int):=by have:(2:Int)^(om 1)=2:=rfl;rw[this,ak];omega
 rw[e1,Ev _ _ _];rw[show(((a+i:Nat):Int)+1)=((a+(i+1):Nat):Int) by omega];rfl;simp only[oP];rw[ak (n:=(a:Int)+32),jj];rfl
def HF (s v:Bytes):Nat->Nat
 |0=>0
 |i+1=>if Uj v i=1 then HF s v i^^^win s i 32 else HF s v i
theorem RS (s v:Bytes):∀i,HF s v i<4294967296
 |0=>by simp[HF]
 |i+1=>by have:=RS s v i;rw[HF];split;exact Bm this (Ws s i 32);exact this
def xW (s v:Bytes):Int:=bif ((s.length:Int) !=16)||decide ((v.length:Int)>12) then-1 else((HF s v (8*v.length):Nat):Int)
theorem abR (s v:Bytes):tq s v=some (xW s v):=by
 unfold tq xW;cases hs:(s.length:Int) !=16 with|true=>rfl|false=>?_
 cases hv:decide ((v.length:Int)>12)with|true=>rfl|false=>?_
 have h2:s.length=16:=by simp at hs;omega
 have h3:v.length<=12:=by simp at hv;omega
 simp only[af,ab,bQ];refine eo (λi=>(((HF s v i:Nat):Int),(i:Int))) (8*v.length) (by omega) (λi nx hi=>?_) (λnx=>?_);have hw:=Ws s i 32;have hh:=RS s v i;have hb:=Ob v i;have eW:afY s (i:Int)=((win s i 32:Nat):Int):=by unfold afY;rw[hs,bh.2 (show(0:Int)<=(i:Int)/\(i:Int)<=96 by omega)];rfl
 simp only[oL];rw[ak (n:=8*(v.length:Int)),kK,ah,Xe v i,ab,ae6,ab,eW,aer _ _ (by omega) (by omega),ak (n:=(i:Int)+1),gU (Nat.lt_trans (Bm hh hw) (by omega)),HF];by_cases h1:Uj v i=1;rw[h1,aF rfl];rfl;rw[aH h1,show(((Uj v i:Nat):Int)==1)=false from by simp;omega];rfl;simp only[oL];rw[ak (n:=8*(v.length:Int)),jj];rfl
def ti (f:D4):Bytes:=((iO f.2.1++iO f.2.2.1)++bS f.2.2.2.1)++bS f.2.2.2.2
theorem U6 (f:D4):tr f=some (ti f):=by have:=eu f.2.1;have:=eu f.2.2.1;have:=bF f.2.2.2.1;have:=bF f.2.2.2.2;simp only[tr,yd,kl,ab];rw[aS,aS (by simp only[ai];omega),aS (by simp only[ai];omega)];rfl
theorem Fp (s:Bytes)(f:D4):qW s f=some (xW s (ti f)):=by simp only[qW,U6,abR,ab]
def Ar (s:lF)(f:D4):Int:=bif ((s.2.length:Int)==0)||decide (xW s.1 (ti f)<0) then-1 else tmod (xW s.1 (ti f)) (s.2.length:Int)
theorem YM (s:lF)(f:D4):wZ s f=some (Ar s f):=by
 unfold wZ Ar;rw[Fp,ab];cases h0:(s.2.length:Int)==0 with|true=>rfl|false=>?_
 cases decide (xW s.1 (ti f)<0)with|true=>rfl|false=>?_
 simp only[af,ab,bQ];rw[aH (by simpa using h0)]
theorem MQ (s:lF)(f:D4)(h:¬Ar s f<0):∃n:Nat,Ar s f=(n:Int)/\n<s.2.length:=by
 unfold Ar at h⊢;cases hc:((s.2.length:Int)==0)||decide (xW s.1 (ti f)<0)with
 |true=>rw[hc]at h;simp at h
 |false=>
  rw[hc]at h;simp only[ch,dk,cw]at hc;simp only[af]at h⊢;have h1:0<=xW s.1 (ti f):=by omega
  rw[dg h1]at h⊢;have:=eJ (xW s.1 (ti f)) (show(0:Int)<s.2.length by omega);obtain⟨n,hn⟩:=aX (show 0<=xW s.1 (ti f)%(s.2.length:Int) by omega);exact⟨n,hn,by omega⟩
def I2 (s:lF)(q:Int)(f:D4):Int:=bif !qD s q||decide (Ar s f<0) then-1 else s.2.getD (Ar s f).toNat 0
theorem So (s:lF)(q:Int)(f:D4)(h:s.2.length<=10^9):qd s q f=some (I2 s q f):=by
 unfold qd I2;rw[YM,ab,KC s q h,ab];cases qD s q with|false=>rfl|true=>?_
 have sv:=MQ s f;cases hd:decide (Ar s f<0)with|true=>rfl|false=>?_
 obtain⟨n,hn,hl⟩:=sv (fP hd);simp only[aj,af,ab,bQ,hn,bn hl,az,cI hl]
theorem NY (t:aw Slot)(f:D4)(h:∀j,j<8->og (fQ t j) f=false):∀n k,walk t f n k= -1
 |0,_=>rfl
 |n+1,k=>by unfold walk;rw[h _ (Dm f k),NY t f h n (k+1)];split<;>rfl
theorem Hz (f:D4):∀(t:aw Slot)(m:Int),(∀s∈t,og s f=false)->wz f t m= -1
 |[],_,_=>rfl
 |s::r,m,h=>by unfold wz;rw[h s (by simp)];exact Hz f r (m+1) (λx hx=>h x (by simp[hx]))
theorem UI (t:aw Slot)(f:D4)(h:nH t=true):wz f t 0=walk t f 8 0:=by simp only[nH,ae,aV,aE,bW]at h;obtain⟨h8,hs⟩:=h;by_cases hex:∃j,j<t.length/\og (fQ t j) f=true;obtain⟨j,hj,hu,e⟩:=B6 f t 0 hex;have:=hs j (by omega);simp only[mN,ae,cC,aK,aV]at this;simp only[og,ae,aV,aB]at hu;rcases this.2 with g|g;rw[hu.1]at g;simp at g;rw[hu.2]at g;rw[show((0:Int))=((0:Nat):Int) from rfl,e,g];omega;have hn:∀j,j<t.length->og (fQ t j) f=false:=λj hj=>Bool.eq_false_iff.2 λhu=>hex ⟨j,hj,hu⟩;rw[NY t f (λj hj=>hn j (by omega)),Hz];intro s wC;obtain⟨j,hj,rfl⟩:=eX wC;have:=hn j hj;rwa[uO hj]at this
def findF (t:aw Slot)(f:D4):Int:=bif nH t then walk t f 8 0 else-1
theorem PE (t:aw Slot)(f:D4)(h:t.length<=10^9):vi t f=some (findF t f):=by
 unfold vi findF;rw[Nk,ab];cases ht:nH t with|false=>rfl|true=>?_
 simp only[aj,af,ah,Sn t f h,ab,UI t f ht]
theorem XU (t:aw Slot)(f:D4):∀n k,walk t f n k= -1\/∃m:Nat,walk t f n k=(m:Int)/\m<8
 |0,_=> .inl rfl
 |n+1,k=>by unfold walk;split;exact .inl rfl;split;exact .inr ⟨_,rfl,Dm f k⟩;exact XU t f n (k+1)
theorem Ry (t:aw Slot)(f:D4)(h:findF t f>=0):∃m:Nat,findF t f=(m:Int)/\m<t.length:=by
 unfold findF at h⊢;cases ht:nH t with
 |false=>rw[ht]at h;simp at h
 |true=>
  rw[ht]at h;simp only[ah]at h⊢;have h8:t.length=8:=by simp only[nH,ae,aV]at ht;exact ht.1
  rcases XU t f 8 0 with g|⟨m,g,hm⟩;omega;exact⟨m,g,by omega⟩
def cD (m:ca):Bool:=m.all (λx=>(x.length:Int)==128)&&decide ((m.length:Int)<=64)
theorem EA (m:ca)(h:m.length<=10^9):ry m=some (cD m):=by
 unfold ry cD;rw[oq (hit:=some false) (fin:=some (decide ((m.length:Int)<=64))) (λx:Bytes=>(x.length:Int)==128) m (by omega) (λi hi nx=>?hs) (λnx=>?hf)]
 case hs=>
  simp only[qu]
  rw[kK,bn hi,ak];rfl
 case hf=>
  simp only[qu]
  rw[jj];rfl
 cases m.all (λx=>(x.length:Int)==128)<;>rfl
theorem Eo (m:ca)(h:m.length<=10^9):qX m=some (cD m):=EA m h
def GV:aA:=(0,0,0,false)
def Es (m:aA):Bool:=dm m.1 0 7&&(dm m.2.1 0 1023&&dm m.2.2.1 0 63)
def ku (d p:Int)(m:aA):Bool:=(m.1==d)&&(m.2.1==p)
def GU (l:aw aA)(i:Nat):Bool:=Es (l.getD i GV)&&(range i).all (λj=> !(ku (l.getD i GV).1 (l.getD i GV).2.1 (l.getD j GV)))
def dF (l:aw aA):Bool:=decide ((l.length:Int)<=96)&&(range l.length).all (GU l)
theorem Qf (l:aw aA)(h:l.length<=10^9):sf l=some (dF l):=by
 unfold sf dF;rw[ot (hit:=some false) (fin:=some true) (GU l) l.length (by omega) (λi nx hi=>?hs) (λnx=>?hf)]
 case hs=>
  simp only[nD]
  rw[kK,bn hi,ak]
  simp only[ah,ab,ei,bL]
  rw[ot (hit:=some false) (fin:=nx ((i:Int)+1)) (λj=> !(ku l[i].1 l[i].2.1 (l.getD j GV))) i (by omega) (λj nx hj=>?hs2) (λnx=>?Ax)]
  case hs2=>
   have hjl:j<l.length:=by omega
   simp only[mq]
   rw[kK,bn hjl,ak]
   simp only[ah,ab,bL,cI hjl,ku,cF,fY];rfl
  case Ax=>
   simp only[mq]
   rw[jj];rfl
  simp only[GU,Es,cI hi,cT]
  cases dm l[i].1 0 7<;>cases dm l[i].2.1 0 1023<;>cases dm l[i].2.2.1 0 63<;>cases (range i).all (λj=> !(ku l[i].1 l[i].2.1 (l.getD j GV)))<;>rfl
 case hf=>
  simp only[nD]
  rw[jj];rfl
 have e:decide ((l.length:Int)>96)= !decide ((l.length:Int)<=96):=by rw[cB];simp
 rw[e];cases decide ((l.length:Int)<=96)<;>cases (range l.length).all (GU l)<;>rfl
def NA (l:aw aA)(d p:Int):Int:=match l.findIdx? (ku d p)with|some i=>(i:Int)|none=> -1
theorem Ky (l:aw aA)(d p:Int)(h:l.length<=10^9):kb l d p=some (NA l d p):=by
 unfold kb NA;rw[C1 (hit:=λi=>some i) (fin:=some (-1)) (ku d p) l (by omega) (λi hi nx=>?hs) (λnx=>?hf)]
 case hs=>
  simp only[mf]
  rw[kK,bn hi,ak]
  simp only[ah,ab,bL,cF,ku];rfl
 case hf=>
  simp only[mf]
  rw[jj];rfl
 cases l.findIdx? (ku d p)<;>rfl
theorem VK (l:aw aA)(i:Nat)(hi:i<l.length):(NA l l[i].1 l[i].2.1==(i:Int))=(range i).all (λj=> !(ku l[i].1 l[i].2.1 (l.getD j GV))):=by
 have yM:ku l[i].1 l[i].2.1 l[i]=true:=by simp[ku]
 unfold NA;cases hq:l.findIdx? (ku l[i].1 l[i].2.1)with
 |none=>rw[List.findIdx?_eq_none_iff]at hq;rw[hq l[i] (bm hi)]at yM;cases yM
 |some k=>
  rw[List.findIdx?_eq_some_iff_getElem]at hq;obtain⟨hk,hpk,gW⟩:=hq;rw[cB,aE];simp only[bW,aV,aK];constructor;intro e j hj;have hjl:j<l.length:=by omega
  rw[cI hjl];have:=gW j (by omega);simpa using this;intro Ej;rcases Nat.lt_trichotomy k i with hki|hki|hki;have:=Ej k hki;rw[cI hk,hpk]at this;cases this;omega;have:=gW i hki;rw[yM]at this;simp at this
theorem Fq (l:aw aA)(h:l.length<=10^9):nN l=some (dF l):=by
 unfold nN dF;rw[ot (hit:=some false) (fin:=some (decide ((l.length:Int)<=96))) (GU l) l.length (by omega) (λi nx hi=>?hs) (λnx=>?hf)]
 case hs=>
  simp only[nj]
  rw[kK,bn hi,ak]
  simp only[ah,ab,de,bL,Ky _ _ _ h,bne,VK l i hi,GU,Es,cI hi]
  cases dm l[i].1 0 7<;>cases dm l[i].2.1 0 1023<;>cases dm l[i].2.2.1 0 63<;>cases (range i).all (λj=> !(ku l[i].1 l[i].2.1 (l.getD j GV)))<;>rfl
 case hf=>
  simp only[nj]
  rw[jj];rfl
 cases decide ((l.length:Int)<=96)<;>cases (range l.length).all (GU l)<;>rfl
def B9 (n:Int)(l:cL)(i:Nat):Bool:=dm (l.getD i 0) 0 (n-1)&& !((l.take i).contains (l.getD i 0))
def dx (p:cK):Bool:=dm p.1 0 130944&&(dm p.2.1 1 512&&(dm p.2.2.1 0 16&&(range p.2.2.2.length).all (B9 p.2.2.1 p.2.2.2)))
def BF (n:Int)(l:cL):aw Bool:=(range n.toNat).map λk:Nat=>l.contains (k:Int)
theorem NN (n:Int)(l:cL):(BF n l).length=n.toNat:=by simp[BF]
theorem Dh (n:Int)(l:cL)(k:Nat)(h:k<(BF n l).length):(BF n l)[k]=l.contains (k:Int):=by simp[BF]
theorem aai (n:Int)(l:cL)(k:Nat)(h:k<n.toNat):(BF n l).set k true=BF n (l++[(k:Int)]):=by
 apply List.ext_getElem;simp[BF];intro j h1 h2;rw[List.getElem_set];split;rename_i e;subst e;rw[Dh];simp;rename_i e;rw[Dh,Dh];simp only[List.contains_append];have:([(k:Int)].contains (j:Int))=false:=by simp;omega
 rw[this];simp
theorem S6 {T:(aw Bool×Int->ax Bool)->aw Bool×Int->ax Bool}(n:Int)(l:cL)(hl:l.length<=10^9)
 (hs:∀i (hi:i<l.length)(s:aw Bool) nx,T nx (s,(i:Int))=aa (cond (!(dm l[i] 0 (n-1))) (some true) (aa (idx s l[i]) λx=>some x)) λq=>
  cond q (some false) (aa (idx s l[i]) λ_=>aa (idx s l[i]) λ_=>nx (s.set l[i].toNat true,((i+1:Nat):Int)))) (hf:∀s nx,T nx (s,(l.length:Int))=some true):
 bc T fuel (List.replicate n.toNat false,0)=some ((range l.length).all (B9 n l)):=by
 have e0:(List.replicate n.toNat false,(0:Int))=(BF n (l.take 0),((0:Nat):Int)):=by congr 1;simp only[BF,List.take_zero,List.contains_nil,List.map_const',List.length_range]
 rw[e0,ME (hit:=some false) (fin:=some true) (λi=>(BF n (l.take i),(i:Int))) (B9 n l) l.length (by omega) (λi nx hi hp=>?hs) (λ_ nx=>hf _ nx)]
 case hs=>
  rw[hs i hi]
  unfold B9
  rw[cI hi]
  by_cases sv:dm l[i] 0 (n-1)=true
  ·have hb:=sv
   rw[bh]at hb
   obtain⟨k,hk⟩:∃k:Nat,l[i]=(k:Int):=⟨l[i].toNat,by omega⟩
   have hkn:k<(BF n (l.take i)).length:=by rw[NN];omega
   rw[sv,hk,bn hkn,Dh]
   simp only[aj,af,ab,bC,fY,az]
   rw[aai _ _ _ (by rw[NN]at hkn;exact hkn),<-hk,<-bI hi]
  ·have ahP:dm l[i] 0 (n-1)=false:=by simpa using sv
   rw[ahP];rfl
 cases (range l.length).all (B9 n l)<;>rfl
theorem F4 (p:cK)(h:p.2.2.2.length<=10^9):sQ p=some (dx p):=by
 unfold sQ dx;simp only[ei,ab,bL];by_cases hn:dm p.2.2.1 0 16=true
 ·have hb:=hn;rw[bh]at hb;rw[zip,aS,S6 p.2.2.1 p.2.2.2 h (λi hi s nx=>?hs) (λs nx=>?hf)]
  case hs=>
   simp only[uc]
   rw[kK,bn hi,ak (n:=(i:Int)+1),ak (n:=p.2.2.1-1)]
   simp only[ah,ab,ei];rfl
  case hf=>
   simp only[uc]
   rw[jj];rfl
  rw[hn];cases dm p.1 0 130944<;>cases dm p.2.1 1 512<;>rfl
 have BB:dm p.2.2.1 0 16=false:=by simpa using hn
 rw[BB];cases dm p.1 0 130944<;>cases dm p.2.1 1 512<;>rfl
theorem tk (p:cK)(h:p.2.2.2.length<=10^9):iw p=some (dx p):=by
 unfold iw dx;simp only[de,ab,bL];by_cases hn:dm p.2.2.1 0 16=true
 ·have hb:=hn;rw[bh]at hb;rw[zip,aS,S6 p.2.2.1 p.2.2.2 h (λi hi s nx=>?hs) (λs nx=>?hf)]
  case hs=>
   simp only[tC]
   rw[kK,bn hi,ak (n:=(i:Int)+1),ak (n:=p.2.2.1-1)]
   simp only[ah,ab,de];rfl
  case hf=>
   simp only[tC]
   rw[jj];rfl
  rw[hn];cases dm p.1 0 130944<;>cases dm p.2.1 1 512<;>rfl
 have BB:dm p.2.2.1 0 16=false:=by simpa using hn
 rw[BB];cases dm p.1 0 130944<;>cases dm p.2.1 1 512<;>rfl
def iL (n:Int):Bool:=(n==2)||((n==4)||((n==8)||(n==16)))
theorem Er (n:Int):um n=some (iL n):=by simp only[um,bL,ab,iL,cT]
theorem CA (n:Int):rh n=some (iL n):=Er n
theorem gF {n:Int}:iL n=true↔n=2\/n=4\/n=8\/n=16:=by simp[iL]
theorem Ak (x:Int)(k:Nat)(hk:k<=64:=by omega):aq x%(2^k:Int)=x%(2^k:Int):=by
 obtain⟨c,hc⟩:∃c:Int,(18446744073709551616:Int)=2^k*c:=⟨2^(64-k),by rw[<-Int.pow_add,show k+(64-k)=64 by omega];rfl⟩
 have:aq x=x\/∃q:Int,aq x=x+18446744073709551616*q:=by
  right;simp only[aq,fU,IntKind.wrap,IntKind.bits,IntKind.signed];simp;have h1:x=x%18446744073709551616+18446744073709551616*(x/18446744073709551616):=by omega
  split;exact⟨-(x/18446744073709551616)-1,by omega⟩;exact⟨-(x/18446744073709551616),by omega⟩
 rcases this with h|⟨q,h⟩;rw[h];rw[h,hc,Int.mul_assoc,Int.add_mul_emod_self_left]
theorem BN (x:Int)(k:Nat)(hk:k<63:=by omega):((gb x&&&gb (2^k-1)).toNat:Int)=x%2^k:=by
 have h2:(2:Int)^k<=2^62:=by have:(2:Nat)^k<=2^62:=Nat.pow_le_pow_right (by omega) (by omega);exact_mod_cast this
 have h0:(1:Int)<=2^k:=by have:1<=(2:Nat)^k:=Nat.one_le_two_pow;exact_mod_cast this
 have hm:(gb (2^k-1)).toNat=2^k-1:=by
  show(BitVec.ofInt 64 (2^k-1)).toNat=2^k-1;rw[BitVec.toNat_ofInt,Int.emod_eq_of_lt (by omega) (by omega)];have:((2:Int)^k-1)=((2^k-1:Nat):Int):=by have:1<=(2:Nat)^k:=Nat.one_le_two_pow;push_cast [this];rfl
  rw[this];rfl
 rw[BitVec.toNat_and,hm,Nat.and_two_pow_sub_one_eq_mod];show(((BitVec.ofInt 64 x).toNat%2^k:Nat):Int)=x%2^k;rw[BitVec.toNat_ofInt];have hx:0<=x%18446744073709551616:=by omega
 have e:(((x%18446744073709551616).toNat%2^k:Nat):Int)=(x%18446744073709551616)%2^k:=by push_cast;rw[Int.toNat_of_nonneg hx]
 refine e.trans ?_;exact Int.emod_emod_of_dvd x ⟨2^(64-k),by rw[<-Int.pow_add,show k+(64-k)=64 by omega];rfl⟩
theorem GZ (x n:Int)(h0:0<n:=by omega)(h1:n<=4611686018427387904:=by omega):ix x n=some (x%n):=by
 unfold ix;have:=eG x (show n≠0 by omega);have:=eJ x h0;have hn:(n.natAbs:Int)=n:=by omega
 rw[lR,Int.tmod_eq_emod];split;rw[jj];simp;rw[kK,ak];simp only[ah,hn];congr 1;omega
def bH (r:lE):Int:=if iL r.2.1 then(r.2.2.2-r.2.2.1)%(2*r.2.1) else 0
theorem TC (r:lE):rC r=some (bH r):=by
 unfold rC bH;rw[Er,ab];cases hs:iL r.2.1 with
 |false=>rfl
 |true=>
  simp only[aj,af,bP];congr 1;rcases gF.1 hs with h|h|h|h<;>rw[h];have e:aq (aq (2*2)-1)=2^2-1:=by decide
  rw[e,BN _ 2,Ak _ 2,ak];rfl;have e:aq (aq (2*4)-1)=2^3-1:=by decide
  rw[e,BN _ 3,Ak _ 3,ak];rfl;have e:aq (aq (2*8)-1)=2^4-1:=by decide
  rw[e,BN _ 4,Ak _ 4,ak];rfl;have e:aq (aq (2*16)-1)=2^5-1:=by decide
  rw[e,BN _ 5,Ak _ 5,ak];rfl
theorem yb (r:lE):iV r=some (bH r):=by unfold iV bH;rw[CA,ab];cases hs:iL r.2.1 with|false=>rfl|true=>simp only[aj,af,bP];have hb:=gF.1 hs;rw[ak (n:=2*r.2.1)];have a1:=eG r.2.2.2 (show 2*r.2.1≠0 by omega);have a2:=eJ r.2.2.2 (show 0<2*r.2.1 by omega);have a3:=eG r.2.2.1 (show 2*r.2.1≠0 by omega);have a4:=eJ r.2.2.1 (show 0<2*r.2.1 by omega);simp only[GZ _ (2*r.2.1) (show 0<2*r.2.1 by omega),ab];rw[ak,<-Int.sub_emod]
def cU (r:lE):Bool:=dm r.1 0 130944&&(iL r.2.1&&(dm r.2.2.1 0 (2*r.2.1-1)&&(dm r.2.2.2 0 (2*r.2.1-1)&&decide (bH r<=r.2.1))))
theorem xK {n:Int}(h:iL n=true):aq (aq (2*n)-1)=2*n-1:=by have:=gF.1 h;rw[ak (n:=2*n),ak]
theorem Lq (r:lE):sR r=some (cU r):=by unfold sR cU;simp only[ei,Er,TC,ab,bL,cF];cases hs:iL r.2.1 with|false=>rfl|true=>rw[xK hs]
theorem vV (r:lE):jh r=some (cU r):=by unfold jh cU;simp only[de,CA,yb,ab,bL,cF];cases hs:iL r.2.1 with|false=>rfl|true=>rw[xK hs]
theorem Vn (p:cK)(h:p.2.2.2.length<=10^9):xt p=some p:=by unfold xt;rw[aS (by simp;omega)];rfl
theorem kY (l:cL)(h:l.length<=10^9):fL l=some l:=by unfold fL;rw[aS (by simp;omega)];rfl
theorem sF (p:cK)(h:p.2.2.2.length<=10^9):hH p=some p:=by unfold hH;rw[kY _ h];rfl
def gk (p:cK)(l:cL):cK:=(p.1,p.2.1,p.2.2.1,p.2.2.2++l)
def zL (p:cK)(l:cL):Bool:=dx p&&dx (gk p l)
def Ei (p:cK)(l:cL):cK×Bool:=bif zL p l then(gk p l,true) else(p,false)
theorem Kx (p:cK)(l:cL)(h:p.2.2.2.length+l.length<=10^9):fK p l=some (Ei p l):=by unfold fK;rw[sF p (by omega),ab,aS,tk p (by omega)];rw[tk (p.1,p.2.1,p.2.2.1,p.2.2.2++l) (by simp;omega)];simp only[ab,bL,Ei,zL];show _=some (bif dx p&&dx (p.1,p.2.1,p.2.2.1,p.2.2.2++l) then _ else _);cases dx p<;>cases dx (p.1,p.2.1,p.2.2.1,p.2.2.2++l)<;>rfl
theorem ahG (p:cK)(l:cL):(Ei p l).2=zL p l:=by unfold Ei;cases zL p l<;>rfl
def nz (n:Int)(s:kI):Bool:=dm s.2.1 1 n&&dm s.1 0 65535
def bz (l:aw kI):cL:=l.flatMap (·.2.2)
def dH (l:aw kI):Int:=(l.map (·.2.1)).sum
def LH (t:dG):Bool:=cU t.1&&(dx t.2.1&&(dm t.2.2.2 0 65535&&(t.2.2.1.all (nz t.1.2.1)&&(zL t.2.1 (bz t.2.2.1)&&decide (dH t.2.2.1<=t.1.2.1)))))
theorem wS (n:Int):∀l:aw kI,l.all (nz n)=true->0<=dH l
 |[],_=>by simp[dH]
 |x::l,h=>by simp only[cc,ae]at h;have:=wS n l h.2;have hx:=h.1;unfold nz at hx;simp only[ae,bh]at hx;simp only[dH,cR,List.sum_cons]at this⊢;omega
theorem Nh (p:cK)(n:Int)(hn:n<=16)(fin:Int×cL->ax Bool)(ph:∀s:Int×cL,p.2.2.2.length+s.2.length<=10^9->fin s=some (zL p s.2)):
 ∀(l:aw kI)(left:Int)(acc:cL),0<=left->left<=n->p.2.2.2.length+(acc.length+(bz l).length)<=10^9->
 Bv (λx (s:Int×cL) k=>cond (decide (x.2.1<1)||(decide (x.2.1>s.1)|| !(dm x.1 0 65535))) (some false) (room (s.2.length+x.2.2.length) (k (aq (s.1-x.2.1),s.2++x.2.2)))) fin l (left,acc)
  =some (l.all (nz n)&&(zL p (acc++bz l)&&decide (dH l<=left)))
 |[],left,acc,h0,h1,h2=>by rw[Bv,ph _ (by simp[bz]at h2;exact h2)];simp[bz,dH,h0]
 |x::l,left,acc,h0,h1,h2=>by
  have hb:bz (x::l)=x.2.2++bz l:=by simp[bz]
  have hc:dH (x::l)=x.2.1+dH l:=by simp only[dH,cR,List.sum_cons]
  rw[hb,ai]at h2;rw[Bv,cc,hb,hc];by_cases c1:x.2.1<1;have e:nz n x=false:=by unfold nz dm;rw[ar (show¬1<=x.2.1 by omega)];rfl
  rw[e,au c1];rfl;rw[ar c1];by_cases c2:x.2.1>left;rw[au c2];simp only[iu,cE,gG,ah];cases ha:l.all (nz n)with|false=>simp|true=>have:=wS n l ha;rw[ar (show¬x.2.1+dH l<=left by omega)];simp
  rw[ar c2];have e:nz n x=dm x.1 0 65535:=by have:dm x.2.1 1 n=true:=bh.2 ⟨by omega,by omega⟩;unfold nz;rw[this];rfl
  rw[e];cases dm x.1 0 65535 with
  |false=>rfl
  |true=>
   simp only[cE,aj,af,bC];rw[aS,ak,Nh p n hn fin ph l _ _ (by omega) (by omega) (by rw[ai];omega),aP];have e:decide (dH l<=left-x.2.1)=decide (x.2.1+dH l<=left):=by rw[cB];simp;omega
   rw[e]
theorem Ve (t:dG)(h1:t.2.2.1.length<=10^9)(h2:t.2.1.2.2.2.length+(bz t.2.2.1).length<=10^9):xH t=some (LH t):=by
 unfold xH LH;simp only[vV,tk _ (show t.2.1.2.2.2.length<=10^9 by omega),de,ab,bL];cases hr:cU t.1 with
 |false=>rfl
 |true=>
  have hn:0<=t.1.2.1/\t.1.2.1<=16:=by unfold cU at hr;simp only[ae]at hr;have:=gF.1 hr.2.1;omega
  have Bx:=ee;have key:=De (R:=Bool) (T:=tG (λ(_:Int) (y9:cL) (_:Int)=>aa (fK t.2.1 y9) λuB=>some uB.2) (λ(Gn:Bool) (_:Int) (_:cL) (_:Int)=>some Gn) false t.2.2.1 ((List.length t.2.2.1:Int)) t) t.2.2.1 (λ(s:Int×cL) i=>(s.1,s.2,(i:Int))) (λx (s:Int×cL) k=>cond (decide (x.2.1<1)||(decide (x.2.1>s.1)|| !(dm x.1 0 65535))) (some false) (room (s.2.length+x.2.2.length) (k (aq (s.1-x.2.1),s.2++x.2.2)))) (λs=>aa (fK t.2.1 s.2) λsB=>some sB.2) (λi hi s nx=>by simp only[tG];rw[kK,bn hi,ak (n:=(i:Int)+1)];simp only[ah,ab,de,bL,cT];rfl) (λs nx=>by simp only[tG];rw[jj];rfl) fuel 0 (t.1.2.1,([]:cL)) (by omega) (by omega);rw[eV,Nh t.2.1 t.1.2.1 (by omega) _ (λs hs=>by rw[Kx _ _ hs,ab,ahG]) _ _ _ (by omega) (by omega) (by simpa using h2)]at key;cases dx t.2.1 with|false=>rfl|true=>cases dm t.2.2.2 0 65535 with|false=>rfl|true=>refine key.trans ?_;simp
def rp (s:ed):Bool:=dm s.2.1 0 65535&&(dm s.2.2.1 0 65535&&(!decide ((List.length s.2.2.2.2.2.2.2:Int)>320)&&
 (bif s.1==17 then(s.2.2.2.1==0)&&((s.2.2.2.2.1==0)&&((s.2.2.2.2.2.1==0)&&(s.2.2.2.2.2.2.1==0)))
  else(s.1==6)&&(dm s.2.2.2.1 0 4294967295&&(dm s.2.2.2.2.1 0 4294967295&&(dm s.2.2.2.2.2.1 0 31&&dm s.2.2.2.2.2.2.1 0 65535))))))
theorem XG (s:ed):pN s=some (rp s):=by simp only[pN,ei,ab,bL,cF,cT,cN,Bool.not_or,fY,Bool.and_assoc,rp]
theorem Xi (s:ed):pA s=some (rp s):=by simp only[pA,de,ab,bL,cF,cT,cN,Bool.not_or,fY,Bool.and_assoc,rp];by_cases h:s.1=17;rw[h];rfl;rw[show(s.1==17)=false from by simpa using h];cases s.1==6<;>rfl
def As (f:Int):Bool:=(f==16)||(f==17)||(f==24)||(f==25)
theorem J2 (f:Int)(h:dm f 0 31=true):(aq (toNat (gb f&&&~~~ gb 9))==16)=As f:=by
 have key:∀k:Fin 32,(aq (toNat (gb (k.val:Int)&&&~~~ gb 9))==16)=As (k.val:Int):=by decide
 rw[bh]at h;have:=key ⟨f.toNat,by omega⟩;rwa[show((f.toNat:Nat):Int)=f by omega]at this
theorem J1 (f:Int)(h:dm f 0 31=true):pE f=some (As f):=by
 have key:∀k:Fin 32,((aq (toNat (gb (k.val:Int)&&&gb 16)) !=0)&&(aq (toNat (gb (k.val:Int)&&&~~~ gb 25))==0))=As (k.val:Int):=by decide
 rw[bh]at h;have:=key ⟨f.toNat,by omega⟩;rw[show((f.toNat:Nat):Int)=f by omega]at this;simp only[pE,bL,ab,cF];rw[this]
theorem Di {s:ed}(h:rp s=true)(h6:(s.1==6)=true):dm s.2.2.2.2.2.1 0 31=true:=by
 have:s.1=6:=by simpa using h6
 unfold rp at h;rw[this]at h;simp only[ae]at h;have h:=h.2.2.2;simp at h;exact h.2.2.1
def oJ (p:aO):Bool:=dm p.1 0 281474976710655&&(dm p.2.1 0 281474976710655&&(dm p.2.2.1 (-1) 4095&&(dm p.2.2.2.1 0 255&&(dm p.2.2.2.2.2.1 0 255&&(dm p.2.2.2.2.1 0 65535&&(dm p.2.2.2.2.2.2.1 0 4294967295&&(dm p.2.2.2.2.2.2.2.1 0 4294967295&&rp p.2.2.2.2.2.2.2.2)))))))
def dw (p:aO):Bool:=oJ p&&(decide ((List.length p.2.2.2.2.2.2.2.2.2.2.2.2.2.2.2:Int)<=128)||(p.2.2.2.2.2.2.2.2.1==6)&&As p.2.2.2.2.2.2.2.2.2.2.2.2.2.1)
theorem xZ (h:oJ p=true):rp p.2.2.2.2.2.2.2.2=true:=by unfold oJ at h;simp only[ae]at h;exact h.2.2.2.2.2.2.2.2
theorem Hm (p:aO):qz p=some (dw p):=by unfold qz dw;simp only[ei,XG,ab,bL,cF,cT,cN,Bool.not_or,fY];rw[show(dm p.1 0 281474976710655&&(dm p.2.1 0 281474976710655&&(dm p.2.2.1 (-1) 4095&&(dm p.2.2.2.1 0 255&&(dm p.2.2.2.2.2.1 0 255&&(dm p.2.2.2.2.1 0 65535&&(dm p.2.2.2.2.2.2.1 0 4294967295&&(dm p.2.2.2.2.2.2.2.1 0 4294967295&&rp p.2.2.2.2.2.2.2.2))))))))=oJ p from rfl];cases hh:oJ p with|false=>rfl|true=>cases h6:p.2.2.2.2.2.2.2.2.1==6 with|false=>simp|true=>rw[J2 _ (Di (xZ hh) h6)];simp[Bool.or_comm]
theorem ov (p:aO):gj p=some (dw p):=by
 unfold gj dw;simp only[de,Xi,ab];have e:∀X:ax Bool,(cond (dm p.1 0 281474976710655) (cond (dm p.2.1 0 281474976710655) (cond (dm p.2.2.1 (-1) 4095) (cond (dm p.2.2.2.1 0 255) (cond (dm p.2.2.2.2.2.1 0 255) (cond (dm p.2.2.2.2.1 0 65535) (cond (dm p.2.2.2.2.2.2.1 0 4294967295) (cond (dm p.2.2.2.2.2.2.2.1 0 4294967295) (cond (rp p.2.2.2.2.2.2.2.2) X (some false)) (some false)) (some false)) (some false)) (some false)) (some false)) (some false)) (some false)) (some false))=cond (oJ p) X (some false):=by
  intro X;unfold oJ;cases dm p.1 0 281474976710655 with|false=>rfl|true=>?_
  cases dm p.2.1 0 281474976710655 with|false=>rfl|true=>?_
  cases dm p.2.2.1 (-1) 4095 with|false=>rfl|true=>?_
  cases dm p.2.2.2.1 0 255 with|false=>rfl|true=>?_
  cases dm p.2.2.2.2.2.1 0 255 with|false=>rfl|true=>?_
  cases dm p.2.2.2.2.1 0 65535 with|false=>rfl|true=>?_
  cases dm p.2.2.2.2.2.2.1 0 4294967295 with|false=>rfl|true=>?_
  cases dm p.2.2.2.2.2.2.2.1 0 4294967295<;>rfl
 rw[e];cases hh:oJ p with|false=>rfl|true=>cases h6:p.2.2.2.2.2.2.2.2.1==6 with|false=>simp[bL]|true=>rw[J1 _ (Di (xZ hh) h6)];simp only[ah,ab,bL,cT,bC]
def fF (q:LP):Bool:=dm q.1 0 130944&&(iL q.2.1&&dm q.2.2 0 (aq ((aq (2*q.2.1))-1)))
theorem GL (q:LP):nn q=some (fF q):=by simp only[nn,de,CA,ab,bL,cF,fF]
def aaG:qH:=((0,0,0,0,0,0,0,0,0,0,0,0,0,0,0,([]:Bytes)),0,0)
def XL (p:qH):Bool:=(p.1.1==0)&&((p.1.2.1==0)&&((p.1.2.2.1==0)&&((p.1.2.2.2.1==0)&&((p.1.2.2.2.2.1==0)&&((p.1.2.2.2.2.2.1==0)&&((p.1.2.2.2.2.2.2.1==0)&&((p.1.2.2.2.2.2.2.2.1==0)&&((p.1.2.2.2.2.2.2.2.2.1==0)&&((p.1.2.2.2.2.2.2.2.2.2.1==0)&&((p.1.2.2.2.2.2.2.2.2.2.2.1==0)&&((p.1.2.2.2.2.2.2.2.2.2.2.2.1==0)&&((p.1.2.2.2.2.2.2.2.2.2.2.2.2.1==0)&&((p.1.2.2.2.2.2.2.2.2.2.2.2.2.2.1==0)&&((p.1.2.2.2.2.2.2.2.2.2.2.2.2.2.2.1==0)&&((p.1.2.2.2.2.2.2.2.2.2.2.2.2.2.2.2==([]:Bytes))&&((p.2.1==0)&&((p.2.2==0)&&true)))))))))))))))))
def EP (r:bT):Bool:=(cU r.1&&(fF r.2.1&&(fF r.2.2.1&&((r.2.1.1==r.2.2.1.1)&&((r.2.1.2.1==r.2.2.1.2.1)&&dm r.2.2.2.2.2 0 1000000000000)))))&&
 (bif r.2.2.2.2.1 then dw r.2.2.2.1.1&&(dm r.2.2.2.1.2.1 0 320&&dm r.2.2.2.1.2.2 1 320) else XL r.2.2.2.1)
theorem ac6 (p:qH):XL p=true↔p=aaG:=by obtain⟨⟨a,b,c,d,e,f,g,h,i,j,k,l,m,n,o,q⟩,r,s⟩:=p;simp only[XL,aaG,dR,ae,aV,Prod.mk.injEq,and_assoc]
theorem PJ (r:bT):uF r=some (EP r):=by unfold uF EP XL;simp only[vV,GL,de,ov,ab,bL,cF,cT,cN,Bool.not_or,fY,bne];cases r.2.2.2.2.1<;>rfl
def ez (v:Vector):Bool:=(lM v).getD false
theorem EC (v:Vector):lM v=some (ez v):=by
 have:∃b,lM v=some b:=by simp only[lM,sS,ei,ab,bL];exact⟨_,rfl⟩
 obtain⟨b,hb⟩:=this;rw[ez,hb];rfl
theorem yc (v:Vector):lI v=some (ez v):=EC v
theorem Hc (l:aw α)(p:α->Bool):(range l.length).all (λi=>l[i]?.all p)=l.all p:=by rw[cB,aE,aE];constructor;intro h x hx;obtain⟨i,hi,rfl⟩:=eX hx;have:=h i (bW.2 hi);rwa[al hi]at this;intro h i hi;rw[al (bW.1 hi)];exact h _ (bm _)
theorem Wx (l:aw α)(p q:α->Bool):l.all (λx=>p x&&q x)=(l.all p&&l.all q):=by induction l with|nil=>rfl|cons x l ih=>simp only[cc,ih];cases p x<;>cases q x<;>cases l.all p<;>rfl
def ie (h:Host):cL:=[h.2.2.2.2.2.2.2.2.2.2.2.2.2.2.1,h.2.2.2.2.2.2.2.2.2.2.2.2.2.2.2.1,h.2.2.2.2.2.2.2.2.2.2.2.2.2.2.2.2.1,h.2.2.2.2.2.2.2.2.2.2.2.2.2.2.2.2.2.1,h.2.2.2.2.2.2.2.2.2.2.2.2.2.2.2.2.2.2]
def qI (h:Host):Bool:=dm (h.2.2.2.1.length:Int) 1 2&&(((h.2.2.2.2.1.length:Int)==(h.2.2.2.1.length:Int))&&(((h.2.2.2.2.2.1.length:Int)==(h.2.2.2.1.length:Int))&&((h.2.2.2.2.2.2.1.length:Int)==(h.2.2.2.1.length:Int))))
def Ti (h:Host):Bool:=h.2.2.2.1.all EP&&(h.2.2.2.2.1.all dx&&h.2.2.2.2.2.1.all ez)
def dW (h:Host):Bool:=cD h.1&&(dF h.2.1&&(LH h.2.2.1&&(pT h.2.2.2.2.2.2.2.1&&(qI h&&(ff h.2.2.2.2.2.2.2.2.1 (h.2.2.2.1.length:Int)&&(Ti h&&(ie h).all (λx=>dm x 0 1000000000000)))))))
structure I8 (h:Host):Prop where
 a1:h.1.length<=10^9
 a2:h.2.1.length<=10^9
 t1:h.2.2.1.2.2.1.length<=10^9
 t2:h.2.2.1.2.1.2.2.2.length+(bz h.2.2.1.2.2.1).length<=10^9
 f1:h.2.2.2.2.2.2.2.1.2.2.length<=10^9
 s1:h.2.2.2.2.2.2.2.2.1.1.length<=10^9
 s2:h.2.2.2.2.2.2.2.2.1.2.1.length<=10^9
 s3:h.2.2.2.2.2.2.2.2.1.2.2.2.length<=10^9
 p1:∀p∈h.2.2.2.2.1,p.2.2.2.length<=10^9
theorem qo (l:qI h=true):h.2.2.2.1.length<=2/\h.2.2.2.2.1.length=h.2.2.2.1.length/\h.2.2.2.2.2.1.length=h.2.2.2.1.length/\h.2.2.2.2.2.2.1.length=h.2.2.2.1.length:=by unfold qI at l;simp only[ae,bh,aV]at l;omega
theorem aaf {T:(Int->ax R)->Int->ax R}{fin hit:ax R}(l:qI h=true)(hs:∀i (hi:i<h.2.2.2.1.length) nx,T nx (i:Int)=cond (!(EP h.2.2.2.1[i]&&(dx (h.2.2.2.2.1[i]'((qo l).2.1▸hi))&&ez (h.2.2.2.2.2.1[i]'((qo l).2.2.1▸hi))))) hit (nx ((i+1:Nat):Int)))(hf:∀nx,T nx (h.2.2.2.1.length:Int)=fin):bc T fuel 0=cond (Ti h) fin hit:=by
 have hl:=qo l;rw[ot (fin:=fin) (hit:=hit) (λi=>h.2.2.2.1[i]?.all EP&&(h.2.2.2.2.1[i]?.all dx&&h.2.2.2.2.2.1[i]?.all ez)) h.2.2.2.1.length (by omega) ?hs hf]
 case hs=>
  intro i nx hi
  rw[hs i hi,al hi,al (hl.2.1▸hi),al (hl.2.2.1▸hi)]
  rfl
 rw[Wx,Wx,Hc];have e1:=Hc h.2.2.2.2.1 dx;have e2:=Hc h.2.2.2.2.2.1 ez;rw[hl.2.1]at e1;rw[hl.2.2.1]at e2;rw[e1,e2];rfl
theorem Q0 {T:(Int->ax R)->Int->ax R}{fin hit:ax R}(h:Host)(hs:∀i (hi:i<(ie h).length) nx,T nx (i:Int)=cond (!(dm (ie h)[i] 0 1000000000000)) hit (nx ((i+1:Nat):Int)))(hf:∀nx,T nx ((ie h).length:Int)=fin):bc T fuel 0=cond ((ie h).all (λx=>dm x 0 1000000000000)) fin hit:=oq (λx=>dm x 0 1000000000000) (ie h) (by simp[ie]) hs hf
theorem pz (h:Host)(z:I8 h):gA h=some (dW h):=by
 unfold gA dW;simp only[Eo _ z.a1,Fq _ z.a2,Ve _ z.t1 z.t2,Kv _ z.f1,Fw _ _ z.s1 z.s2 z.s3,de,ab,bL];cases cD h.1 with|false=>rfl|true=>?_
 cases dF h.2.1 with|false=>rfl|true=>?_
 cases LH h.2.2.1 with|false=>rfl|true=>?_
 cases pT h.2.2.2.2.2.2.2.1 with|false=>rfl|true=>?_
 simp only[aj,af,cT,bne];rw[show(!dm (h.2.2.2.1.length:Int) 1 2||(!((h.2.2.2.2.1.length:Int)==(h.2.2.2.1.length:Int))||(!((h.2.2.2.2.2.1.length:Int)==(h.2.2.2.1.length:Int))|| !((h.2.2.2.2.2.2.1.length:Int)==(h.2.2.2.1.length:Int)))))= !(qI h) by unfold qI;simp only[Bool.not_and]];cases hl:qI h with|false=>rfl|true=>?_
 have hL:=qo hl;simp only[aj,af,bC];rw[aaf (h:=h) (hit:=some false) (fin:=some ((ie h).all (λx=>dm x 0 1000000000000)&&ff h.2.2.2.2.2.2.2.2.1 (h.2.2.2.1.length:Int))) hl ?hs ?hf]
 case hs=>
  intro i hi nx
  simp only[tu]
  rw[kK,bn hi,bn (hL.2.1▸hi),bn (hL.2.2.1▸hi),ak (n:=(i:Int)+1)]
  simp only[ah,ab,PJ,yc,tk _ (z.p1 _ (bm _)),bL,cT,Bool.not_and]
  rfl
 case hf=>
  intro nx
  simp only[tu]
  rw[jj]
  simp only[af]
  refine(Q0 (fin:=some (ff h.2.2.2.2.2.2.2.2.1 (h.2.2.2.1.length:Int))) (hit:=some false) h ?_ ?_).trans ?_
  ·intro i hi nx
   simp only[rL]
   have ng:i<5:=hi
   change (bif decide ((i:Int)<5) then aa (idx (ie h) (i:Int)) _ else _)=_
   rw[kK,bn hi,ak (n:=(i:Int)+1),ab,de]
   rfl
  ·intro nx
   simp only[rL]
   rw[ar (by simp[ie])];rfl
  ·cases (ie h).all (λx=>dm x 0 1000000000000)<;>rfl
 cases Ti h<;>cases ff h.2.2.2.2.2.2.2.2.1 (h.2.2.2.1.length:Int)<;>cases (ie h).all (λx=>dm x 0 1000000000000)<;>rfl
def hasB (l:cL)(v:Int):Bool:=l.any (·==v)
theorem aeZ (l:cL)(v:Int)(h:l.length<=10^9):sL l v=some (hasB l v):=by
 unfold sL hasB;rw[I9 (hit:=some true) (fin:=some false) (λx:Int=>x==v) l (by omega) (λi hi nx=>?hs) (λnx=>?hf)]
 case hs=>
  simp only[tK]
  rw[kK,bn hi,ak];rfl
 case hf=>
  simp only[tK]
  rw[jj];rfl
 cases l.any (λx=>x==v)<;>rfl
theorem TH (l:aw α)(j:Nat)(h:j<=l.length):sub l (j:Int) (l.length:Int)=some (l.drop j):=by unfold sub;rw[zip];simp
def xL (f:Filter)(p:aO):Bool:=pT f&&(((p.1==f.1)||((p.1==281474976710655)||f.2.1))&&((p.2.2.1== -1)||hasB f.2.2 p.2.2.1))
theorem Sb (f:Filter)(p:aO)(h:f.2.2.length<=10^9):wW f p=some (xL f p):=by simp only[wW,Kv f h,aeZ f.2.2 _ h,ab,xL];cases pT f<;>cases p.1==f.1<;>cases p.1==281474976710655<;>cases f.2.1<;>cases p.2.2.1== -1<;>rfl
def preB (a b n:Int):Bool:=fdiv a (2^(min (Int.toNat (aq (32-n))) (IntKind.bits .i64)))==fdiv b (2^(min (Int.toNat (aq (32-n))) (IntKind.bits .i64)))
theorem aag {r:iH}(h:yV r=true):0<=r.2.2.2.1/\r.2.2.2.1<=32:=by rw[<-bh];unfold yV at h;simp only[lB,ei,ab,bL]at h;cases hp:dm r.2.2.2.1 0 32 with|true=>rfl|false=>rw[hp]at h;revert h;cases dm r.1 0 1000<;>cases r.2.1 !=0<;>cases r.2.1 !=6<;>cases r.2.1 !=17<;>cases dm r.2.2.1 0 4294967295<;>simp
def af8 (r:iH)(p:aO):Bool:=preB r.2.2.1 p.2.2.2.2.2.2.1 r.2.2.2.1&&(dm p.2.2.2.2.2.2.2.2.2.2.1 r.2.2.2.2.1 r.2.2.2.2.2.1&&((r.2.2.2.2.2.2.1== -2)||(r.2.2.2.2.2.2.1==p.2.2.1)))
def GY (r:iH)(p:aO):Bool:=yV r&&(dw p&&(((r.2.1==0)||(r.2.1==p.2.2.2.2.2.2.2.2.1))&&af8 r p))
theorem ae2 (a b n:Int)(h0:0<=n)(h1:n<=32):nQ a b n=some (preB a b n):=by unfold nQ preB;rw[aH (by rw[ak (n:=32-n)];omega),aH (by rw[ak (n:=32-n)];omega)]
theorem YR (r:iH)(p:aO):qb r p=some (GY r p):=by
 unfold qb GY;rw[ab1,ab];cases hr:yV r with|false=>rfl|true=>?_
 have hp:=aag hr;simp only[ov,ae2 _ _ _ hp.1 hp.2,de,ab,af8];cases dw p<;>cases r.2.1==0<;>cases r.2.1==p.2.2.2.2.2.2.2.2.1<;>cases preB r.2.2.1 p.2.2.2.2.2.2.1 r.2.2.2.1<;>cases dm p.2.2.2.2.2.2.2.2.2.2.1 r.2.2.2.2.1 r.2.2.2.2.2.1<;>cases r.2.2.2.2.2.2.1== -2<;>rfl
def HY:iH:=(0,0,0,0,0,0,0,0,0)
def xN (l:aw iH)(p:aO):Nat->Int
 |0=> -1
 |i+1=>bif GY (l.getD i HY) p&&(decide (xN l p i<0)||decide ((l.getD i HY).1<(l.getD (xN l p i).toNat HY).1)) then(i:Int) else xN l p i
theorem Jc (l:aw iH)(p:aO):∀i,xN l p i= -1\/∃n:Nat,xN l p i=(n:Int)/\n<i
 |0=> .inl rfl
 |i+1=>by rw[xN];cases GY (l.getD i HY) p&&(decide (xN l p i<0)||decide ((l.getD i HY).1<(l.getD (xN l p i).toNat HY).1))with|true=>exact .inr ⟨i,rfl,by omega⟩|false=>rcases Jc l p i with h|⟨n,h,hn⟩;exact .inl h;exact .inr ⟨n,h,by omega⟩
theorem X2 (l:aw iH)(p:aO)(i:Nat)(hi:i<l.length)(nx:Int×Int->ax R): (aa (cond (GY l[i] p) (cond (decide (xN l p i<0)) (some true) (aa (idx l (xN l p i)) λx4=>some (decide (l[i].1<x4.1)))) (some false)) λq5=>cond q5 (nx ((i:Int),((i+1:Nat):Int))) (nx (xN l p i,((i+1:Nat):Int))))=nx (xN l p (i+1),((i+1:Nat):Int)):=by
 rw[xN,cI hi];cases GY l[i] p with|false=>rfl|true=>?_
 rcases Jc l p i with h|⟨n,h,hn⟩;rw[h];rfl;have hl:n<l.length:=by omega
 rw[h,ar (show¬(n:Int)<0 by omega),bn hl];simp only[ah,af,ab,az,cI hl,bC,cE];cases decide (l[i].1<l[n].1)<;>rfl
def Dy (l:aw iH)(p:aO):Int:=bif wF l then xN l p l.length else-1
theorem Rz (l:aw iH)(p:aO)(h:Dy l p>=0):∃n:Nat,Dy l p=(n:Int)/\n<l.length:=by unfold Dy at h⊢;cases hr:wF l with|false=>rw[hr]at h;simp at h|true=>rw[hr]at h;simp only[ah]at h⊢;rcases Jc l p l.length with g|g;omega;exact g
theorem YP (l:aw iH)(p:aO)(h:l.length<=10^9):vj l p=some (Dy l p):=by
 unfold vj Dy;rw[Ng l h,ab];cases wF l with|false=>rfl|true=>?_
 simp only[aj,af,ah];refine eo (λi=>(xN l p i,(i:Int))) l.length (by omega) (λi nx hi=>?_) (λnx=>?_);simp only[pW];rw[kK,bn hi,ak (n:=(i:Int)+1)];simp only[ah,ab,YR];exact X2 l p i hi nx;simp only[pW];rw[jj];rfl
def kL (p:aO):D4:=(p.2.2.2.2.2.2.2.2.1,p.2.2.2.2.2.2.1,p.2.2.2.2.2.2.2.1,p.2.2.2.2.2.2.2.2.2.1,p.2.2.2.2.2.2.2.2.2.2.1)
theorem Kw (p:aO):sK p=some (kL p):=rfl
theorem acZ (p:aO):CH p=some (kL p):=rfl
def apx:Slot:=(0,(0,0,0,0,0),0)
def ur (s:cV)(q:Int)(p:aO):Int:=
 bif !ff s q|| !dw p then-1 else
 bif decide (Dy s.1 p>=0) then(bif (s.1.getD (Dy s.1 p).toNat HY).2.2.2.2.2.2.2.1==1 then-1 else(s.1.getD (Dy s.1 p).toNat HY).2.2.2.2.2.2.2.2) else
 bif decide (findF s.2.1 (kL p)>=0) then(s.2.1.getD (findF s.2.1 (kL p)).toNat apx).2.2 else I2 s.2.2 q (kL p)
theorem Zc (s:cV)(q:Int)(p:aO)(h1:s.1.length<=10^9)(h2:s.2.1.length<=10^9)(h3:s.2.2.2.length<=10^9):qe s q p=some (ur s q p):=by
 unfold qe ur;rw[Fw s q h1 h2 h3,ab,ov,ab];cases ff s q with|false=>rfl|true=>?_
 cases dw p with|false=>rfl|true=>?_
 simp only[aj,af,ab,bQ,YP s.1 p h1,Kw,PE s.2.1 _ h2,So s.2.2 q _ h3];cases hd:decide (Dy s.1 p>=0)with
 |true=>obtain⟨n,hn,hl⟩:=Rz s.1 p (bk hd);simp only[ah,hn,bn hl,ab,az,cI hl];cases s.1[n].2.2.2.2.2.2.2.1==1<;>rfl
 |false=>
  simp only[af];cases QD:decide (findF s.2.1 (kL p)>=0)with
  |true=>obtain⟨n,hn,hl⟩:=Ry s.2.1 (kL p) (bk QD);simp only[ah,hn,bn hl,ab,az,cI hl]
  |false=>rfl
def XY (a b:Int):Int:=(lz a b).getD 0
theorem I1 (a b:Int):lz a b=some (XY a b):=by
 unfold XY;have:∃x,lz a b=some x:=by simp only[lz,ei,ab];cases dm a 0 65535<;>cases dm b 0 65535<;>cases decide (aq (a+b)>65535)<;>exact⟨_,rfl⟩
 obtain⟨x,hx⟩:=this;rw[hx];rfl
theorem Sc (a b:Int):wX a b=some (XY a b):=I1 a b
theorem aex {a b:Int}(h:0<=a/\a<=65535)(k:0<=b/\b<=65535):0<=XY a b/\XY a b<=65535:=by have e:=I1 a b;simp only[lz,ei,ab,bh.2 h,bh.2 k,aj,af]at e;rw[ak (n:=a+b)]at e;by_cases hc:a+b>65535;rw[au hc,ah,ak]at e;rw[<-dD e];omega;rw[ar hc,af]at e;rw[<-dD e];omega
def sw (s:Bytes):Nat->Int
 |0=>0
 |j+1=>XY (sw s j) ((bJ s (2*j)*256+bJ s (2*j+1):Nat):Int)
theorem ac7 (s:Bytes):∀j,0<=sw s j/\sw s j<=65535
 |0=>by simp[sw]
 |j+1=>by have b0:=eC s (2*j);have b1:=eC s (2*j+1);exact aex (ac7 s j) (by omega)
theorem D9 (h:s.length<=i:=by omega):bJ s i=0:=by unfold bJ;rw[cH,br h];rfl
theorem afM (s:Bytes)(h:s.length<=10^9):vL s=some (sw s ((s.length+1)/2)):=by
 unfold vL;refine eo (λj=>(sw s j,((2*j:Nat):Int))) ((s.length+1)/2) (by omega) (λj nx hj=>?_) (λnx=>?_);have b0:=eC s (2*j);have b1:=eC s (2*j+1);obtain⟨x,hx,ex⟩:=ld (s:=s) (i:=2*j);simp only[qy];rw[kK,ah,hx,ab,lR,ak (n:=((2*j:Nat):Int)+1),ak (n:=((2*j:Nat):Int)+2),ex,gU];have e8:om 8=8:=rfl;have en:((2*j:Nat):Int)+2=((2*(j+1):Nat):Int):=by omega
 rw[e8,ak (n:=((bJ s (2*j):Nat):Int)*2^8)];by_cases hc:2*j+1<s.length;obtain⟨y,hy,ey⟩:=ld (s:=s) (i:=2*j+1) hc;rw[kK,ah,show((2*j:Nat):Int)+1=((2*j+1:Nat):Int) by omega,hy,ab,ey,gU (n:=bJ s (2*j+1)),ak,I1,ab,en,show((bJ s (2*j):Nat):Int)*2^8+((bJ s (2*j+1):Nat):Int)=((bJ s (2*j)*256+bJ s (2*j+1):Nat):Int) by omega];rfl;have hz:=D9 (s:=s) (i:=2*j+1);rw[jj,af,I1,ab,en,show((bJ s (2*j):Nat):Int)*2^8=((bJ s (2*j)*256+bJ s (2*j+1):Nat):Int) by rw[hz];omega];rfl;simp only[qy];rw[jj];rfl
theorem ae4 (s:Bytes)(h:s.length<=10^9):vw s=some (sw s ((s.length+1)/2)):=by
 unfold vw;refine eo (λj=>(sw s j,((2*j:Nat):Int))) ((s.length+1)/2) (by omega) (λj nx hj=>?_) (λnx=>?_);have b0:=eC s (2*j);have b1:=eC s (2*j+1);obtain⟨x,hx,ex⟩:=ld (s:=s) (i:=2*j);simp only[qg];rw[kK,ah,hx,ab,lR,ak (n:=((2*j:Nat):Int)+1),ak (n:=((2*j:Nat):Int)+2),ex,gU];have e8:om 8=8:=rfl;have en:((2*j:Nat):Int)+2=((2*(j+1):Nat):Int):=by omega
 rw[e8,show((bJ s (2*j):Nat):Int)*2^8=((2^8*bJ s (2*j):Nat):Int) by omega,gU (n:=2^8*bJ s (2*j))];by_cases hc:2*j+1<s.length;obtain⟨y,hy,ey⟩:=ld (s:=s) (i:=2*j+1) hc;rw[kK,ah,show((2*j:Nat):Int)+1=((2*j+1:Nat):Int) by omega,hy,ab,ey,gU (n:=bJ s (2*j+1)),Ev (bJ s (2*j)) 8 (bJ s (2*j+1)),Sc,ab,en,show 2^8*bJ s (2*j)+bJ s (2*j+1)=bJ s (2*j)*256+bJ s (2*j+1) by omega];rfl;have hz:=D9 (s:=s) (i:=2*j+1);rw[jj,af,Sc,ab,en,show((2^8*bJ s (2*j):Nat):Int)=((bJ s (2*j)*256+bJ s (2*j+1):Nat):Int) by rw[hz];omega];rfl;simp only[qg];rw[jj];rfl
def MI (s:Bytes):Int:=65535-sw s ((s.length+1)/2)
theorem Qe (s:Bytes)(h:s.length<=10^9):oz s=some (MI s):=by have:=ac7 s ((s.length+1)/2);simp only[oz,afM s h,ab];rw[ak];rfl
theorem IV (s:Bytes)(h:s.length<=10^9):iU s=some (MI s):=by have:=ac7 s ((s.length+1)/2);simp only[iU,ae4 s h,ab];rw[ak];rfl
def uK (s:Bytes)(a:Int)(p:Bytes):Bytes:=bif eS s a (p.length:Int) then(s.take a.toNat++p)++s.drop (a.toNat+p.length) else s
theorem wj (s:Bytes)(a:Int)(p:Bytes):(uK s a p).length=s.length:=by unfold uK;cases hw:eS s a (p.length:Int)with|false=>rfl|true=>simp only[eS,aB]at hw;simp only[ah,ai,aZ,aL];omega
theorem Te (s:Bytes)(a:Int)(p:Bytes)(h:s.length<=10^9)(hw:eS s a (p.length:Int)=true): (aa (sub s 0 a) λx2=>room (List.length x2+List.length p) (aa (sub s (aq (a+((List.length p:Int)))) ((List.length s:Int))) λx3=>room (List.length (x2++p)+List.length x3) (some ((x2++p)++x3))))=some (uK s a p):=by
 have hw':=hw;simp only[eS,aB]at hw';obtain⟨n,rfl⟩:=aX hw'.1;have e1:sub s 0 (n:Int)=some (s.take n):=by unfold sub;rw[zip];rfl
 have e2:sub s (((n+p.length:Nat):Int)) (s.length:Int)=some (s.drop (n+p.length)):=by unfold sub;rw[zip,az,az,dS]
 rw[e1,ak,show(n:Int)+(p.length:Int)=((n+p.length:Nat):Int) by omega,e2,ab,aS (by simp only[aZ];omega),ab,aS (by simp only[ai,aZ,aL];omega)];unfold uK;rw[hw];rfl
theorem F5 (s:Bytes)(a:Int)(p:Bytes)(h:s.length<=10^9:=by omega):hU s a p=some (uK s a p):=by unfold hU;rw[CG s a _ h,ab];cases hw:eS s a (p.length:Int)with|false=>simp only[bU,ah,uK,hw,af]|true=>exact Te s a p h hw
theorem AE (s:Bytes)(a:Int)(p:Bytes)(h:s.length<=10^9:=by omega)(hp:p.length<=10^9:=by omega):fC s a p=some (uK s a p):=by
 unfold fC;rw[ak (n:=(s.length:Int)-(p.length:Int))];cases hw:eS s a (p.length:Int)with
 |true=>have hw':=hw;simp only[eS,aB]at hw';rw[ar (show¬a<0 by omega),ar (show¬a>(s.length:Int)-(p.length:Int) by omega)];exact Te s a p h hw
 |false=>
  have hp:uK s a p=s:=by unfold uK;rw[hw];rfl
  rw[hp];simp only[eS,cw]at hw;by_cases h0:a<0;rw[au h0];rfl;rw[ar h0,au (show a>(s.length:Int)-(p.length:Int) by omega)];rfl
def bs2 (x y:Int):Bytes:=aJ [x,y]
theorem Od (x y:Int):(bs2 x y).length=2:=rfl
def xf (a b k n:Int):Bool:=dm a 0 4294967295&&(dm b 0 4294967295&&(dm k 0 255&&dm n 0 65535))
def uJ (a b k n:Int):Bytes:=((iO a++iO b)++bs2 0 (fU k))++bS n
theorem G9 (a b k n:Int):(uJ a b k n).length<=12:=by have:=eu a;have:=eu b;have:=bF n;simp only[uJ,ai,Od];omega
theorem EB (a b k n:Int):lA a b k n=some (bif xf a b k n then(uJ a b k n,true) else([],false)):=by
 have:=eu a;have:=eu b;have:=bF n;unfold lA xf;simp only[ei,ab,pL,nA];cases dm a 0 4294967295 with|false=>rfl|true=>?_
 cases dm b 0 4294967295 with|false=>rfl|true=>?_
 cases dm k 0 255 with|false=>rfl|true=>?_
 cases dm n 0 65535 with|false=>rfl|true=>?_
 simp only[aj,af,eU,ah,ab];have e:(aJ [0,fU k]).length=2:=rfl;rw[aS,aS (by simp only[ai,e];omega),aS (by simp only[ai,e];omega)];rfl
theorem KB (a b k n:Int):oR a b k n=some (bif xf a b k n then(uJ a b k n,true) else([],false)):=EB a b k n
def bare (g:ed):Bytes:=bif g.1==6 then
    (((((bS g.2.1++bS g.2.2.1)++iO g.2.2.2.1)++iO g.2.2.2.2.1)++bs2 80 (fU g.2.2.2.2.2.1))++bS g.2.2.2.2.2.2.1)++iO 0++g.2.2.2.2.2.2.2
 else(((bS g.2.1++bS g.2.2.1)++bS (8+(g.2.2.2.2.2.2.2.length:Int)))++bS 0)++g.2.2.2.2.2.2.2
theorem Oa (g:ed):(bare g).length<=20+g.2.2.2.2.2.2.2.length:=by have:=bF g.2.1;have:=bF g.2.2.1;have:=eu g.2.2.2.1;have:=eu g.2.2.2.2.1;have:=bF g.2.2.2.2.2.2.1;have:=eu 0;have:=bF 0;have:=bF (8+(g.2.2.2.2.2.2.2.length:Int));unfold bare;cases g.1==6<;>simp only[ah,af,ai,Od]<;>omega
theorem aaM:bS 0++bS 0=iO 0:=by rfl
theorem abO (g:ed)(h:g.2.2.2.2.2.2.2.length<=1000000):ql g=some (bare g):=by have:=bF g.2.1;have:=bF g.2.2.1;have:=eu g.2.2.2.1;have:=eu g.2.2.2.2.1;have:=bF g.2.2.2.2.2.2.1;have:=bF 0;have:=bF (8+(g.2.2.2.2.2.2.2.length:Int));have e:∀x,(aJ [80,fU x]).length=2:=λ_=>rfl;unfold ql bare;rw[ak (n:=8+(g.2.2.2.2.2.2.2.length:Int))];simp only[kl,yd,ab];rw[aS];cases g.1==6 with|true=>simp only[ah];rw[aS (by simp only[ai,e];omega),aS (by simp only[ai,e];omega),aS (by simp only[ai,e];omega),aS (by simp only[ai,e];omega),aS (by simp only[ai,e];omega),aS (by simp only[ai,e];omega),aS (by simp only[ai,e];omega)];rw[<-aaM];simp only[bs2,aP]|false=>simp only[af];rw[aS (by simp only[ai];omega),aS (by simp only[ai];omega),aS (by simp only[ai];omega)]
def XJ (a b:Int)(g:ed):Int:=bif (MI (uJ a b g.1 ((bare g).length:Int)++bare g)==0)&&(g.1==17) then 65535 else MI (uJ a b g.1 ((bare g).length:Int)++bare g)
def XC (a b:Int)(g:ed):Bytes:=uK (bare g) (bif g.1==6 then 16 else 6) (bS (XJ a b g))
def Li (a b:Int)(g:ed):Bool:=rp g&&xf a b g.1 ((bare g).length:Int)
def zB (a b:Int)(g:ed):Bytes×Bool:=bif Li a b g then(XC a b g,true) else([],false)
theorem CB {g:ed}(h:rp g=true):g.2.2.2.2.2.2.2.length<=320:=by simp only[rp,ae,aK,cw]at h;omega
theorem CF (a b:Int)(g:ed):jr a b g=some (zB a b g):=by
 unfold jr zB Li;rw[XG,ab];cases hg:rp g with|false=>rfl|true=>?_
 have hb:=CB hg;have hl:=Oa g;have hp:=G9 a b g.1 ((bare g).length:Int);have:=bF g.2.1;have:=bF g.2.2.1;have:=eu g.2.2.2.1;have:=eu g.2.2.2.2.1;have:=bF g.2.2.2.2.2.2.1;have:=eu 0;have:=bF 0;have:=bF (8+(g.2.2.2.2.2.2.2.length:Int));have e:∀x,(aJ [80,fU x]).length=2:=λ_=>rfl;rw[ak (n:=8+(g.2.2.2.2.2.2.2.length:Int))];simp only[nA,pL,ab,aj,af,bC];rw[aS];cases h6:g.1==6 with
 |true=>
  have abu:bare g=(((((bS g.2.1++bS g.2.2.1)++iO g.2.2.2.1)++iO g.2.2.2.2.1)++aJ [80,fU g.2.2.2.2.2.1])++bS g.2.2.2.2.2.2.1)++iO 0++g.2.2.2.2.2.2.2:=by unfold bare;rw[h6];rfl
  simp only[ah];rw[aS (by simp only[ai,e];omega),aS (by simp only[ai,e];omega),aS (by simp only[ai,e];omega),aS (by simp only[ai,e];omega),aS (by simp only[ai,e];omega),aS (by simp only[ai,e];omega),<-abu,EB,ab];cases xf a b g.1 ((bare g).length:Int)with|false=>rfl|true=>?_
  simp only[ah,aj,af];rw[aS,Qe _ (by simp only[ai];omega)];simp only[ab,bL,F5 _ _ _ (show(bare g).length<=10^9 by omega),XC,XJ,h6,ah,cF];cases (MI (uJ a b g.1 ((bare g).length:Int)++bare g)==0)&&(g.1==17)<;>rfl
 |false=>
  have abu:bare g=(((bS g.2.1++bS g.2.2.1)++bS (8+(g.2.2.2.2.2.2.2.length:Int)))++bS 0)++g.2.2.2.2.2.2.2:=by unfold bare;rw[h6];rfl
  simp only[af];rw[aS (by simp only[ai];omega),aS (by simp only[ai];omega),aS (by simp only[ai];omega),<-abu,EB,ab];cases xf a b g.1 ((bare g).length:Int)with|false=>rfl|true=>?_
  simp only[ah,aj,af];rw[aS,Qe _ (by simp only[ai];omega)];simp only[ab,bL,F5 _ _ _ (show(bare g).length<=10^9 by omega),XC,XJ,h6,af,cF];cases (MI (uJ a b g.1 ((bare g).length:Int)++bare g)==0)&&(g.1==17)<;>rfl
theorem Cn (a b:Int)(g:ed):jk a b g=some (zB a b g):=by
 unfold jk zB Li;rw[Xi,ab];cases hg:rp g with|false=>rfl|true=>?_
 have hb:=CB hg;have hl:=Oa g;have hp:=G9 a b g.1 ((bare g).length:Int);have GH:fb g.1=some (bif g.1==6 then 16 else 6):=by unfold fb;rw[bL]
 have w1:=bF 65535;have w2:=bF (MI (uJ a b g.1 ((bare g).length:Int)++bare g));simp only[abO g (by omega),KB,ab,aj,af,bC];cases xf a b g.1 ((bare g).length:Int)with|false=>rfl|true=>?_
 simp only[ah,aj,af];rw[aS,IV _ (by simp only[ai];omega)];simp only[ab,bL,GH,kl,AE _ _ _ (show(bare g).length<=10^9 by omega) (show(bS 65535).length<=10^9 by omega),AE _ _ _ (show(bare g).length<=10^9 by omega) (show(bS (MI (uJ a b g.1 ((bare g).length:Int)++bare g))).length<=10^9 by omega),XC,XJ,cF];rw[Bool.and_comm];cases (MI (uJ a b g.1 ((bare g).length:Int)++bare g)==0)&&(g.1==17)<;>rfl
theorem afF (a b:Int)(g:ed):(zB a b g).1.length<=340:=by unfold zB;cases h:Li a b g with|false=>exact bO _|true=>simp only[Li,ae]at h;have:=CB h.1;have:=Oa g;show(uK _ _ _).length<=340;rw[wj];omega
def Vi (d:Ip):Bool:=dm d.1 0 255&&(dm d.2.2.1 0 255&&(dm d.2.2.2.1 0 255&&(dm d.2.1 0 65535&&(dm d.2.2.2.2.1 0 4294967295&&(dm d.2.2.2.2.2.1 0 4294967295&&decide ((d.2.2.2.2.2.2.length:Int)<=380))))))
theorem Ty (d:Ip):Dj d=some (Vi d):=by simp only[Dj,ei,ab,bL,cF,Vi]
theorem abU (d:Ip):GN d=some (Vi d):=Ty d
def KG (d:Ip):Bytes:=((((((bs2 69 (fU d.1)++bS (20+(d.2.2.2.2.2.2.length:Int)))++bS d.2.1)++bS 16384)++bs2 (fU d.2.2.1) (fU d.2.2.2.1))++bS 0)++iO d.2.2.2.2.1)++iO d.2.2.2.2.2.1
theorem KH (d:Ip):(KG d).length<=20:=by have:=bF (20+(d.2.2.2.2.2.2.length:Int));have:=bF d.2.1;have:=bF 16384;have:=bF 0;have:=eu d.2.2.2.2.1;have:=eu d.2.2.2.2.2.1;simp only[KG,ai,Od];omega
def KF (d:Ip):Bytes:=uK (KG d) 10 (bS (MI (KG d)))
theorem V9 (d:Ip):vI d=some (bif Vi d then(KF d,true) else([],false)):=by
 unfold vI;rw[Ty,ab];cases hd:Vi d with|false=>rfl|true=>?_
 have hn:(d.2.2.2.2.2.2.length:Int)<=380:=by simp only[Vi,ae,aB]at hd;omega
 have:=bF (20+(d.2.2.2.2.2.2.length:Int));have:=bF d.2.1;have:=bF 16384;have:=bF 0;have:=eu d.2.2.2.2.1;have:=eu d.2.2.2.2.2.1;have hl:=KH d;have e:∀x y,(aJ [x,y]).length=2:=λ_ _=>rfl;rw[ak (n:=20+(d.2.2.2.2.2.2.length:Int))];simp only[nA,pL,ab,aj,af,ah];rw[aS (by simp only[ai,e];omega),aS (by simp only[ai,e];omega),aS (by simp only[ai,e];omega),aS (by simp only[ai,e];omega),aS (by simp only[ai,e];omega),aS (by simp only[ai,e];omega),aS (by simp only[ai,e];omega)];have hp:((((((aJ [69,fU d.1]++bS (20+(d.2.2.2.2.2.2.length:Int)))++bS d.2.1)++bS 16384)++aJ [fU d.2.2.1,fU d.2.2.2.1])++bS 0)++iO d.2.2.2.2.1)++iO d.2.2.2.2.2.1=KG d:=rfl;rw[hp,Qe _ (by omega),ab,F5 _ _ _];rfl
theorem U7 (d:Ip):vp d=some (bif Vi d then(KF d,true) else([],false)):=by
 unfold vp;rw[abU,ab];cases hd:Vi d with|false=>rfl|true=>?_
 have hn:(d.2.2.2.2.2.2.length:Int)<=380:=by simp only[Vi,ae,aB]at hd;omega
 have:=bF (20+(d.2.2.2.2.2.2.length:Int));have:=bF d.2.1;have:=bF 16384;have:=bF 0;have:=eu d.2.2.2.2.1;have:=eu d.2.2.2.2.2.1;have hl:=KH d;have hw:=bF (MI (KG d));have e:∀x y,(aJ [x,y]).length=2:=λ_ _=>rfl;rw[ak (n:=20+(d.2.2.2.2.2.2.length:Int))];simp only[kl,yd,ab,aj,af,ah];rw[aS (by simp only[ai,e];omega),aS (by simp only[ai,e];omega),aS (by simp only[ai,e];omega),aS (by simp only[ai,e];omega),aS (by simp only[ai,e];omega),aS (by simp only[ai,e];omega),aS (by simp only[ai,e];omega)];have hp:((((((aJ [69,fU d.1]++bS (20+(d.2.2.2.2.2.2.length:Int)))++bS d.2.1)++bS 16384)++aJ [fU d.2.2.1,fU d.2.2.2.1])++bS 0)++iO d.2.2.2.2.1)++iO d.2.2.2.2.2.1=KG d:=rfl;rw[hp,IV _ (by omega),ab,AE _ _ _];rfl
def QF (d:Ip):Bytes×Bool:=bif Vi d then(KF d++d.2.2.2.2.2.2,true) else([],false)
theorem GP (d:Ip):(KF d).length<=20:=by unfold KF;rw[wj];exact KH d
theorem ac0 (d:Ip):tX d=some (QF d):=by
 unfold tX QF;rw[V9,ab];cases hd:Vi d with|false=>rfl|true=>?_
 have hn:(d.2.2.2.2.2.2.length:Int)<=380:=by simp only[Vi,ae,aB]at hd;omega
 have:=GP d;simp only[ah,aj,af];rw[aS]
theorem abT (d:Ip):tn d=some (QF d):=by
 unfold tn QF;rw[U7,ab];cases hd:Vi d with|false=>rfl|true=>?_
 have hn:(d.2.2.2.2.2.2.length:Int)<=380:=by simp only[Vi,ae,aB]at hd;omega
 have:=GP d;simp only[ah,aj,af];rw[aS]
def wR (n:Nat):Bytes:=aJ (List.replicate n (0:Int))
theorem Dp (n:Nat):(wR n).length=n:=by simp[wR,aJ]
theorem Lo (n:Nat)(h:n<=10^9:=by omega):im (n:Int) 0=some (wR n):=by unfold im;rw[zip,aS (by rw[az];omega),az];refine eo (λi=>(List.replicate n (0:Int),(i:Int))) n (by omega) (λi nx hi=>?_) (λnx=>?_);simp only[nW];rw[kK,bn (by simpa using hi),ak];simp only[ah,ab,az,List.set_replicate_self];rfl;simp only[nW];rw[jj];rfl
theorem Xh (n:Nat)(h:n<=10^9:=by omega):nb 0 (n:Int)=some (wR n):=by unfold nb;rw[zip,aS (by rw[az];omega),az];refine eo (λi=>(List.replicate n (0:Int),(i:Int))) n (by omega) (λi nx hi=>?_) (λnx=>?_);simp only[tM];rw[au (by simp;omega),bn (by simpa using hi),ak];simp only[ah,ab,az,List.set_replicate_self];rfl;simp only[tM];rw[ar (by simp)];rfl
def pad (s:Bytes):Bytes:=if s.length<46 then s++wR (46-s.length) else s
theorem PY (s:Bytes):(pad s).length=max 46 s.length:=by unfold pad;split;simp only[ai,Dp];omega;omega
theorem afL (s:Bytes)(h:s.length<=10^9):xg s=some (pad s):=by unfold xg pad;by_cases hc:s.length<46;rw[kK,aF hc,ak,show(46:Int)-(s.length:Int)=((46-s.length:Nat):Int) by omega,Lo _];simp only[ah,ab];rw[aS (by rw[Dp];omega)];rw[jj,aH hc];rfl
theorem ae1 (s:Bytes)(h:s.length<=10^9):xa s=some (pad s):=by unfold xa pad;by_cases hc:s.length<46;rw[jj,aF hc,ak,show(46:Int)-(s.length:Int)=((46-s.length:Nat):Int) by omega,Xh _];simp only[af,ab];rw[aS (by rw[Dp];omega)];rw[kK,aH hc];rfl
def pS (e:LQ):Bool:=dm e.1 0 281474976710655&&(dm e.2.1 0 281474976710655&&(dm e.2.2.1 (-1) 4095&&(dm e.2.2.2.1 1536 65535&&((e.2.2.2.1 !=33024)&&dm (e.2.2.2.2.length:Int) 46 400))))
theorem Hj (e:LQ):uP e=some (pS e):=by simp only[uP,ei,ab,bL,cF,pS]
theorem Nb (e:LQ):ye e=some (pS e):=Hj e
def Zs (a:Int):Bytes:=(iy a).getD []
theorem yW (a:Int):iy a=some (Zs a)/\(Zs a).length<=6:=by
 have h:∃x,iy a=some x/\x.length<=6:=by unfold iy;rw[lR];simp only[nA,pL,ab];have h1:=bF (fdiv a (2^(om 32)));have h2:=eu (aq (toNat (gb a&&&gb 4294967295)));rw[aS];exact⟨_,rfl,by simp only[ai];omega⟩
 obtain⟨x,hx,hl⟩:=h;unfold Zs;rw[hx];exact⟨rfl,hl⟩
theorem ae0 (a:Int):vx a=some (Zs a):=(yW a).1
def MR (e:LQ):Bytes:=(bif decide (e.2.2.1>=0) then(((Zs e.1++Zs e.2.1)++bS 33024)++bS e.2.2.1) else Zs e.1++Zs e.2.1)++bS e.2.2.2.1++e.2.2.2.2
theorem abi (e:LQ):(MR e).length<=18+e.2.2.2.2.length:=by have:=(yW e.1).2;have:=(yW e.2.1).2;have:=bF 33024;have:=bF e.2.2.1;have:=bF e.2.2.2.1;unfold MR;cases decide (e.2.2.1>=0)<;>simp only[ah,af,ai]<;>omega
def Rr (e:LQ):Bytes×Bool:=bif pS e then(MR e,true) else([],false)
theorem afK (e:LQ):vE e=some (Rr e):=by
 unfold vE Rr;rw[Hj,ab];cases he:pS e with|false=>rfl|true=>?_
 have hn:(e.2.2.2.2.length:Int)<=400:=by simp only[pS,ae,bh]at he;omega
 have:=(yW e.1).2;have:=(yW e.2.1).2;have:=bF 33024;have:=bF e.2.2.1;have:=bF e.2.2.2.1;simp only[(yW _).1,nA,ab,aj,af,ah,MR];rw[aS];cases decide (e.2.2.1>=0)with|true=>simp only[ah];rw[aS (by simp only[ai];omega),aS (by simp only[ai];omega),aS (by simp only[ai];omega),aS (by simp only[ai];omega)]|false=>simp only[af];rw[aS (by simp only[ai];omega),aS (by simp only[ai];omega)]
theorem aeY (e:LQ):vf e=some (Rr e):=by
 unfold vf Rr;rw[Nb,ab];cases he:pS e with|false=>rfl|true=>?_
 have hn:(e.2.2.2.2.length:Int)<=400:=by simp only[pS,ae,bh]at he;omega
 have:=(yW e.1).2;have:=(yW e.2.1).2;have:=bF 33024;have:=bF e.2.2.1;have:=bF e.2.2.2.1;simp only[ae0,kl,ab,aj,af,ah,MR];rw[aS];cases decide (e.2.2.1>=0)with|true=>simp only[ah];rw[aS,aS (by simp only[ai];omega),aS (by simp only[ai];omega),aS (by simp only[ai];omega)];simp only[aP]|false=>simp only[af];rw[aS (by simp only[ai];omega),aS (by simp only[ai];omega)]
def afE (p:aO):Bytes×Bool:=zB p.2.2.2.2.2.2.1 p.2.2.2.2.2.2.2.1 p.2.2.2.2.2.2.2.2
def Zk (p:aO):Bytes×Bool:=QF (p.2.2.2.1,p.2.2.2.2.1,p.2.2.2.2.2.1,p.2.2.2.2.2.2.2.2.1,p.2.2.2.2.2.2.1,p.2.2.2.2.2.2.2.1,(afE p).1)
def aeJ (p:aO):Bytes×Bool:=Rr (p.1,p.2.1,p.2.2.1,2048,pad (Zk p).1)
def dy (p:aO):Bytes×Bool:=bif dw p then aeJ p else([],false)
theorem PL (p:aO):(Zk p).1.length<=360:=by have h1:=afF p.2.2.2.2.2.2.1 p.2.2.2.2.2.2.2.1 p.2.2.2.2.2.2.2.2;unfold Zk QF;cases Vi (p.2.2.2.1,p.2.2.2.2.1,p.2.2.2.2.2.1,p.2.2.2.2.2.2.2.2.1,p.2.2.2.2.2.2.1,p.2.2.2.2.2.2.2.1,(afE p).1)with|false=>exact bO _|true=>have h2:=GP (p.2.2.2.1,p.2.2.2.2.1,p.2.2.2.2.2.1,p.2.2.2.2.2.2.2.2.1,p.2.2.2.2.2.2.1,p.2.2.2.2.2.2.2.1,(afE p).1);have h3:(afE p).1.length<=340:=h1;simp only[ah,ai];omega
theorem aas (p:aO):sc p=some (dy p):=by have hl:=PL p;unfold sc dy;simp only[Hm,CF,ac0,ab];rw[show(QF (p.2.2.2.1,p.2.2.2.2.1,p.2.2.2.2.2.1,p.2.2.2.2.2.2.2.2.1,p.2.2.2.2.2.2.1,p.2.2.2.2.2.2.2.1,(zB p.2.2.2.2.2.2.1 p.2.2.2.2.2.2.2.1 p.2.2.2.2.2.2.2.2).1))=Zk p from rfl,afL _ (by omega),ab,afK];cases dw p<;>rfl
theorem Db (p:aO):gJ p=some (dy p):=by have hl:=PL p;unfold gJ dy;simp only[ov,Cn,abT,ab];rw[show(QF (p.2.2.2.1,p.2.2.2.2.1,p.2.2.2.2.2.1,p.2.2.2.2.2.2.2.2.1,p.2.2.2.2.2.2.1,p.2.2.2.2.2.2.2.1,(zB p.2.2.2.2.2.2.1 p.2.2.2.2.2.2.2.1 p.2.2.2.2.2.2.2.2).1))=Zk p from rfl,ae1 _ (by omega),ab,aeY];cases dw p<;>rfl
theorem Da (h:dw p=true):(dy p).2=true:=by
 have hl:=PL p;have hh:oJ p=true:=by simp only[dw,ae]at h;exact h.1
 have hp:=PY (Zk p).1;unfold dy aeJ Rr;rw[h,ah];have:pS (p.1,p.2.1,p.2.2.1,2048,pad (Zk p).1)=true:=by simp only[oJ,ae]at hh;simp only[pS,ae];refine⟨hh.1,hh.2.1,hh.2.2.1,by decide,by decide,bh.2 ?_⟩;omega
 rw[this];rfl
theorem xF (p:aO):(dy p).1.length<=378:=by have hl:=PL p;have hp:=PY (Zk p).1;unfold dy aeJ Rr;cases dw p with|false=>exact bO _|true=>cases pS (p.1,p.2.1,p.2.2.1,2048,pad (Zk p).1)with|false=>exact bO _|true=>have:=abi (p.1,p.2.1,p.2.2.1,2048,pad (Zk p).1);simp only[ah]at this⊢;omega
def fcs (c:Int):Bytes:=aJ [fU c,fU (fdiv c (2^(om 8))),fU (fdiv c (2^(om 16))),fU (fdiv c (2^(om 24)))]
def zd (s:Bytes):Bytes:=s++fcs (aa7 s)
theorem aeL (c:Int):(fcs c).length=4:=rfl
theorem XF (s:Bytes)(h:s.length<=10^9):ug s=some (zd s):=by unfold ug;rw[afH s h,ab,lR,lR,lR];exact aS (by show s.length+4<=_;omega)
theorem Xg (s:Bytes)(h:s.length<=10^9):tH s=some (zd s):=by unfold tH;rw[aeW s h,ab,lR,lR,lR];exact aS (by show s.length+4<=_;omega)
def fV (p:aO):Bool:=dw p&&decide ((p.2.2.2.2.2.2.2.2.2.2.2.2.2.2.2.length:Int)<=128)
theorem Lp (p:aO):rz p=some (fV p):=by simp only[rz,Hm,ab,bL,cF,fV]
theorem AD (p:aO):lG p=some (fV p):=by simp only[lG,ov,ab,bL,cF,fV]
def xV (p:aO):Bytes×Bool:=bif fV p then(zd (dy p).1,true) else([],false)
theorem aar (p:aO):rZ p=some (xV p):=by have hl:=xF p;simp only[rZ,Lp,aas,XF _ (show(dy p).1.length<=10^9 by omega),ab,xV];cases fV p<;>rfl
theorem YQ (p:aO):rJ p=some (xV p):=by
 have hl:=xF p;simp only[rJ,AD,Db,Xg _ (show(dy p).1.length<=10^9 by omega),ab,xV];cases hp:fV p with
 |false=>rfl
 |true=>
  have:dw p=true:=by simp only[fV,ae]at hp;exact hp.1
  rw[Da this];rfl
theorem M0 (p:aO):(xV p).1.length<=382:=by have hl:=xF p;unfold xV;cases fV p with|false=>exact bO _|true=>simp only[ah,zd,ai,aeL];omega
def VM (p:aO)(z:Int)(k:Nat):aO:=
 (p.1,p.2.1,p.2.2.1,p.2.2.2.1,tmod (aq (p.2.2.2.2.1+(k:Int))) 65536,p.2.2.2.2.2.1,p.2.2.2.2.2.2.1,p.2.2.2.2.2.2.2.1,p.2.2.2.2.2.2.2.2.1,p.2.2.2.2.2.2.2.2.2.1,p.2.2.2.2.2.2.2.2.2.2.1,
   tmod (aq (p.2.2.2.2.2.2.2.2.2.2.2.1+((k:Int)*z))) 4294967296,p.2.2.2.2.2.2.2.2.2.2.2.2.1,
   (bif decide (((k:Int)+1)*z<(p.2.2.2.2.2.2.2.2.2.2.2.2.2.2.2.length:Int)) then aq (toNat (gb p.2.2.2.2.2.2.2.2.2.2.2.2.2.1&&&~~~ gb 9)) else p.2.2.2.2.2.2.2.2.2.2.2.2.2.1),
   p.2.2.2.2.2.2.2.2.2.2.2.2.2.2.1,(p.2.2.2.2.2.2.2.2.2.2.2.2.2.2.2.take (min ((k+1)*z.toNat) p.2.2.2.2.2.2.2.2.2.2.2.2.2.2.2.length)).drop (k*z.toNat))
def rY (n z:Nat):Nat:=(n+z-1)/z
def ED (p:aO)(z:Int):aw aO:=bif dw p&&dm z 1 128 then
    (bif (p.2.2.2.2.2.2.2.2.1 !=6)||decide ((p.2.2.2.2.2.2.2.2.2.2.2.2.2.2.2.length:Int)<=z) then [p] else(range (rY p.2.2.2.2.2.2.2.2.2.2.2.2.2.2.2.length z.toNat)).map (VM p z)) else []
theorem NF {z k:Nat}(hz:0<z:=by omega):k<rY n z↔k*z<n:=by unfold rY;rw[Nat.lt_div_iff_mul_lt hz];omega
theorem Bh (h:dw p=true):p.2.2.2.2.2.2.2.2.2.2.2.2.2.2.2.length<=320:=by
 have hh:oJ p=true:=by simp only[dw,ae]at h;exact h.1
 exact CB (xZ hh)
theorem aaz {k z:Nat}(hk:k*z<b.length)(hb:b.length<=320):sub b ((k*z:Nat):Int) ((min ((k+1)*z) b.length:Nat):Int)=some ((b.take (min ((k+1)*z) b.length)).drop (k*z)):=by have:k*z<=(k+1)*z:=cv _ (by omega);unfold sub;rw[zip,az,az]
theorem Zb (p:aO)(z:Int):AI p z=some (ED p z):=by
 unfold AI ED;simp only[ov,de,ab];cases hs:dw p with|false=>rfl|true=>?_
 cases hz:dm z 1 128 with|false=>rfl|true=>?_
 have hz':=bh.1 hz;have hb:=Bh hs;simp only[aj,af,eU,ah,ab,bL,cT];cases hq:(p.2.2.2.2.2.2.2.2.1 !=6)||decide ((p.2.2.2.2.2.2.2.2.2.2.2.2.2.2.2.length:Int)<=z)with
 |true=>rfl
 |false=>
  simp only[af];obtain⟨m,rfl⟩:=aX (show 0<=z by omega);have hN:∀k,k<rY p.2.2.2.2.2.2.2.2.2.2.2.2.2.2.2.length m↔k*m<p.2.2.2.2.2.2.2.2.2.2.2.2.2.2.2.length:=λk=>NF;have Fc:rY p.2.2.2.2.2.2.2.2.2.2.2.2.2.2.2.length m<=320:=by rcases cf 320 (rY p.2.2.2.2.2.2.2.2.2.2.2.2.2.2.2.length m)with h|h;have:=(hN 320).1 h;have:320*1<=320*m:=Nat.mul_le_mul_left _ (by omega);omega;exact h
  refine eo (λk=>((range k).map (VM p (m:Int)),(k:Int))) (rY p.2.2.2.2.2.2.2.2.2.2.2.2.2.2.2.length m) (by omega) (λk nx hk=>?_) (λnx=>?_);have hkm:=(hN k).1 hk;have hk1:(k+1)*m=k*m+m:=by rw[cA,eY]
  have e1:(k:Int)*(m:Int)=((k*m:Nat):Int):=by push_cast;rfl
  have e2:((k:Int)+1)*(m:Int)=(((k+1)*m:Nat):Int):=by push_cast;rfl
  have oD:=aaz hkm hb;simp only[vt];rw[ak (n:=(k:Int)+1),e1,e2,gU (n:=k*m),gU (n:=(k+1)*m),kK,ah];rw[List.range_succ,List.map_append,List.map_singleton];simp only[VM,e1,e2,az];by_cases hc:(((k+1)*m:Nat):Int)<(p.2.2.2.2.2.2.2.2.2.2.2.2.2.2.2.length:Int);rw[au hc];rw[show min ((k+1)*m) p.2.2.2.2.2.2.2.2.2.2.2.2.2.2.2.length=(k+1)*m by omega]at oD⊢;simp only[ah];rw[oD,ab,lR,lR,aS (by simp;omega)];rfl;rw[ar hc];rw[show min ((k+1)*m) p.2.2.2.2.2.2.2.2.2.2.2.2.2.2.2.length=p.2.2.2.2.2.2.2.2.2.2.2.2.2.2.2.length by omega]at oD⊢;simp only[af];rw[oD,ab,lR,lR,aS (by simp;omega)];rfl;have hkm:¬rY p.2.2.2.2.2.2.2.2.2.2.2.2.2.2.2.length m*m<p.2.2.2.2.2.2.2.2.2.2.2.2.2.2.2.length:=λh=>absurd ((hN _).2 h) (Nat.lt_irrefl _);have hub:rY p.2.2.2.2.2.2.2.2.2.2.2.2.2.2.2.length m*m<=320*128:=Nat.mul_le_mul Fc (by omega);have e1:((rY p.2.2.2.2.2.2.2.2.2.2.2.2.2.2.2.length m:Nat):Int)*(m:Int)=((rY p.2.2.2.2.2.2.2.2.2.2.2.2.2.2.2.length m*m:Nat):Int):=by push_cast;rfl
  simp only[vt];rw[e1,gU,jj];rfl
theorem Lu (p:aO)(z:Int):(ED p z).length<=320:=by
 unfold ED;cases hs:dw p&&dm z 1 128 with|false=>exact bO _|true=>?_
 simp only[ae,bh]at hs;have hb:=Bh hs.1;cases (p.2.2.2.2.2.2.2.2.1 !=6)||decide ((p.2.2.2.2.2.2.2.2.2.2.2.2.2.2.2.length:Int)<=z)with|true=>simp only[ah,bt];omega|false=>simp only[ah,af,da,List.length_range];rcases cf 320 (rY p.2.2.2.2.2.2.2.2.2.2.2.2.2.2.2.length z.toNat)with h|h;have:=(NF).1 h;have:320*1<=320*z.toNat:=Nat.mul_le_mul_left _ (by omega);omega;exact h
def N6 (acc:ca)(p:aO):ca:=bif (xV p).2 then acc++[(xV p).1] else acc
theorem QJ (acc:ca)(p:aO):(N6 acc p).length<=acc.length+1:=by unfold N6;cases (xV p).2<;>simp
def IQ (l:aw aO):ca:=l.foldl N6 []
theorem HB:∀(l:aw aO)(acc:ca),(l.foldl N6 acc).length<=acc.length+l.length
 |[],acc=>by simp
 |p::l,acc=>by have:=HB l (N6 acc p);have:=QJ acc p;simp only[List.foldl_cons,bB];omega
theorem Dz:∀(l:aw aO)(acc:ca),(∀x∈acc,x.length<=382)->∀x∈l.foldl N6 acc,x.length<=382
 |[],acc,h=>h
 |p::l,acc,h=>by rw[List.foldl_cons];refine Dz l _ (λx hx=>?_);unfold N6 at hx;cases hf:(xV p).2 with|false=>rw[hf]at hx;exact h x hx|true=>rw[hf]at hx;simp only[ah,ay,cn]at hx;rcases hx with hx|hx;exact h x hx;rw[hx];exact M0 p
theorem U4 (l:aw aO)(h:l.length<=10^9):vk l=some (IQ l):=by
 unfold vk IQ;have:=FX (T:=mB (λ(y3:ca) (_:Int)=>some y3) l (l.length:Int)) l (λ(s:ca) i=>(s,(i:Int))) (λi s=>s.length<=i) (λp s=> .ok (N6 s p)) (λs=>some s) (by omega) (λi hi s nx hI=>?hs) (λi hi s s' hI hg=>?hn) (λs nx hI=>?hf) [] (by simp)
 case hs=>
  simp only[mB]
  rw[kK,bn hi,ak (n:=(i:Int)+1)]
  simp only[ah,ab,YQ,N6]
  rw[aS (by simp;omega)]
  cases (xV l[i]).2<;>rfl
 case hn=>cases hg;have:=QJ s l[i];omega
 case hf=>
  simp only[mB]
  rw[jj];rfl
 rw[IZ]at this;exact this
def To (p:aO)(z:Int):ca:=IQ (ED p z)
theorem ab2 (p:aO)(z:Int):rO p z=some (To p z):=by have:=Lu p z;simp only[rO,Zb,U4 _ (show(ED p z).length<=10^9 by omega),ab];rfl
theorem aal (p:aO)(z:Int):(To p z).length<=320/\∀x∈To p z,x.length<=382:=by have:=Lu p z;have:=HB (ED p z) [];exact⟨by unfold To IQ;simp only[eI]at this;omega,Dz _ [] (by simp)⟩
theorem Cb {a:Int}(h0:0<=a:=by omega)(h:a+2<=(s.length:Int):=by omega):0<=cj s a/\cj s a<=65535:=by have h1:=eC s a.toNat;have h2:=eC s (a.toNat+1);unfold cj eS;rw[au ⟨h0,h⟩];simp only[ah];omega
theorem zK {a:Int}(h0:0<=a:=by omega)(h:a+4<=(s.length:Int):=by omega):0<=fB s a/\fB s a<=4294967295:=by have h1:=eC s a.toNat;have h2:=eC s (a.toNat+1);have h3:=eC s (a.toNat+2);have h4:=eC s (a.toNat+3);unfold fB eS;rw[au ⟨h0,h⟩];simp only[ah];omega
theorem acf {x y:Int}(hx:0<=x/\x<=65535)(hy:0<=y/\y<=4294967295):aq (toNat (gb (aq (x*2^(om 32)))|||gb y))=x*4294967296+y:=by have e:(2:Int)^(om 32)=4294967296:=rfl;obtain⟨x,rfl⟩:=aX hx.1;obtain⟨y,rfl⟩:=aX hy.1;rw[e,ak (n:=(x:Int)*4294967296),show(x:Int)*4294967296=((2^32*x:Nat):Int) by omega,Ev x 32 y];omega
theorem Xn {x y:Int}(hx:0<=x/\x<=65535)(hy:0<=y/\y<=4294967295):aq (aq (x*2^(om 32))+y)=x*4294967296+y:=by have e:(2:Int)^(om 32)=4294967296:=rfl;rw[e,ak (n:=x*4294967296),ak]
theorem xx {l:aw α}{n:Int}(h0:0<=n:=by omega)(h1:n<=(l.length:Int):=by omega):sub l 0 n=some (l.take n.toNat):=by unfold sub;rw[zip];simp
theorem uv {l:aw α}(k:Nat)(h:k<=l.length){a:Int}(ha:a=(k:Int)):sub l a (l.length:Int)=some (l.drop k):=by unfold sub;rw[zip];subst ha;simp
theorem Qs {l:aw α}(k:Nat){a n:Int}(ha:a=(k:Int))(h0:a<=n:=by omega)(h1:n<=(l.length:Int):=by omega):sub l a n=some ((l.take n.toNat).drop k):=by unfold sub;rw[zip];subst ha;simp
def Ap (s:Bytes):Bytes×Bool:=bif decide ((s.length:Int)<4) then([],false) else bif zd (s.take ((s.length:Int)-4).toNat)==s then(s.take ((s.length:Int)-4).toNat,true) else([],false)
theorem V7 (s:Bytes)(h:s.length<=10^9):vF s=some (Ap s):=by unfold vF Ap;rw[ak (n:=(s.length:Int)-4)];by_cases h4:(s.length:Int)<4;rw[au h4];rfl;rw[ar h4,xx];simp only[af,ab,XF _ (show(s.take ((s.length:Int)-4).toNat).length<=10^9 by rw[aZ];omega)];cases zd (s.take ((s.length:Int)-4).toNat)==s<;>rfl
theorem U1 (s:Bytes)(h:s.length<=10^9):vg s=some (Ap s):=by unfold vg Ap;rw[ak (n:=(s.length:Int)-4)];by_cases h4:(s.length:Int)<4;rw[au (show(s.length:Int)-4<0 by omega),au h4];rfl;rw[ar (show¬(s.length:Int)-4<0 by omega),ar h4,xx];simp only[af,ab,Xg _ (show(s.take ((s.length:Int)-4).toNat).length<=10^9 by rw[aZ];omega)];cases zd (s.take ((s.length:Int)-4).toNat)==s<;>rfl
def abh:LQ:=(0,0,0,0,([]:Bytes))
def DM (s:Bytes)(a:Int):Int:=cj s a*4294967296+fB s (a+2)
def Ed (s:Bytes):LQ:=(DM s 0,DM s 6,cj s 14,cj s 16,s.drop 18)
def vT (s:Bytes):LQ:=(DM s 0,DM s 6, -1,cj s 12,s.drop 14)
def fG (s:Bytes):LQ×Bool:=bif decide ((s.length:Int)<18) then(abh,false) else
 bif cj s 12==33024 then(bif pS (Ed s) then(Ed s,true) else(abh,false)) else bif pS (vT s) then(vT s,true) else(abh,false)
theorem Qg (s:Bytes)(h:s.length<=10^9):vJ s=some (fG s):=by unfold vJ fG;by_cases h8:(s.length:Int)<18;rw[au h8];rfl;rw[ar h8];simp only[af,Ah s _ h,Hl s _ h,ab];rw[lR,lR,uv (l:=s) 14 (by omega) (show(14:Int)=((14:Nat):Int) from rfl),ab,uv (l:=s) 18 (by omega) (show(18:Int)=((18:Nat):Int) from rfl)];rw[Xn (Cb (s:=s) (a:=0)) (zK (s:=s) (a:=2)),Xn (Cb (s:=s) (a:=6)) (zK (s:=s) (a:=8))];simp only[ab,Hj];rw[show((cj s 0*4294967296+fB s 2,cj s 6*4294967296+fB s 8,cj s 14,cj s 16,s.drop 18):LQ)=Ed s from rfl,show((cj s 0*4294967296+fB s 2,cj s 6*4294967296+fB s 8, -1,cj s 12,s.drop 14):LQ)=vT s from rfl];cases cj s 12==33024<;>cases pS (Ed s)<;>cases pS (vT s)<;>rfl
theorem Fs (s:Bytes)(h:s.length<=10^9):qY s=some (fG s):=by
 unfold qY fG;by_cases h4:(s.length:Int)<14;rw[au h4,au (show(s.length:Int)<18 by omega)];rfl;rw[ar h4];simp only[af,uE s _ h,xG s _ h,ab];rw[lR,lR,uv (l:=s) 14 (by omega) (show(14:Int)=((14:Nat):Int) from rfl),ab];rw[acf (Cb (s:=s) (a:=0)) (zK (s:=s) (a:=2)),acf (Cb (s:=s) (a:=6)) (zK (s:=s) (a:=8))];simp only[ab,Nb];rw[show((cj s 0*4294967296+fB s 2,cj s 6*4294967296+fB s 8, -1,cj s 12,s.drop 14):LQ)=vT s from rfl];by_cases h8:(s.length:Int)<18;have hB:pS (vT s)=false:=by
  unfold pS vT;have:dm ((s.drop 14).length:Int) 46 400=false:=by rw[Bool.eq_false_iff,ne_eq,bh,aL];omega
  simp only[this,fA]
 rw[au h8,ar (show¬(s.length:Int)>=18 by omega),hB];cases cj s 12==33024<;>rfl;rw[ar h8,au (show(s.length:Int)>=18 by omega),uv (l:=s) 18 (by omega) (show(18:Int)=((18:Nat):Int) from rfl)];simp only[ab];rw[show((cj s 0*4294967296+fB s 2,cj s 6*4294967296+fB s 8,cj s 14,cj s 16,s.drop 18):LQ)=Ed s from rfl];cases cj s 12==33024<;>cases pS (Ed s)<;>cases pS (vT s)<;>rfl
def ip0:Ip:=(0,0,0,0,0,0,([]:Bytes))
def AM (s:Bytes):Ip:=((bJ s 1:Int),cj s 4,(bJ s 8:Int),(bJ s 9:Int),fB s 12,fB s 16,(s.take (cj s 2).toNat).drop 20)
def kE (s:Bytes):Ip×Bool:=bif decide ((s.length:Int)<20)||(decide (cj s 2<20)||decide (cj s 2>(s.length:Int))) then(ip0,false) else
 bif (QF (AM s)).2&&((QF (AM s)).1==s.take (cj s 2).toNat) then(AM s,true) else(ip0,false)
theorem Tz (s:Bytes)(h:s.length<=10^9):xh s=some (kE s):=by
 unfold xh kE;simp only[Ah s _ h,Hl s _ h,ab];by_cases h1:(s.length:Int)<20;rw[au h1];rfl;by_cases h2:cj s 2<20;rw[ar h1,au h2];rfl;by_cases h3:cj s 2>(s.length:Int);rw[ar h1,ar h2,au h3];rfl;rw[ar h1,ar h2,ar h3];have b1:=lV (s[1]'(by omega));have b8:=lV (s[8]'(by omega));have b9:=lV (s[9]'(by omega));have i1:idx s 1=some (s[1]'(by omega)):=bn (i:=1) (by omega);have i8:idx s 8=some (s[8]'(by omega)):=bn (i:=8) (by omega);have i9:idx s 9=some (s[9]'(by omega)):=bn (i:=9) (by omega);simp only[af,ab,bQ,i1,i8,i9];rw[Qs (l:=s) 20 (show(20:Int)=((20:Nat):Int) from rfl),xx,gU (n:=(s[1]'(by omega)).toNat),gU (n:=(s[8]'(by omega)).toNat),gU (n:=(s[9]'(by omega)).toNat)];have e:(((s[1]'(by omega)).toNat:Int),cj s 4,((s[8]'(by omega)).toNat:Int),((s[9]'(by omega)).toNat:Int),fB s 12,fB s 16,(s.take (cj s 2).toNat).drop 20)=AM s:=by simp only[AM,bJ,cI (show 1<s.length by omega),cI (show 8<s.length by omega),cI (show 9<s.length by omega)]
 simp only[ab,e,ac0];cases (QF (AM s)).2<;>cases (QF (AM s)).1==s.take (cj s 2).toNat<;>rfl
theorem Si (s:Bytes)(h:s.length<=10^9):xb s=some (kE s):=by
 unfold xb kE;simp only[uE s _ h,xG s _ h,ab];by_cases h1:(s.length:Int)<20;rw[au h1];rfl;by_cases h2:cj s 2<20;rw[ar h1,au h2];rfl;by_cases h3:cj s 2>(s.length:Int);rw[ar h1,ar h2,au h3];rfl;rw[ar h1,ar h2,ar h3];have b1:=lV (s[1]'(by omega));have b8:=lV (s[8]'(by omega));have b9:=lV (s[9]'(by omega));have i1:idx s 1=some (s[1]'(by omega)):=bn (i:=1) (by omega);have i8:idx s 8=some (s[8]'(by omega)):=bn (i:=8) (by omega);have i9:idx s 9=some (s[9]'(by omega)):=bn (i:=9) (by omega);simp only[af,ab,bQ,i1,i8,i9];rw[Qs (l:=s) 20 (show(20:Int)=((20:Nat):Int) from rfl),xx,gU (n:=(s[1]'(by omega)).toNat),gU (n:=(s[8]'(by omega)).toNat),gU (n:=(s[9]'(by omega)).toNat)];have e:(((s[1]'(by omega)).toNat:Int),cj s 4,((s[8]'(by omega)).toNat:Int),((s[9]'(by omega)).toNat:Int),fB s 12,fB s 16,(s.take (cj s 2).toNat).drop 20)=AM s:=by simp only[AM,bJ,cI (show 1<s.length by omega),cI (show 8<s.length by omega),cI (show 9<s.length by omega)]
 simp only[ab,e,abT];cases (QF (AM s)).2<;>cases (QF (AM s)).1==s.take (cj s 2).toNat<;>rfl
def ajP:ed:=(0,0,0,0,0,0,0,([]:Bytes))
def Lj (k:Int)(s:Bytes):ed:=(k,cj s 0,cj s 2,fB s 4,fB s 8,(bJ s 13:Int),cj s 14,s.drop 20)
def Qa (k:Int)(s:Bytes):ed:=(k,cj s 0,cj s 2,0,0,0,0,s.drop 8)
def pH (a b k:Int)(s:Bytes):ed×Bool:=
 bif (k==6)&&decide ((s.length:Int)>=20) then(bif (zB a b (Lj k s)).2&&((zB a b (Lj k s)).1==s) then(Lj k s,true) else(ajP,false)) else
 bif (k==17)&&decide ((s.length:Int)>=8) then(bif (zB a b (Qa k s)).2&&((zB a b (Qa k s)).1==s) then(Qa k s,true) else(ajP,false)) else(ajP,false)
theorem Qh (a b k:Int)(s:Bytes)(h:s.length<=10^9):pe a b k s=some (pH a b k s):=by
 unfold pe pH;simp only[Ah s _ h,Hl s _ h,ab];rw[show(aa (cond (k==6) (some (decide ((s.length:Int)>=20))) (some false)):(Bool->ax (ed×Bool))->ax (ed×Bool))=λK=>K ((k==6)&&decide ((s.length:Int)>=20)) from by funext K;cases k==6<;>rfl];rw[show(aa (cond (k==17) (some (decide ((s.length:Int)>=8))) (some false)):(Bool->ax (ed×Bool))->ax (ed×Bool))=λK=>K ((k==17)&&decide ((s.length:Int)>=8)) from by funext K;cases k==17<;>rfl];simp only;cases h1:(k==6)&&decide ((s.length:Int)>=20)with
 |true=>
  simp only[ae,aB]at h1;have bb:=lV (s[13]'(by omega));have i:idx s 13=some (s[13]'(by omega)):=bn (i:=13) (by omega);have e:(k,cj s 0,cj s 2,fB s 4,fB s 8,((s[13]'(by omega)).toNat:Int),cj s 14,s.drop 20)=Lj k s:=by simp only[Lj,bJ,cI (show 13<s.length by omega)]
  simp only[ah,i,ab];rw[uv (l:=s) 20 (by omega) (show(20:Int)=((20:Nat):Int) from rfl),gU (n:=(s[13]'(by omega)).toNat)];simp only[ab,e,CF];cases (zB a b (Lj k s)).2<;>cases (zB a b (Lj k s)).1==s<;>rfl
 |false=>simp only[af];cases h2:(k==17)&&decide ((s.length:Int)>=8)with|false=>rfl|true=>simp only[ae,aB]at h2;rw[uv (l:=s) 8 (by omega) (show(8:Int)=((8:Nat):Int) from rfl)];simp only[ah,ab,show((k,cj s 0,cj s 2,0,0,0,0,s.drop 8):ed)=Qa k s from rfl,CF];cases (zB a b (Qa k s)).2<;>cases (zB a b (Qa k s)).1==s<;>rfl
theorem PF (a b k:Int)(s:Bytes)(h:s.length<=10^9):oQ a b k s=some (pH a b k s):=by
 unfold oQ pH;simp only[uE s _ h,xG s _ h,ab];rw[show(aa (cond (k==6) (some (decide ((s.length:Int)>=20))) (some false)):(Bool->ax (ed×Bool))->ax (ed×Bool))=λK=>K ((k==6)&&decide ((s.length:Int)>=20)) from by funext K;cases k==6<;>rfl];rw[show(aa (cond (k==17) (some (decide ((s.length:Int)>=8))) (some false)):(Bool->ax (ed×Bool))->ax (ed×Bool))=λK=>K ((k==17)&&decide ((s.length:Int)>=8)) from by funext K;cases k==17<;>rfl];simp only;cases h1:(k==6)&&decide ((s.length:Int)>=20)with
 |true=>
  simp only[ae,aB]at h1;have bb:=lV (s[13]'(by omega));have i:idx s 13=some (s[13]'(by omega)):=bn (i:=13) (by omega);have e:(k,cj s 0,cj s 2,fB s 4,fB s 8,((s[13]'(by omega)).toNat:Int),cj s 14,s.drop 20)=Lj k s:=by simp only[Lj,bJ,cI (show 13<s.length by omega)]
  simp only[ah,i,ab];rw[uv (l:=s) 20 (by omega) (show(20:Int)=((20:Nat):Int) from rfl),gU (n:=(s[13]'(by omega)).toNat)];simp only[ab,e,Cn];cases (zB a b (Lj k s)).2<;>cases (zB a b (Lj k s)).1==s<;>rfl
 |false=>simp only[af];cases h2:(k==17)&&decide ((s.length:Int)>=8)with|false=>rfl|true=>simp only[ae,aB]at h2;rw[uv (l:=s) 8 (by omega) (show(8:Int)=((8:Nat):Int) from rfl)];simp only[ah,ab,show((k,cj s 0,cj s 2,0,0,0,0,s.drop 8):ed)=Qa k s from rfl,Cn];cases (zB a b (Qa k s)).2<;>cases (zB a b (Qa k s)).1==s<;>rfl
def pk0:aO:=(0,0,0,0,0,0,0,0,0,0,0,0,0,0,0,([]:Bytes))
def jE (s:Bytes):aO×Int:=
 let e:=fG s
 bif !e.2||(e.1.2.2.2.1 !=2048) then(pk0,2) else
 let i:=kE e.1.2.2.2.2
 bif !i.2 then(pk0,3) else
 let g:=pH i.1.2.2.2.2.1 i.1.2.2.2.2.2.1 i.1.2.2.2.1 i.1.2.2.2.2.2.2
 bif !g.2 then(pk0,4) else
 bif !dw (e.1.1,e.1.2.1,e.1.2.2.1,i.1.1,i.1.2.1,i.1.2.2.1,i.1.2.2.2.2.1,i.1.2.2.2.2.2.1,g.1) then(pk0,5) else
 ((e.1.1,e.1.2.1,e.1.2.2.1,i.1.1,i.1.2.1,i.1.2.2.1,i.1.2.2.2.2.1,i.1.2.2.2.2.2.1,g.1),0)
theorem AR (s:Bytes):(fG s).1.2.2.2.2.length<=s.length:=by
 unfold fG;cases decide ((s.length:Int)<18)with|true=>simp[abh]|false=>?_
 cases cj s 12==33024<;>cases pS (Ed s)<;>cases pS (vT s)<;>simp[abh,Ed,vT]
theorem HS (s:Bytes):(kE s).1.2.2.2.2.2.2.length<=s.length:=by
 unfold kE;cases decide ((s.length:Int)<20)||(decide (cj s 2<20)||decide (cj s 2>(s.length:Int)))with|true=>simp[ip0]|false=>?_
 cases (QF (AM s)).2&&((QF (AM s)).1==s.take (cj s 2).toNat)with|false=>simp[ip0]|true=>simp[AM];omega
theorem aav (s:Bytes)(h:s.length<=10^9):ue s=some (jE s):=by
 have h1:=AR s;unfold ue jE;rw[Qg s h,ab];generalize fG s=e at h1⊢;have h2:=HS e.1.2.2.2.2;simp only;cases e.2 with|false=>rfl|true=>?_
 cases e.1.2.2.2.1 !=2048 with|true=>rfl|false=>?_
 simp only[aj,af,ab,bQ,Tz _ (show e.1.2.2.2.2.length<=10^9 by omega)];generalize kE e.1.2.2.2.2=i at h2⊢;cases i.2 with|false=>rfl|true=>?_
 simp only[aj,af,ab,Qh _ _ _ _ (show i.1.2.2.2.2.2.2.length<=10^9 by omega)];generalize pH i.1.2.2.2.2.1 i.1.2.2.2.2.2.1 i.1.2.2.2.1 i.1.2.2.2.2.2.2=g;cases g.2 with|false=>rfl|true=>?_
 simp only[aj,af,ab,Hm];cases dw (e.1.1,e.1.2.1,e.1.2.2.1,i.1.1,i.1.2.1,i.1.2.2.1,i.1.2.2.2.2.1,i.1.2.2.2.2.2.1,g.1)<;>rfl
theorem Dc (s:Bytes)(h:s.length<=10^9):ij s=some (jE s):=by
 have h1:=AR s;unfold ij jE;rw[Fs s h,ab];generalize fG s=e at h1⊢;have h2:=HS e.1.2.2.2.2;simp only;cases e.2 with|false=>rfl|true=>?_
 cases e.1.2.2.2.1 !=2048 with|true=>rfl|false=>?_
 simp only[aj,af,ab,bQ,Si _ (show e.1.2.2.2.2.length<=10^9 by omega)];generalize kE e.1.2.2.2.2=i at h2⊢;cases i.2 with|false=>rfl|true=>?_
 simp only[aj,af,ab,PF _ _ _ _ (show i.1.2.2.2.2.2.2.length<=10^9 by omega)];generalize pH i.1.2.2.2.2.1 i.1.2.2.2.2.2.1 i.1.2.2.2.1 i.1.2.2.2.2.2.2=g;cases g.2 with|false=>rfl|true=>?_
 simp only[aj,af,ab,ov];cases dw (e.1.1,e.1.2.1,e.1.2.2.1,i.1.1,i.1.2.1,i.1.2.2.1,i.1.2.2.2.2.1,i.1.2.2.2.2.2.1,g.1)<;>rfl
def rm (s:Bytes):aO×Int:=
 let c:=Ap s
 bif !c.2 then(pk0,1) else
 let r:=jE c.1
 bif r.2 !=0 then(pk0,r.2) else
 bif !fV r.1 then(pk0,5) else(r.1,0)
theorem Jm (s:Bytes):(Ap s).1.length<=s.length:=by
 unfold Ap;cases decide ((s.length:Int)<4)with|true=>simp|false=>?_
 cases zd (s.take ((s.length:Int)-4).toNat)==s with|false=>simp|true=>simp;omega
theorem aau (s:Bytes)(h:s.length<=10^9):ud s=some (rm s):=by
 have h1:=Jm s;unfold ud rm;rw[V7 s h,ab];generalize Ap s=c at h1⊢;simp only;cases c.2 with|false=>rfl|true=>?_
 simp only[aj,af,ab,aav _ (show c.1.length<=10^9 by omega)];generalize jE c.1=r;cases r.2 !=0 with|true=>rfl|false=>?_
 simp only[af,ab,Lp];cases fV r.1<;>rfl
theorem YU (s:Bytes)(h:s.length<=10^9):tD s=some (rm s):=by
 have h1:=Jm s;unfold tD rm;rw[U1 s h,ab];generalize Ap s=c at h1⊢;simp only;cases c.2 with|false=>rfl|true=>?_
 simp only[aj,af,ab,Dc _ (show c.1.length<=10^9 by omega)];generalize jE c.1=r;cases r.2 !=0 with|true=>rfl|false=>?_
 simp only[af,ab,AD];cases fV r.1<;>rfl
theorem fJ (a:ca)(h:a.length<=1073741824:=by omega):cZ a=some a:=by simp only[cZ,ka];rw[aS (by simpa using h)];rfl
theorem AO (a:ca)(h:a.length<=1073741824:=by omega):lD a=some a:=by simp only[lD];rw[aS (by simpa using h)];rfl
def xR (a b:α):Bool:= @decide (a=b) (Classical.propDecidable _)
theorem yK {a b:α}:xR a b=true↔a=b:=by unfold xR;exact @decide_eq_true_iff _ (Classical.propDecidable _)
theorem O7 {a b:α}{x:Bool}(h:x=true↔a=b):x=xR a b:=by rw[cB,yK];exact h
theorem QR [BEq α][LawfulBEq α](a b:α):(a==b)=xR a b:=O7 aV
theorem abe {β:Type}(a b:α)(c d:β):xR (a,c) (b,d)=(xR a b&&xR c d):=by rw[cB];simp only[ae,yK,Prod.mk.injEq]
theorem jz {β:Type}(a b:α×β):xR a b=(xR a.1 b.1&&xR a.2 b.2):=abe a.1 b.1 a.2 b.2
theorem abf {a b:α}(h:a=b):xR a b=true:=yK.2 h
theorem Yd {a b:α}(h:¬a=b):xR a b=false:=by rw[Bool.eq_false_iff,ne_eq,yK];exact h
theorem abg {T:(Int->ax R)->Int->ax R}{fin hit:ax R}(p:α->α->Bool)(hp:∀x y,p x y=true↔x=y)(a b:aw α)(hl:a.length=b.length)(h:a.length<=10^9)(hs:∀i (hi:i<a.length) nx,T nx (i:Int)=cond (!(p a[i] (b[i]'(hl▸hi)))) hit (nx ((i+1:Nat):Int)))(hf:∀nx,T nx (a.length:Int)=fin): bc T fuel 0=cond (xR a b) fin hit:=by
 have hq:∀i,i<a.length->i<b.length:=λi hi=>hl▸hi;rw[ot (fin:=fin) (hit:=hit) (λi=>xR a[i]? b[i]?) a.length (by omega) ?hs hf]
 case hs=>
  intro i nx hi
  rw[hs i hi,al hi,al (hq i hi)]
  have:p a[i] (b[i]'(hq i hi))=xR (some a[i]) (some (b[i]'(hq i hi))):=O7 (by rw[hp,ba])
  rw[this]
 congr 1;apply O7;rw[aE];constructor;intro k;apply cz;intro i;by_cases hi:i<a.length;exact yK.1 (k i (bW.2 hi));rw[br (by omega),br (by omega)];rintro rfl i _;exact abf rfl
theorem vc {T:(Int->ax Bool)->Int->ax Bool}(p:α->α->Bool)(hp:∀x y,p x y=true↔x=y)(a b:aw α)(h:a.length<=10^9)(hs:a.length=b.length->∀i (hi:i<a.length)(ng:i<b.length) nx,T nx (i:Int)=cond (!(p a[i] b[i])) (some false) (nx ((i+1:Nat):Int)))(hf:∀nx,T nx (a.length:Int)=some true): cond ((a.length:Int) !=(b.length:Int)) (some false) (bc T fuel 0)=some (xR a b):=by by_cases hl:a.length=b.length;rw[abg p hp a b hl h (λi hi nx=>hs hl i hi (hl▸hi) nx) hf];rw[show((a.length:Int) !=(b.length:Int))=false by simp[hl]];cases xR a b<;>rfl;rw[Yd (λe=>hl (by rw[e]))];rw[show((a.length:Int) !=(b.length:Int))=true by simp;omega];rfl
theorem zR (a b:cL)(h:a.length<=10^9):gq a b=some (xR a b):=by unfold gq;refine vc (λx y=>x==y) (λx y=>aV) a b h (λhl i hi ng nx=>?_) (λnx=>?_);simp only[mm];rw[kK,bn hi,bn ng,ak];rfl;simp only[mm];rw[jj];rfl
theorem PC (a b:Filter)(h:a.2.2.length<=10^9):rX a b=some (xR a b):=by simp only[rX,zR _ _ h,ab,bL,cF,jz a b,jz a.2 b.2,QR]
theorem Iv (l:ca)(h:l.length<=10^9):ka l=some l:=by simp only[ka,mL h,cu]
theorem Kt (f:Filter)(h:f.2.2.length<=10^9):rT f=some f:=by simp only[rT,kY _ h,ab]
theorem Ln (f:Filter)(h:f.2.2.length<=10^9):xu f=some f:=by simp only[xu,mL h,cu]
theorem wD (l:aw Stream)(h:l.length<=10^9:=by omega):jZ l=some l:=by simp only[jZ,mL h,cu]
theorem Mc (t:aw Slot)(h:t.length<=10^9):tJ t=some t:=by simp only[tJ,mL h,cu]
theorem Ku (s:lF)(h:s.2.length<=10^9):rU s=some s:=by simp only[rU,kY _ h,ab]
theorem Mb (s:cV)(h1:s.1.length<=10^9)(h2:s.2.1.length<=10^9)(h3:s.2.2.2.length<=10^9):oU s=some s:=by simp only[oU,mL h1,Mc _ h2,Ku _ h3,ab,cu]
theorem DV (t:aw Slot)(h:t.length<=10^9):uj t=some t:=by simp only[uj,mL h,cu]
theorem Mt (s:cV)(h1:s.1.length<=10^9)(h2:s.2.1.length<=10^9)(h3:s.2.2.2.length<=10^9):xq s=some s:=by simp only[xq,mL h1,DV _ h2,mL h3,ab,cu]
theorem aao (l:aw kI)(i:Nat)(hi:i<l.length):l.take i++[(l[i].1,l[i].2.1,l[i].2.2)]=l.take (i+1):=(bI hi).symm
theorem Fm (l:aw kI)(h:l.length<=10^9)(hx:∀x∈l,x.2.2.length<=10^9):rf l=some l:=by unfold rf;refine(eo (λi=>(l.take i,(i:Int))) l.length (by omega) (λi nx hi=>?_) (λnx=>?_));simp only[qn];rw[kK,bn hi,ak];simp only[ah,ab,kY _ (hx _ (bm hi))];rw[aS (by simp;omega),aao l i hi];rfl;simp only[qn];rw[jj,dS];rfl
structure aes (t:dG):Prop where
 p:t.2.1.2.2.2.length<=10^9
 w:t.2.2.1.length<=10^9
 x:∀x∈t.2.2.1,x.2.2.length<=10^9
theorem En (t:dG)(z:aes t):pB t=some t:=by simp only[pB,sF _ z.p,Fm _ z.w z.x,ab]
theorem anI (z:cY 1000000000 dJ h):aes h.2.2.1:=⟨z.2.2.1.2.1.2.2.2.1,z.2.2.1.2.2.1.1,λx hx=>(z.2.2.1.2.2.1.2 x hx).2.2.1⟩
theorem iT (h:Host)(z:cY 1000000000 dJ h):fZ h=some h:=by have hp:h.2.2.2.2.1.length<=10^9:=z.2.2.2.2.1.1;have hm:h.1.length<=10^9:=z.1.1;unfold fZ;simp only[fJ _ (show h.1.length<=1073741824 by omega),tI,mL z.2.1.1,En _ (anI z),mL z.2.2.2.1.1,ab,cu];refine(eo (λi=>((i:Int),h.1,h.2.1,h.2.2.1,h.2.2.2.1,h.2.2.2.2.1.take i,h.2.2.2.2.2)) h.2.2.2.2.1.length (by omega) (λi nx hi=>?_) (λnx=>?_));simp only[qm];rw[kK,bn hi,ak];simp only[ah,ab,sF _ (z.2.2.2.2.1.2 _ (bm hi)).2.2.2.1];rw[aS (by simp;omega),<-bI hi];rfl;simp only[qm];rw[jj,dS];simp only[af,mL z.2.2.2.2.2.1.1,mL z.2.2.2.2.2.2.1.1,Kt _ z.2.2.2.2.2.2.2.1.2.2.1,Mb _ z.2.2.2.2.2.2.2.2.1.1.1 z.2.2.2.2.2.2.2.2.1.2.1.1 z.2.2.2.2.2.2.2.2.1.2.2.2.1,wD _ z.2.2.2.2.2.2.2.2.2.1.1,Iv _ z.2.2.2.2.2.2.2.2.2.2.2.1.1,kY _ z.2.2.2.2.2.2.2.2.2.2.2.2.1.1,kY _ z.2.2.2.2.2.2.2.2.2.2.2.2.2.1.1,ab,cu]
theorem WE:∀l:aw kI,(bz l).length<=T7 (.sl ia) l
 |[]=>by simp[bz]
 |x::l=>by have:=WE l;simp only[bz,T7,List.flatMap_cons,ai,cR,List.sum_cons,bB]at this⊢;omega
def atF (f:D4)(s:Stream):Bool:=decide (s.1=f)
def TG (l:aw Stream)(f:D4):Int:=match l.findIdx? (atF f)with|some i=>(i:Int)|none=> -1
theorem ac3 (l:aw Stream)(f:D4)(h:l.length<=10^9):qx l f=some (TG l f):=by
 unfold qx TG;rw[C1 (p:=atF f) (hit:=λi=>some i) (fin:=some (-1)) l (by omega) (λi hi nx=>?hs) (λnx=>?hf)]
 case hs=>
  simp only[mr]
  rw[kK,bn hi,ak]
  simp only[ah,ab,E7,atF];rfl
 case hf=>
  simp only[mr]
  rw[jj];rfl
 cases l.findIdx? (atF f)<;>rfl
theorem ab3 (l:aw Stream)(f:D4)(h:l.length<=10^9):qf l f=some (TG l f):=by
 unfold qf TG;rw[C1 (p:=atF f) (hit:=λi=>some i) (fin:=some (-1)) l (by omega) (λi hi nx=>?hs) (λnx=>?hf)]
 case hs=>
  simp only[mc]
  rw[kK,bn hi,ak]
  simp only[ah,ab,E7,atF];rfl
 case hf=>
  simp only[mc]
  rw[jj];rfl
 cases l.findIdx? (atF f)<;>rfl
def Wl:Stream:=((0,0,0,0,0),0,([]:Bytes),false)
def body (p:aO):Bytes:=p.2.2.2.2.2.2.2.2.2.2.2.2.2.2.2
def udp (p:aO):Bytes:=bS ((body p).length:Int)++body p
def Dr (p:aO)(b:Int):Bool:=aq (toNat (gb p.2.2.2.2.2.2.2.2.2.2.2.2.2.1&&&gb b)) !=0
def wx (s:Stream)(p:aO):Int:=(s.2.1-p.2.2.2.2.2.2.2.2.2.2.2.1)%4294967296
def ajU (s:Stream)(p:aO):Stream:=(s.1,(s.2.1+((body p).length:Int)-wx s p)%4294967296,s.2.2.1++(body p).drop (wx s p).toNat,Dr p 1)
def BX (l:aw Stream)(p:aO):aw Stream:=
 bif !dw p then l else
 match l.findIdx? (atF (kL p))with
 |none=>
  bif p.2.2.2.2.2.2.2.2.1==17 then l++[(kL p,0,udp p,false)] else
  bif Dr p 2 then l++[(kL p,tmod (aq (p.2.2.2.2.2.2.2.2.2.2.2.1+1)) 4294967296,([]:Bytes),false)] else l
 |some i=>
  bif p.2.2.2.2.2.2.2.2.1==17 then l.set i ((l.getD i Wl).1,(l.getD i Wl).2.1,(l.getD i Wl).2.2.1++udp p,(l.getD i Wl).2.2.2) else
  bif Dr p 2 then l else
  bif (l.getD i Wl).2.2.2||Dr p 4 then l else
  bif decide (wx (l.getD i Wl) p<=((body p).length:Int)) then l.set i (ajU (l.getD i Wl) p) else l
theorem aaX (s:Stream)(p:aO):0<=wx s p/\wx s p<4294967296:=by unfold wx;omega
theorem aji (x:Int):aq (toNat (gb x&&&gb 4294967295))=x%4294967296:=by have:=BN x 32;rw[show((2:Int)^32-1)=4294967295 from rfl,show((2:Int)^32)=4294967296 from rfl]at this;rw[this,ak]
theorem agZ (x:Int):aq x%4294967296=x%4294967296:=by have:=Ak x 32;rwa[show((2:Int)^32)=4294967296 from rfl]at this
theorem Qc (l:aw α)(x y:α):(l++[x]).set l.length y=l++[y]:=by rw[List.set_append_right _ _ (aU _),kQ,List.set_cons_zero]
theorem aeU {l:aw α}(h:i<l.length)(x:α):idx (l.set i x) (i:Int)=some x:=by rw[Py,List.getElem?_set_self h]
theorem Fk (l:aw α)(x:α):idx (l++[x]) (l.length:Int)=some x:=by rw[Py,bq (aU _),kQ];rfl
theorem QS (h:dw p=true):(body p).length<=320:=Bh h
theorem PA (l:aw Stream)(p:aO)(h:cY 900000000 (.sl dK) l):wY l p=some (BX l p):=by
 have hl:l.length<=900000000:=h.1;unfold wY BX;simp only[wD l,ov,ab,Kw,ab3 l _ (show l.length<=10^9 by omega),kl];cases hs:dw p with|false=>rfl|true=>?_
 have hb:=QS hs;have hw:=bF ((body p).length:Int);simp only[aj,af];rw[show p.2.2.2.2.2.2.2.2.2.2.2.2.2.2.2=body p from rfl];cases hf:l.findIdx? (atF (kL p))with
 |none=>
  have e1:TG l (kL p)= -1:=by rw[TG,hf]
  simp only[e1,show decide ((-1:Int)<0)=true from rfl,ah];cases p.2.2.2.2.2.2.2.2.1==17 with|true=>simp only[ah];rw[aS (by simp;omega),Fk,ab];simp only;rw[aS,aS (by simp only[ai,eI];omega),ab,az];simp only[ab,Fk,Qc,cu];rfl|false=>simp only[af];rw[show(aq (toNat (gb p.2.2.2.2.2.2.2.2.2.2.2.2.2.1&&&gb 2)) !=0)=Dr p 2 from rfl];cases Dr p 2 with|true=>simp only[ah];rw[lR,aS (by simp;omega)]|false=>rfl
 |some i=>
  obtain⟨hi,_⟩:=List.findIdx?_eq_some_iff_getElem.1 hf;have hd:(l[i].2.2.1).length<=900000000:=(h.2 _ (bm hi)).2.2.1;have e1:TG l (kL p)=(i:Int):=by rw[TG,hf]
  simp only[e1,ar (show¬(i:Int)<0 by omega),af,bn hi,ab,cI hi,az];cases p.2.2.2.2.2.2.2.2.1==17 with
  |true=>simp only[ah];rw[aS,aS (by simp only[ai];omega)];rfl
  |false=>
   simp only[af];rw[show(aq (toNat (gb p.2.2.2.2.2.2.2.2.2.2.2.2.2.1&&&gb 2)) !=0)=Dr p 2 from rfl,show(aq (toNat (gb p.2.2.2.2.2.2.2.2.2.2.2.2.2.1&&&gb 4)) !=0)=Dr p 4 from rfl,show(aq (toNat (gb p.2.2.2.2.2.2.2.2.2.2.2.2.2.1&&&gb 1)) !=0)=Dr p 1 from rfl];cases Dr p 2 with|true=>rfl|false=>?_
   simp only[af];rw[show(aa (cond l[i].2.2.2 (some true) (some (Dr p 4))):(Bool->ax (aw Stream))->ax (aw Stream))=λK=>K (l[i].2.2.2||Dr p 4) from by funext K;cases l[i].2.2.2<;>rfl];simp only;cases l[i].2.2.2||Dr p 4 with|true=>rfl|false=>?_
   simp only[af,GZ _ 4294967296,ab,agZ];rw[show(l[i].2.1-p.2.2.2.2.2.2.2.2.2.2.2.1)%4294967296=wx l[i] p from rfl];have ha:=aaX l[i] p;by_cases hq:wx l[i] p<=((body p).length:Int)
   rw[au hq,uv (l:=body p) (wx l[i] p).toNat (by omega) (by omega)];simp only[ah,ab];rw[aS (by rw[aL];omega)];simp only[aeU hi,ab,List.set_set];refine congrArg some (congrArg (l.set i) ?_);simp only[ajU];rw[show(aq (l[i].2.1+((body p).length:Int))-wx l[i] p)%4294967296=(l[i].2.1+((body p).length:Int)-wx l[i] p)%4294967296 from by rw[Int.sub_emod,agZ,<-Int.sub_emod]];rw[ar hq];rfl
theorem O2 {l:aw Stream}(h:cY n (.sl dK) l):cY (n+322) (.sl dK) (BX l p):=by
 have h':cY (n+322) (.sl dK) l:=h.mono;unfold BX;cases hs:dw p with|false=>exact h'|true=>?_
 have hb:=QS hs;have hw:=bF ((body p).length:Int);have hu:(udp p).length<=322:=by simp only[udp,ai];omega
 simp only[aj,af];have app:∀x:Stream,x.2.2.1.length<=n+322->cY (n+322) (.sl dK) (l++[x]):=by intro x hx;refine⟨?_,λy hy=>?_⟩;have:l.length<=n:=h.1;simp only[ai,bt];omega;rcases ay.1 hy with g|g;exact h'.2 y g;rw[cn.1 g];exact⟨⟨cx,cx,cx,cx,cx⟩,cx,hx,cx⟩
 have put:∀(i:Nat)(x:Stream),x.2.2.1.length<=n+322->cY (n+322) (.sl dK) (l.set i x):=by intro i x hx;refine⟨?_,λy hy=>?_⟩;show(l.set i x).length<=_;rw[aC];exact h'.1;rcases List.mem_or_eq_of_mem_set hy with g|rfl;exact h'.2 y g;exact⟨⟨cx,cx,cx,cx,cx⟩,cx,hx,cx⟩
 split;cases p.2.2.2.2.2.2.2.2.1==17 with|true=>exact app _ (show(udp p).length<=_ by omega)|false=>cases Dr p 2 with|true=>exact app _ (bO _)|false=>exact h'
 rename_i i hf;obtain⟨hi,_⟩:=List.findIdx?_eq_some_iff_getElem.1 hf;have hd:(l[i].2.2.1).length<=n:=(h.2 _ (bm hi)).2.2.1;simp only[cI hi];cases p.2.2.2.2.2.2.2.2.1==17 with
 |true=>exact put _ _ (by simp only[ai];omega)
 |false=>
  cases Dr p 2 with|true=>exact h'|false=>?_
  cases l[i].2.2.2||Dr p 4 with|true=>exact h'|false=>?_
  cases decide (wx l[i] p<=((body p).length:Int))with|false=>exact h'|true=>exact put _ _ (by simp only[ajU,ai,aL];omega)
theorem jb {y:Bytes}(h:i<x.length):bJ (x++y) i=bJ x i:=by unfold bJ;rw[cH,cH,bD h]
theorem sE {y:Bytes}(h:x.length<=i):bJ (x++y) i=bJ y (i-x.length):=by unfold bJ;rw[cH,cH,bq h]
theorem QX (h:i<n):bJ (x.take n) i=bJ x i:=by unfold bJ;rw[cH,cH,dQ h]
theorem kW:bJ (x.drop n) i=bJ x (n+i):=by unfold bJ;rw[cH,cH,bM]
theorem P0 {p:Bytes}(h:i<a\/a+p.length<=i:=by omega):bJ (uK s (a:Int) p) i=bJ s i:=by
 unfold uK eS;by_cases hw:(0:Int)<=a/\(a:Int)+(p.length:Int)<=(s.length:Int)
 rw[au hw,ah,az];have ht:(s.take a).length=a:=by rw[aZ];omega
 rcases h with h|h;rw[jb (by rw[ai];omega),jb (by omega),QX h];rw[sE (by rw[ai];omega),kW,ai,ht];congr 1;omega;rw[ar hw];rfl
theorem Xt {p:Bytes}{j:Nat}(hw:a+p.length<=s.length)(hj:j<p.length:=by omega):bJ (uK s (a:Int) p) (a+j)=bJ p j:=by
 unfold uK eS;rw[au ⟨by omega,by omega⟩,ah,az];have ht:(s.take a).length=a:=by rw[aZ];omega
 rw[jb (by rw[ai];omega),sE (by omega),ht];congr 1;omega
theorem sH:cj s (a:Int)=bif decide (a+2<=s.length) then((bJ s a*256+bJ s (a+1):Nat):Int) else-1:=by unfold cj eS;rw[az,show decide ((0:Int)<=a/\(a:Int)+2<=(s.length:Int))=decide (a+2<=s.length) from decide_eq_decide.2 (by omega)]
theorem Ca (hl:s.length=t.length)(h0:bJ s a=bJ t a)(h1:bJ s (a+1)=bJ t (a+1)):cj s (a:Int)=cj t (a:Int):=by rw[sH,sH,hl,h0,h1]
theorem J9 {k:Nat}:cj (s.drop k) (a:Int)=cj s ((k+a:Nat):Int):=by rw[sH,sH,kW,kW,aL,show k+(a+1)=k+a+1 by omega,show decide (a+2<=s.length-k)=decide (k+a+2<=s.length) from decide_eq_decide.2 (by omega)]
theorem C5:fB s (a:Int)=bif decide (a+4<=s.length) then(((bJ s a*256+bJ s (a+1))*65536+(bJ s (a+2)*256+bJ s (a+3)):Nat):Int) else-1:=by unfold fB eS;rw[az,show decide ((0:Int)<=a/\(a:Int)+4<=(s.length:Int))=decide (a+4<=s.length) from decide_eq_decide.2 (by omega)]
theorem Ka {k:Nat}:fB (s.drop k) (a:Int)=fB s ((k+a:Nat):Int):=by rw[C5,C5,kW,kW,kW,kW,aL,show k+(a+1)=k+a+1 by omega,show k+(a+2)=k+a+2 by omega,show k+(a+3)=k+a+3 by omega,show decide (a+4<=s.length-k)=decide (k+a+4<=s.length) from decide_eq_decide.2 (by omega)]
theorem RK (hl:s.length=t.length)(h:∀j,j<4->bJ s (a+j)=bJ t (a+j)):fB s (a:Int)=fB t (a:Int):=by rw[C5,C5,hl,show bJ s a=bJ t a from h 0 (by omega),h 1 (by omega),h 2 (by omega),h 3 (by omega)]
def dj (s:Bytes):Nat:=bif cj s 12==33024 then 18 else 14
def jU (s:Bytes):Nat:=bJ s (dj s+9)
def Ls (k:Nat):Nat:=bif (k:Int)==6 then 16 else 6
def zC (s:Bytes):Nat:=dj s+10
def xy (s:Bytes):Nat:=dj s+20+Ls (jU s)
theorem F7 (k:Nat):Ls k=16/\k=6\/Ls k=6/\k≠6:=by unfold Ls;by_cases h:k=6;subst h;exact .inl ⟨rfl,rfl⟩;exact .inr ⟨by rw[show((k:Int)==6)=false from by rw[dk];omega];rfl,h⟩
theorem Jf (s:Bytes):dj s=18/\(cj s 12==33024)=true\/dj s=14/\(cj s 12==33024)=false:=by unfold dj;cases cj s 12==33024 with|true=>exact .inl ⟨rfl,rfl⟩|false=>exact .inr ⟨rfl,rfl⟩
theorem GM (k:Nat)(h:k<256):fb (k:Int)=some (Ls k:Int):=by unfold fb Ls;cases (k:Int)==6<;>rfl
theorem Fx (s:Bytes)(h:s.length<=10^9):pF s=some ((zC s:Int),(xy s:Int)):=by
 unfold pF;rw[uE s 12 h,ab];have hk:=eC s (dj s+9)
 have core:∀o:Nat,dj s=o->(o=18\/o=14)->(bif decide (aq ((o:Int)+9)<(s.length:Int)) then
  aa (idx s (aq ((o:Int)+9))) λx2=>aa (fb (aq ((UInt8.toNat x2:Int)))) λr3=>some (aq ((o:Int)+10),aq ((aq ((o:Int)+20))+r3))
  else aa (fb 0) λr4=>some (aq ((o:Int)+10),aq ((aq ((o:Int)+20))+r4)))=some ((zC s:Int),(xy s:Int)):=by
  intro o ho h2
  have hs:=F7 (jU s)
  rw[ak (n:=(o:Int)+9),ak (n:=(o:Int)+10),ak (n:=(o:Int)+20)]
  unfold zC xy
  rw[ho]
  by_cases hl:o+9<s.length
  ·obtain⟨x,hx,ex⟩:=ld hl
   rw[kK,ah,show(o:Int)+9=((o+9:Nat):Int) by omega,hx,ab,ex,gU (by rw[<-ho];omega),GM _ (by rw[<-ho];exact hk),ab,show bJ s (o+9)=jU s by unfold jU;rw[ho],ak]
   congr 1
  ·have hz:jU s=0:=by unfold jU;rw[ho];exact D9
   have h0:fb 0=some (Ls 0:Int):=GM 0 (by omega)
   rw[jj,af,h0,ab,<-hz,ak]
   congr 1
 rcases Jf s with⟨h1,h2⟩|⟨h1,h2⟩;rw[h2,ah];exact core 18 h1 (.inl rfl);rw[h2,af];exact core 14 h1 (.inr rfl)
theorem Xo {a:Int}(h:dm a 0 281474976710655=true):(Zs a).length=6:=by
 have ha:=bh.1 h;have e:Zs a=bS (fdiv a (2^(om 32)))++iO (aq (toNat (gb a&&&gb 4294967295))):=by unfold Zs iy;rw[lR];simp only[nA,pL,ab];have h1:=bF (fdiv a (2^(om 32)));have h2:=eu (aq (toNat (gb a&&&gb 4294967295)));rw[aS];rfl
 have e2:(2:Int)^(om 32)=4294967296:=rfl;rw[e,ai,EI,LN,aji,e2];rw[show dm (fdiv a 4294967296) 0 65535=true from bh.2 (by rw[Int.fdiv_eq_ediv_of_nonneg _ (by omega)];omega),show dm (a%4294967296) 0 4294967295=true from bh.2 (by omega)];rfl
theorem Sa (h:dw p=true):dj (dy p).1+46<=(dy p).1.length:=by
 have hh:oJ p=true:=by simp only[dw,ae]at h;exact h.1
 have hp:=PY (Zk p).1;have hi:=Da h;unfold dy aeJ Rr at hi⊢;rw[h,ah]at hi⊢;cases he:pS (p.1,p.2.1,p.2.2.1,2048,pad (Zk p).1)with|false=>rw[he]at hi;cases hi|true=>?_
 simp only[ah];simp only[oJ,ae]at hh;have m1:=Xo hh.1;have m2:=Xo hh.2.1;have hv:=bh.1 hh.2.2.1;have w1:(bS 33024).length=2:=rfl;have w3:(bS 2048).length=2:=rfl;generalize pad (Zk p).1=bd at hp⊢;unfold MR;simp only;generalize Zs p.1=M1 at m1⊢;generalize Zs p.2.1=M2 at m2⊢;by_cases hc:p.2.2.1>=0;have w2:(bS p.2.2.1).length=2:=by rw[EI,bh.2 (by omega)];rfl
 rw[au hc,ah];have hb:dj (((((M1++M2)++bS 33024)++bS p.2.2.1)++bS 2048)++bd)=18:=by
  unfold dj;have e12:cj (((((M1++M2)++bS 33024)++bS p.2.2.1)++bS 2048)++bd) ((12:Nat):Int)=33024:=by rw[sH,au (by simp only[ai];omega),ah];rw[jb (by simp only[ai];omega),jb (by simp only[ai];omega),jb (by simp only[ai];omega),sE (by simp only[ai];omega)];rw[jb (by simp only[ai];omega),jb (by simp only[ai];omega),jb (by simp only[ai];omega),sE (by simp only[ai];omega)];rw[ai,m1,m2];rfl
  rw[show(12:Int)=((12:Nat):Int) from rfl,e12];rfl
 rw[hb];simp only[ai];omega;rw[ar hc,af];have hb:dj (((M1++M2)++bS 2048)++bd)=14:=by
  unfold dj;have e12:cj (((M1++M2)++bS 2048)++bd) ((12:Nat):Int)=2048:=by rw[sH,au (by simp only[ai];omega),ah];rw[jb (by simp only[ai];omega),sE (by simp only[ai];omega)];rw[jb (by simp only[ai];omega),sE (by simp only[ai];omega)];rw[ai,m1,m2];rfl
  rw[show(12:Int)=((12:Nat):Int) from rfl,e12];rfl
 rw[hb];simp only[ai];omega
def lr (t:Bytes)(x y:Bytes):Bytes:=uK (uK t (zC t:Int) x) (xy t:Int) y
theorem Cy (t x y:Bytes):(lr t x y).length=t.length:=by unfold lr;rw[wj,wj]
def jR (p:aO):Bytes×Bool:=bif dw p then(lr (dy p).1 (bS 0) (bS 0),true) else([],false)
theorem abN (h:dw p=false):dy p=([],false):=by unfold dy;rw[h];rfl
theorem Nl (p:aO):lH p=some (jR p):=by have hl:=xF p;have w0:=bF 0;unfold lH jR lr;rw[Db,ab];cases h:dw p with|false=>rw[abN h];rfl|true=>rw[Da h];simp only[aj,af,ah,Fx _ (show(dy p).1.length<=10^9 by omega),ab,kl,AE _ _ _ (show(dy p).1.length<=10^9 by omega) (show(bS 0).length<=10^9 by omega),AE _ _ _ (show(uK (dy p).1 (zC (dy p).1:Int) (bS 0)).length<=10^9 by rw[wj];omega) (show(bS 0).length<=10^9 by omega)]
def Bo (s t:Bytes):Prop:=s.length=t.length/\∀i,i<zC t\/(zC t+2<=i/\i<xy t)\/xy t+2<=i->bJ s i=bJ t i
theorem yj (t:Bytes):(dj t=14\/dj t=18)/\zC t=dj t+10/\dj t+26<=xy t/\xy t<=dj t+36/\(xy t=dj t+36/\jU t=6\/xy t=dj t+26/\jU t≠6):=by have h1:=Jf t;have h2:=F7 (jU t);unfold zC xy;omega
theorem DS (t:Bytes){y:Bytes}(hx:x.length<=2)(hy:y.length<=2):Bo (lr t x y) t:=by have:=yj t;refine⟨Cy t x y,λi hi=>?_⟩;unfold lr;rw[P0,P0]
theorem Bo.body (h:Bo s t):dj s=dj t:=by have:=yj t;unfold dj;have e:cj s ((12:Nat):Int)=cj t ((12:Nat):Int):=Ca h.1 (h.2 _ (by omega)) (h.2 _ (by omega));rw[show(12:Int)=((12:Nat):Int) from rfl,e]
theorem Bo.kind (h:Bo s t):jU s=jU t:=by have:=yj t;unfold jU;rw[h.body,h.2 _ (by omega)]
theorem Bo.ajJ (h:Bo s t):zC s=zC t/\xy s=xy t:=by unfold zC xy;rw[h.body,h.kind];exact⟨rfl,rfl⟩
theorem Bo.anH (h:Bo s t):cj s ((dj t+2:Nat):Int)=cj t ((dj t+2:Nat):Int):=by have:=yj t;exact Ca h.1 (h.2 _ (by omega)) (h.2 _ (by omega))
structure TOk (t:Bytes):Prop where
 eth:(fG t).2=true
 bd:(fG t).1.2.2.2.2=t.drop (dj t)
 l1:dj t+46<=t.length
 n1:20+Ls (jU t)+2<=cj t ((dj t+2:Nat):Int)
 n2:cj t ((dj t+2:Nat):Int)<=(t.length:Int)-(dj t:Int)
theorem G6 (h:(fG s).2=true):(fG s).1.2.2.2.2=s.drop (dj s)/\18<=s.length/\46<=s.length-dj s/\s.length-dj s<=400:=by
 unfold fG at h⊢;by_cases h8:(s.length:Int)<18;rw[au h8]at h;cases h;rw[ar h8]at h⊢;simp only[af]at h⊢;rcases Jf s with⟨h1,h2⟩|⟨h1,h2⟩;rw[h2]at h⊢;simp only[ah]at h⊢;cases he:pS (Ed s)with|false=>rw[he]at h;cases h|true=>rw[h1];simp only[pS,ae,bh,Ed,aL]at he;simp only[ah,Ed];refine⟨cx,by omega,by omega,by omega⟩
 rw[h2]at h⊢;simp only[af]at h⊢;cases he:pS (vT s)with|false=>rw[he]at h;cases h|true=>rw[h1];simp only[pS,ae,bh,vT,aL]at he;simp only[ah,vT];refine⟨cx,by omega,by omega,by omega⟩
theorem La (h:(jE s).2=0):(fG s).2=true/\(kE (fG s).1.2.2.2.2).2=true/\dw (jE s).1=true/\ (pH (kE (fG s).1.2.2.2.2).1.2.2.2.2.1 (kE (fG s).1.2.2.2.2).1.2.2.2.2.2.1 (kE (fG s).1.2.2.2.2).1.2.2.2.1 (kE (fG s).1.2.2.2.2).1.2.2.2.2.2.2).2=true:=by
 unfold jE at h⊢;simp only at h⊢;generalize fG s=e at h⊢;cases h1: !e.2||(e.1.2.2.2.1 !=2048)with|true=>rw[h1]at h;cases h|false=>?_
 rw[h1]at h;simp only[af]at h⊢;generalize kE e.1.2.2.2.2=i at h⊢;cases h2:i.2 with|false=>rw[h2]at h;cases h|true=>?_
 rw[h2]at h;simp only[aj,af]at h⊢;generalize pH i.1.2.2.2.2.1 i.1.2.2.2.2.2.1 i.1.2.2.2.1 i.1.2.2.2.2.2.2=g at h⊢;cases h3:g.2 with|false=>rw[h3]at h;cases h|true=>?_
 rw[h3]at h;simp only[aj,af]at h⊢;cases h4:dw (e.1.1,e.1.2.1,e.1.2.2.1,i.1.1,i.1.2.1,i.1.2.2.1,i.1.2.2.2.2.1,i.1.2.2.2.2.2.1,g.1)with|false=>rw[h4]at h;cases h|true=>?_
 simp only[ch,dz]at h1;exact⟨h1.1,cx,h4,cx⟩
theorem acD (h:(kE b).2=true):20<=cj b 2/\cj b 2<=(b.length:Int)/\(kE b).1=AM b:=by
 unfold kE at h⊢;cases h1:decide ((b.length:Int)<20)||(decide (cj b 2<20)||decide (cj b 2>(b.length:Int)))with|true=>rw[h1]at h;cases h|false=>?_
 rw[h1]at h;simp only[af]at h⊢;cases h2:(QF (AM b)).2&&((QF (AM b)).1==b.take (cj b 2).toNat)with|false=>rw[h2]at h;cases h|true=>?_
 simp only[ch,cw]at h1;exact⟨by omega,by omega,rfl⟩
theorem ZZ {a b k:Int}(h:(pH a b k s).2=true):k=6/\20<=s.length\/k=17/\8<=s.length:=by unfold pH at h;cases h1:(k==6)&&decide ((s.length:Int)>=20)with|true=>simp only[ae,aV,aB]at h1;exact .inl ⟨h1.1,by omega⟩|false=>rw[h1]at h;simp only[af]at h;cases h2:(k==17)&&decide ((s.length:Int)>=8)with|true=>simp only[ae,aV,aB]at h2;exact .inr ⟨h2.1,by omega⟩|false=>rw[h2]at h;cases h
theorem Ye (hl:s.length=t.length)(h:∀i,i<18->bJ s i=bJ t i)(hs:(fG s).2=true):(fG t).2=true:=by
 have g16:∀a,a+2<=18->cj s ((a:Nat):Int)=cj t ((a:Nat):Int):=λa ha=>Ca hl (h _ (by omega)) (h _ (by omega));have g32:∀a,a+4<=18->fB s ((a:Nat):Int)=fB t ((a:Nat):Int):=λa ha=>RK hl (λj hj=>h _ (by omega));have e0:DM s 0=DM t 0:=by unfold DM;rw[show(0:Int)=((0:Nat):Int) from rfl,g16 0 (by omega),show((0:Nat):Int)+2=((2:Nat):Int) from rfl,g32 2 (by omega)]
 have e6:DM s 6=DM t 6:=by unfold DM;rw[show(6:Int)=((6:Nat):Int) from rfl,g16 6 (by omega),show((6:Nat):Int)+2=((8:Nat):Int) from rfl,g32 8 (by omega)]
 have e12:cj s 12=cj t 12:=g16 12 (by omega);have e14:cj s 14=cj t 14:=g16 14 (by omega);have e16:cj s 16=cj t 16:=g16 16 (by omega);have b1:pS (Ed s)=pS (Ed t):=by unfold pS Ed;rw[e0,e6,e14,e16];simp only[aL,hl]
 have b2:pS (vT s)=pS (vT t):=by unfold pS vT;rw[e0,e6,e12];simp only[aL,hl]
 unfold fG at hs⊢;rw[hl,e12,b1,b2]at hs;cases h8:decide ((t.length:Int)<18)with|true=>rw[h8]at hs;cases hs|false=>?_
 rw[h8]at hs;cases h12:cj t 12==33024 with
 |true=>rw[h12]at hs;cases hb:pS (Ed t)with|true=>rfl|false=>rw[hb]at hs;cases hs
 |false=>rw[h12]at hs;cases hb:pS (vT t)with|true=>rfl|false=>rw[hb]at hs;cases hs
theorem ajV (ha:Bo s t)(h:(jE s).2=0):TOk t:=by
 have hp:=yj t;obtain⟨h1,h2,_,h4⟩:=La h;have he:=G6 h1;rw[he.1]at h2 h4;have hi:=acD h2;have hs:=ZZ h4;rw[hi.2.2]at hs;have e1:(fG t).2=true:=Ye ha.1 (λi hi=>ha.2 i (by omega)) h1;have e2:=G6 e1;have en:cj (s.drop (dj s)) 2=cj t ((dj t+2:Nat):Int):=by have:cj (s.drop (dj s)) ((2:Nat):Int)=cj s ((dj s+2:Nat):Int):=J9;rw[show(2:Int)=((2:Nat):Int) from rfl,this,ha.body,ha.anH]
 have ek:(AM (s.drop (dj s))).2.2.2.1=(jU t:Int):=by show(bJ (s.drop (dj s)) 9:Int)=_;rw[kW,<-ha.kind];rfl
 have eg:(AM (s.drop (dj s))).2.2.2.2.2.2.length=(cj t ((dj t+2:Nat):Int)).toNat-20:=by show(((s.drop (dj s)).take (cj (s.drop (dj s)) 2).toNat).drop 20).length=_;rw[en,aL,aZ];have:=hi.2.1;rw[en]at this;omega
 rw[ek,eg]at hs;rw[en]at hi;have hn:=hi.2.1;rw[aL,ha.1,ha.body]at hn;have hk:=F7 (jU t);exact⟨e1,e2.1,by omega,by omega,by omega⟩
theorem aaF (h:(jR p).1=t)(hs:dw p=true)(ht:TOk t):cj t (zC t:Int)=0/\cj t (xy t:Int)=0:=by
 unfold jR at h;rw[hs]at h;simp only[ah]at h;have w0:(bS 0).length=2:=rfl;have ha:Bo (lr (dy p).1 (bS 0) (bS 0)) (dy p).1:=DS _ (by omega) (by omega);rw[h]at ha;have hp:=yj t;have C8:=ha.ajJ;have hl:=ht.l1;have xE:=ha.1;have GG:=ht.n1;have BL:=ht.n2;have hk:=F7 (jU t);have hB:xy t+2<=t.length:=by omega
 have b0:bJ (bS 0) 0=0:=rfl;have b1:bJ (bS 0) 1=0:=rfl;rw[sH,sH,kK,au hB,ah,ah];have eB:∀j,j<2->bJ t (xy t+j)=bJ (bS 0) j:=by intro j hj;rw[<-h];unfold lr;rw[show xy (uK (uK (dy p).1 (zC (dy p).1:Int) (bS 0)) (xy (dy p).1:Int) (bS 0))=xy (dy p).1 from by have:=C8.2;rw[<-h]at this;exact this];exact Xt (by rw[wj,w0];omega)
 have eA:∀j,j<2->bJ t (zC t+j)=bJ (bS 0) j:=by intro j hj;rw[<-h];unfold lr;rw[show zC (uK (uK (dy p).1 (zC (dy p).1:Int) (bS 0)) (xy (dy p).1:Int) (bS 0))=zC (dy p).1 from by have:=C8.1;rw[<-h]at this;exact this];rw[P0];exact Xt (by rw[w0];omega)
 have a0:=eA 0 (by omega);have a1:=eA 1 (by omega);have c0:=eB 0 (by omega);have c1:=eB 1 (by omega);rw[dT]at a0 c0;rw[a0,a1,c0,c1,b0,b1];exact⟨rfl,rfl⟩
theorem Jj (s:Bytes):aJ (di s)=s:=by
 unfold aJ di;rw[List.map_map];conv=>rhs;rw[<-List.map_id s]
 refine List.map_congr_left λb _=>?_;simp
theorem ab7 (s t:Bytes):di (s++t)=di s++di t:=List.map_append
theorem FC (s:Bytes):(di s).length=s.length:=da ..
theorem Qt (l:aw α)(i j:Nat)(h:i<=j)(h2:j<=l.length):sub l (i:Int) (j:Int)=some ((l.drop i).take (j-i)):=by unfold sub;rw[zip];simp[List.take_drop,Nat.add_sub_cancel' h]
theorem TM (a k:Nat):Int.tdiv (a:Int) (k:Int)=((a/k:Nat):Int):=(Int.ofNat_tdiv a k).symm
theorem NV (a k:Nat):tmod (a:Int) (k:Int)=((a%k:Nat):Int):=(Int.ofNat_tmod a k).symm
theorem mem_iff:cD m=true↔(∀x∈m,x.length=128)/\m.length<=64:=by simp only[cD,ae,aE,aV,aB];constructor;rintro⟨h1,h2⟩;exact⟨λx hx=>by have:=h1 x hx;omega,by omega⟩;rintro⟨h1,h2⟩;exact⟨λx hx=>by have:=h1 x hx;omega,by omega⟩
theorem RB:∀{m:ca},(∀x∈m,x.length=128)->m.flatten.length=128*m.length
 |[],_=>rfl
 |x::m,h=>by have:=RB (m:=m) (λy hy=>h y (by simp[hy]));have:=h x (by simp);simp only[List.flatten_cons,ai,bB];omega
theorem MY:∀{m:ca}(_:∀x∈m,x.length=128)(p:Nat)(hp:p<m.length)(o c:Nat),o+c<=128->(m.flatten.drop (128*p+o)).take c=(m[p].drop o).take c
 |x::m,h,0,hp,o,c,ho=>by have:=h x (by simp);simp only[List.flatten_cons,List.getElem_cons_zero];rw[List.drop_append_of_le_length (by omega),List.take_append_of_le_length (by simp;omega)];simp
 |x::m,h,p+1,hp,o,c,ho=>by have hx:=h x (by simp);simp only[List.flatten_cons,List.getElem_cons_succ];rw[show 128*(p+1)+o=x.length+(128*p+o) by omega,List.drop_length_add_append];exact MY (m:=m) (λy hy=>h y (by simp[hy])) p (by simpa using hp) o c ho
def Ac (m:ca)(a n:Nat):Bytes:=(m.flatten.drop a).take n
theorem Hd (h:cD m=true)(hn:a+n<=128*m.length):(Ac m a n).length=n:=by have:=RB (mem_iff.1 h).1;simp only[Ac,aZ,aL];omega
theorem acI (m:ca)(a n:Nat):(Ac m a n).length<=n:=by simp[Ac];omega
theorem aaa (m:ca)(a k c:Nat):Ac m a (k+c)=Ac m a k++Ac m (a+k) c:=by unfold Ac;rw[List.take_add,eF]
theorem VU (h:cD m=true){p:Nat}(hp:p<m.length){o c:Nat}(ho:o+c<=128)(ha:a=128*p+o):(m[p].drop o).take c=Ac m a c:=by subst ha;exact(MY (mem_iff.1 h).1 p hp o c ho).symm
def gu (m:ca)(a n:Int):Bool:=cD m&&decide (0<=n/\0<=a/\a+n<=128*(m.length:Int))
theorem Co (m:ca)(a n:Int)(h:m.length<=10^9):sM m a n=some (gu m a n):=by unfold sM gu;rw[Eo m h,ab,ak (n:=(m.length:Int)*128)];cases hm:cD m with|false=>rfl|true=>simp only[ah,bC];by_cases h1:n>=0;by_cases h2:n<=(m.length:Int)*128;rw[ak (n:=(m.length:Int)*128-n)];by_cases h3:a>=0;simp only[au h1,au h2,au h3,ah,ab];exact congrArg some (decide_eq_decide.2 (by omega));simp only[au h1,au h2,ar h3,ah,af,ab];exact congrArg some (jj).symm;simp only[au h1,ar h2,ah,af,ab];exact congrArg some (jj).symm;simp only[ar h1,af,ab];exact congrArg some (jj).symm
theorem H4 (m:ca)(a n:Int)(h:m.length<=10^9):mU m a n=some (gu m a n):=by unfold mU gu;rw[EA m h,ab,ak (n:=128*(m.length:Int))];cases hm:cD m with|false=>rfl|true=>simp only[ah,bC];by_cases h1:n>=0;by_cases h3:a>=0;by_cases h2:a<=128*(m.length:Int);rw[ak (n:=128*(m.length:Int)-a)];simp only[au h1,au h2,au h3,ah,ab];exact congrArg some (decide_eq_decide.2 (by omega));simp only[au h1,ar h2,au h3,ah,af,ab];exact congrArg some (jj).symm;simp only[au h1,ar h3,ah,af,ab];exact congrArg some (jj).symm;simp only[ar h1,af,ab];exact congrArg some (jj).symm
theorem Fu (hm:cD m=true)(K:Int->cL->ax R):∀(n r k a f:Nat),r<=n->n<f->a+k+r<=128*m.length->
 bc (ko K ((k+r:Nat):Int) m) f (((a+k:Nat):Int),di (Ac m a k))=K ((a+k+r:Nat):Int) (di (Ac m a (k+r)))
 |n,r,k,a,0,_,hf,_=>by omega
 |n,0,k,a,f+1,hr,hf,hb=>by rw[bc];simp only[ko,FC,Hd hm (show a+k<=128*m.length by omega),dT];rw[jj,af]
 |0,r+1,k,a,f+1,hr,hf,hb=>by omega
 |n+1,r+1,k,a,f+1,hr,hf,hb=>by
  have h64:=(mem_iff.1 hm).2;have hl:=Hd hm (show a+k<=128*m.length by omega);obtain⟨p,hp⟩:∃p,(a+k)/128=p:=⟨_,rfl⟩
  obtain⟨o,ho⟩:∃o,(a+k)%128=o:=⟨_,rfl⟩
  have hpo:a+k=128*p+o:=by omega
  have ho2:o<128:=by omega
  have C8:p<m.length:=by omega
  obtain⟨c,hc⟩:∃c,min (r+1) (128-o)=c:=⟨_,rfl⟩
  have hpg:=(mem_iff.1 hm).1 _ (bm C8);have e1:Int.tdiv ((a+k:Nat):Int) 128=(p:Int):=by rw[<-hp];exact TM (a+k) 128
  have e2:tmod ((a+k:Nat):Int) 128=(o:Int):=by rw[<-ho];exact NV (a+k) 128
  have key:=Fu hm K n (r+1-c) (k+c) a f (by omega) (by omega) (by omega);rw[bc];simp only[ko,FC,hl,e1,e2];rw[kK,ah,lR,ak (n:=(p:Int)),bn C8,ab,lR];rw[ak (n:=(o:Int)+((k+(r+1):Nat):Int)),ak (n:=(o:Int)+((k+(r+1):Nat):Int)-(k:Int))];rw[show(if(o:Int)+((k+(r+1):Nat):Int)-(k:Int)<128 then(o:Int)+((k+(r+1):Nat):Int)-(k:Int) else 128)=((o+c:Nat):Int) by split<;>omega];rw[Qt _ _ _ (by omega) (by omega),ab,show o+c-o=c by omega,VU hm C8 (show o+c<=128 by omega) hpo];have xE:=Hd hm (show a+k+c<=128*m.length by omega);rw[xE,aS,ak,<-ab7,<-aaa];rw[show((a+k:Nat):Int)+(c:Int)=((a+(k+c):Nat):Int) by omega];rw[show k+c+(r+1-c)=k+(r+1) by omega,show a+(k+c)+(r+1-c)=a+k+(r+1) by omega]at key;exact key
theorem ab0 (m:ca)(a n:Int)(h:m.length<=10^9):nO m a n=some (bif gu m a n then(Ac m a.toNat n.toNat,true) else([],false)):=by have Bx:=ee;unfold nO;rw[Co m a n h,ab];cases hw:gu m a n with|false=>rfl|true=>simp only[gu,ae,aB]at hw;obtain⟨hm,h1,h2,h3⟩:=hw;have h64:=(mem_iff.1 hm).2;simp only[aj,af,ah];rw[zip,aS];obtain⟨a,rfl⟩:=aX h2;obtain⟨n,rfl⟩:=aX h1;have:=Fu hm (λ(y4:Int) (y5:cL)=>some (aJ y5,true)) n n 0 a fuel (by omega) (by omega) (by omega);rw[cp,dT]at this;refine Eq.trans this ?_;simp only[Jj,az]
def Et (d p:Int)(w:Bool)(x:aA):Bool:=ku d p x&&(x.2.2.2|| !w)
def rl (l:aw aA)(d p:Int)(w:Bool):Int:=match l.findIdx? (Et d p w)with|some i=>(l.getD i GV).2.2.1|none=> -1
theorem ac2 (l:aw aA)(d p:Int)(w:Bool)(h:l.length<=10^9):xr l d p w=some (rl l d p w):=by unfold xr rl;refine Eq.trans (C1 (p:=Et d p w) (hit:=λi=>aa (idx l i) λx=>some x.2.2.1) (fin:=some (-1)) l (by omega) (λi hi nx=>?_) (λnx=>?_)) ?_;simp only[sn];rw[kK,bn hi,ak];simp only[ah,ab,Et,ku];cases l[i].1==d<;>cases l[i].2.1==p<;>cases l[i].2.2.2<;>cases w<;>rfl;simp only[sn];rw[jj];rfl;cases hf:l.findIdx? (Et d p w)with|none=>rfl|some i=>obtain⟨hi,_⟩:=List.findIdx?_eq_some_iff_getElem.1 hf;simp only[bn hi,ab,cI hi]
theorem FI (h:dF l=true)(hi:i<l.length):Es l[i]=true/\∀j (hj:j<i),ku l[i].1 l[i].2.1 (l[j]'(by omega))=false:=by simp only[dF,ae,aE,bW]at h;have:=h.2 i hi;simp only[GU,ae,aE,bW,cI hi,aK]at this;exact⟨this.1,λj hj=>by have:=this.2 j hj;rwa[cI (by omega)]at this⟩
theorem GS {d p:Int}{m:aA}:ku d p m=true↔m.1=d/\m.2.1=p:=by simp[ku]
theorem aci (h:dF l=true){d p:Int}{j:Nat}(hi:i<l.length)(hj:j<l.length)(h1:ku d p l[i]=true)(h2:ku d p l[j]=true):i=j:=by have a:=GS.1 h1;have b:=GS.1 h2;rcases Nat.lt_trichotomy i j with h3|h3|h3;have:=(FI h hj).2 i h3;rw[b.1,b.2,h1]at this;cases this;exact h3;have:=(FI h hi).2 j h3;rw[a.1,a.2,h2]at this;cases this
theorem KX (h:dF l=true)(d p:Int)(w:Bool)(h1:0<=rl l d p w):rl l d p w<=63/\0<=p/\p<=1023:=by unfold rl at h1⊢;cases hf:l.findIdx? (Et d p w)with|none=>rw[hf]at h1;simp at h1|some i=>obtain⟨hi,h2,_⟩:=List.findIdx?_eq_some_iff_getElem.1 hf;have h3:=(FI h hi).1;simp only[Et,ae,GS]at h2;simp only[Es,ae,bh]at h3;simp only[cI hi];omega
theorem YS (l:aw aA)(d:Int)(a:Nat)(w:Bool)(h:l.length<=10^9)(hm:dF l=true)(ha:a<=9223372036854775807): AK l d (a:Int) w=some (if 0<=rl l d ((a/128:Nat):Int) w then rl l d ((a/128:Nat):Int) w*128+((a%128:Nat):Int) else-1):=by
 have e1:Int.tdiv (a:Int) 128=((a/128:Nat):Int):=TM a 128;have e2:tmod (a:Int) 128=((a%128:Nat):Int):=NV a 128;unfold AK;rw[jj,af,lR,e1,e2,ak,Ky l _ _ h,ab];generalize ((a/128:Nat):Int)=p;have sv:=KX hm d p w;unfold NA;cases hf:l.findIdx? (ku d p)with
 |none=>
  have hn:rl l d p w= -1:=by unfold rl;rw[List.findIdx?_eq_none_iff]at hf;rw[List.findIdx?_eq_none_iff.2 (λx hx=>by rw[Et,hf x hx];rfl)]
  rw[hn];rfl
 |some i=>
  obtain⟨hi,h2,h3⟩:=List.findIdx?_eq_some_iff_getElem.1 hf;simp only;rw[jj,bn hi];simp only[af,ab];cases hq:l[i].2.2.2|| !w with
  |true=>
   have hF:rl l d p w=l[i].2.2.1:=by unfold rl;rw[List.findIdx?_eq_some_iff_getElem.2 ⟨hi,by rw[Et,h2,hq];rfl,λj hj=>by have:=h3 j hj;rw[Et,Bool.eq_false_iff.2 this];simp⟩];exact congrArg (λx:aA=>x.2.2.1) (cI hi GV)
   have h4:=(FI hm hi).1;simp only[Es,ae,bh]at h4
   rw[hF,aF (show 0<=l[i].2.2.1 by omega),show(aa (cond w (some (!l[i].2.2.2)) (some false)) λq3=>cond q3 (some (-1:Int)) _)=_ from by
    have:(cond w (some (!l[i].2.2.2)) (some false))=some false:=by cases w<;>cases hz:l[i].2.2.2<;>rw[hz]at hq<;>first|rfl|cases hq
    rw[this,ab,af]]
   rw[aH (show¬(128:Nat)=0 by omega),ak (n:=l[i].2.2.1*128),ak]
  |false=>
   have hF:rl l d p w= -1:=by unfold rl;rw[List.findIdx?_eq_none_iff.2 (λx hx=>by obtain⟨j,hj,rfl⟩:=eX hx;cases Xc:ku d p l[j]with|false=>rw[Et,Xc];rfl|true=>have:=aci hm hi hj h2 Xc;subst this;rw[Et,hq];simp)]
   rw[hF,aH (show¬(0:Int)<= -1 by omega)];cases w with|false=>simp at hq|true=>simp only[aj,Bool.or_false]at hq;simp only[ah,hq,ab,bU]
def kN (l:aw aA)(m:ca)(d:Int)(w:Bool):Nat->Nat->Nat->ax (aw (Int×Int))
 |0,_,_=>some []
 |n+1,a,r=>if r=0 then some [] else
  if 0<=rl l d ((a/128:Nat):Int) w/\rl l d ((a/128:Nat):Int) w<(m.length:Int) then
   (kN l m d w n (a+min (128-a%128) r) (r-min (128-a%128) r)).map (λq=>(rl l d ((a/128:Nat):Int) w*128+((a%128:Nat):Int),((min (128-a%128) r:Nat):Int))::q)
  else none
theorem QA (hm:cD m=true){f:Int}(h0:0<=f){o c:Nat}(hc:0<c)(ho:o+c<=128):gu m (f*128+(o:Int)) (c:Int)=decide (f<(m.length:Int)):=by rw[gu,hm,bC];exact decide_eq_decide.2 (by omega)
theorem TW (hm:cD m=true){f:Int}(h0:0<=f):gu m (f*128) 128=decide (f<(m.length:Int)):=by rw[gu,hm,bC];exact decide_eq_decide.2 (by omega)
theorem Fv (hl:dF l=true)(hL:l.length<=10^9)(hm:cD m=true)(d:Int)(w:Bool):∀(n a r f:Nat)(acc:aw (Int×Int)),r<=n->n<f->acc.length+n<=1000000->a<=9223372036854775807->
 bc (pC (λ(y9:Int) (Dt:Int) (Du:aw (Int×Int))=>some (Du,true)) (λ(Gn:Int) (ES:Int) (Dv:aw (Int×Int)) (Gp:Bool) (Io:aw (Int×Int))=>some (Dv,Gp)) l d w ([]:aw (Int×Int)) false m) f ((a:Int),(r:Int),acc)
  =match kN l m d w n a r with|some q=>some (acc++q,true)|none=>some ([],false)
 |n,a,r,0,acc,_,hf,_,_=>by omega
 |0,a,r,f+1,acc,hr,hf,hA,ha=>by rw[bc];simp only[pC];rw[jj];simp[kN]
 |n+1,a,r,f+1,acc,hr,hf,hA,ha=>by
  have h64:=(mem_iff.1 hm).2;rw[bc];simp only[pC,kN];by_cases h0:r=0;rw[jj,aF h0];simp;have e2:tmod (a:Int) 128=((a%128:Nat):Int):=NV a 128;have sv:=KX hl d ((a/128:Nat):Int) w;rw[kK,aH h0,YS l d a w hL hl ha,ab,lR,e2,ak (n:=128-((a%128:Nat):Int))];obtain⟨c,hc⟩:∃c,min (128-a%128) r=c:=⟨_,rfl⟩
  rw[hc,show(if 128-((a%128:Nat):Int)<(r:Int) then 128-((a%128:Nat):Int) else(r:Int))=(c:Int) by split<;>omega];generalize hP:rl l d ((a/128:Nat):Int) w=P at sv⊢;by_cases hP0:0<=P;have sv:=sv hP0;simp only[aF hP0,ah];rw[ar (show¬P*128+((a%128:Nat):Int)<0 by omega),Co m _ _ (by omega),QA hm hP0 (by omega) (by omega)];simp only[af,ab];by_cases hP1:P<(m.length:Int);rw[au hP1,aF ⟨hP0,hP1⟩];simp only[aj,af];rw[aS (by simp;omega),ak (n:=(a:Int)+(c:Int)),ak (n:=(r:Int)-(c:Int)),ar (show¬(a:Int)+(c:Int)<0 by omega)];simp only[af,ab];have key:=Fv hl hL hm d w n (a+c) (r-c) f (acc++[(P*128+((a%128:Nat):Int),(c:Int))]) (by omega) (by omega) (by simp;omega) (by omega);rw[show((a+c:Nat):Int)=(a:Int)+(c:Int) by omega,show((r-c:Nat):Int)=(r:Int)-(c:Int) by omega]at key;rw[key];cases kN l m d w n (a+c) (r-c)with|none=>rfl|some q=>simp
  rw[ar hP1,lR];rfl;simp only[aH hP0,ah];rw[lR,kK];rfl
theorem F6 (hl:dF l=true)(hL:l.length<=10^9)(hm:cD m=true)(d:Int)(w:Bool):∀(n a r f:Nat)(acc:aw (Int×Int)),r<=n->n<f->acc.length+n<=1000000->a<=9223372036854775807->
 bc (kc (λ(Dt:Int) (Du:Int) (Gn:cL) (ES:cL)=>some (Gn,ES,true)) (λ(Dv:Int) (Gp:Int) (Io:cL) (TY:cL) (N0:Bool) (Wv:cL) (y20:cL)=>some (Io,TY,N0)) l d w ([]:cL) ([]:cL) false m) f ((a:Int),(r:Int),acc.map (·.1),acc.map (·.2))
  =match kN l m d w n a r with|some q=>some ((acc++q).map (·.1),(acc++q).map (·.2),true)|none=>some ([],[],false)
 |n,a,r,0,acc,_,hf,_,_=>by omega
 |0,a,r,f+1,acc,hr,hf,hA,ha=>by rw[bc];simp only[kc];rw[jj];simp[kN]
 |n+1,a,r,f+1,acc,hr,hf,hA,ha=>by
  have h64:=(mem_iff.1 hm).2;rw[bc];simp only[kc,kN];by_cases h0:r=0;rw[jj,aF h0];simp;have e1:Int.tdiv (a:Int) 128=((a/128:Nat):Int):=TM a 128;have e2:tmod (a:Int) 128=((a%128:Nat):Int):=NV a 128;have sv:=KX hl d ((a/128:Nat):Int) w;rw[au (show(r:Int)>0 by omega),au (show(a:Int)>=0 by omega),aH h0];simp only[ah];rw[lR,e1,e2,ak (n:=((a/128:Nat):Int)),ac2 l _ _ w hL,ab,lR,ak (n:=128-((a%128:Nat):Int))];obtain⟨c,hc⟩:∃c,min (128-a%128) r=c:=⟨_,rfl⟩
  rw[hc,show(if 128-((a%128:Nat):Int)<(r:Int) then 128-((a%128:Nat):Int) else(r:Int))=(c:Int) by split<;>omega];generalize hP:rl l d ((a/128:Nat):Int) w=P at sv⊢;by_cases hP0:0<=P;have sv:=sv hP0;rw[ar (show¬P<0 by omega),ak (n:=P*128),H4 m _ _ (by omega),TW hm hP0];simp only[af,ab];by_cases hP1:P<(m.length:Int);rw[au hP1,aF ⟨hP0,hP1⟩];simp only[aj,af];rw[aS (by simp;omega),aS (by simp;omega),ak (n:=P*128+((a%128:Nat):Int)),ak (n:=(a:Int)+(c:Int)),ak (n:=(r:Int)-(c:Int))];have key:=F6 hl hL hm d w n (a+c) (r-c) f (acc++[(P*128+((a%128:Nat):Int),(c:Int))]) (by omega) (by omega) (by simp;omega) (by omega);rw[show((a+c:Nat):Int)=(a:Int)+(c:Int) by omega,show((r-c:Nat):Int)=(r:Int)-(c:Int) by omega,List.map_append,List.map_append]at key;refine Eq.trans key ?_;cases kN l m d w n (a+c) (r-c)with|none=>rfl|some q=>simp
  rw[ar hP1,lR];rfl;rw[lR,kK];rfl
def kx (l:aw aA)(m:ca)(d a n:Int)(w:Bool):aw (Int×Int)×Bool:=
 bif dF l&&(cD m&&dm n 0 4096) then
  (bif n==0 then([],true) else bif decide (a<0) then([],false) else match kN l m d w n.toNat a.toNat n.toNat with|some q=>(q,true)|none=>([],false))
 else([],false)
theorem Sl (l:aw aA)(m:ca)(d a n:Int)(w:Bool)(hl:l.length<=10^9)(hm:m.length<=10^9)(ha:a<=9223372036854775807):wa l m d a n w=some (kx l m d a n w):=by
 have Bx:=ee;unfold wa kx;simp only[Fq l hl,Eo m hm,de,ab];cases hB:dF l with|false=>rfl|true=>?_
 cases hM:cD m with|false=>rfl|true=>?_
 cases hN:dm n 0 4096 with|false=>rfl|true=>?_
 have hn:=bh.1 hN;simp only[aj,af,ab,eU,ah];cases h0:n==0 with|true=>rfl|false=>?_
 by_cases hA:a<0;rw[au hA];rfl;rw[ar hA];simp only[af];obtain⟨a,rfl⟩:=aX (show 0<=a by omega);obtain⟨n,rfl⟩:=aX hn.1;rw[Fv hB hl hM d w n a n fuel [] (by omega) (by omega) (by simp;omega) (by omega)];simp only[az];cases kN l m d w n a n<;>rfl
theorem aat (l:aw aA)(m:ca)(d a n:Int)(w:Bool)(hl:l.length<=10^9)(hm:m.length<=10^9)(ha:a<=9223372036854775807):vO l m d a n w=some ((kx l m d a n w).1.map (·.1),(kx l m d a n w).1.map (·.2),(kx l m d a n w).2):=by
 have Bx:=ee;unfold vO kx;simp only[Qf l hl,EA m hm,ei,ab];cases hB:dF l with|false=>rfl|true=>?_
 cases hM:cD m with|false=>rfl|true=>?_
 cases hN:dm n 0 4096 with|false=>rfl|true=>?_
 have hn:=bh.1 hN;simp only[aj,af,ab,eU,ah];obtain⟨n,rfl⟩:=aX hn.1;cases h0:((n:Int)==0)with
 |true=>
  have:n=0:=by simpa using h0
  subst this;obtain⟨f,hf⟩:∃f,fuel=f+1:=⟨fuel-1,by omega⟩
  rw[hf,bc];rfl
 |false=>
  have hn0:n≠0:=by simpa using h0
  by_cases hA:a<0;obtain⟨f,hf⟩:∃f,fuel=f+1:=⟨fuel-1,by omega⟩
  rw[au hA,hf,bc];simp only[kc];rw[kK,jj];rfl;rw[ar hA];simp only[af];obtain⟨a,rfl⟩:=aX (show 0<=a by omega);refine Eq.trans (F6 hB hl hM d w n a n fuel [] (by omega) (by omega) (by simp;omega) (by omega)) ?_;simp only[az];cases kN l m d w n a n<;>rfl
end
end Go.Pu
