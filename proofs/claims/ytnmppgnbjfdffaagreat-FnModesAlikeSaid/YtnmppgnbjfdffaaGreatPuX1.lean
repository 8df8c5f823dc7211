import Derived.Test.YtnmppgnbjfdffaaGreatDnData
import Derived.Test.YtnmppgnbjfdffaaGreatPure
namespace Go.Pu
open Go.Dn
open List (range)
open BitVec (toNat)
open Int (fdiv tmod)
set_option linter.unusedSimpArgs false
set_option linter.unusedVariables false
noncomputable section
variable {s t x:Bytes} {a d:Int} {f:Int->aC Int} {c i n o:Nat} {p:aQ} {R X α σ:Type} {l:ay aG} {m:cg}
/- Plain laws of the partial operations and of loops. -/
theorem al {n:Int}(h1: -9223372036854775808<=n:=by omega)(h2:n<=9223372036854775807:=by omega):au n=n:=by simp only[au,gF,IntKind.wrap,IntKind.bits,IntKind.signed];simp;omega
@[simp] theorem ae (a:α)(k:α->aC R):aa (some a) k=k a:=rfl
@[simp] theorem ai1 (k:α->aC R):aa none k=none:=rfl
@[simp] theorem Ds (c:Bool)(x y:α)(k:α->aC R):aa (cond c (some x) (some y)) k=k (cond c x y):=by cases c<;>rfl
theorem cA (c:Bool)(x y:α):cond c (some x) (some y)=some (cond c x y):=by cases c<;>rfl
theorem bg {k:aC R}(h:n<=1073741824:=by omega):room n k=k:=by simp[room,h]
theorem Lj (xs:ay α)(i:Nat):idx xs (i:Int)=xs[i]?:=rfl
theorem bS {xs:ay α}(h:i<xs.length):idx xs (i:Int)=some xs[i]:=by rw[Lj];exact aw h
def upK (step:Nat->σ->(σ->aC R)->aC R)(fin:σ->aC R)(N:Nat):Nat->Nat->σ->aC R
 |0,_,s=>fin s
 |n+1,i,s=>step i s (λs'=>upK step fin N n (i+1) s')
theorem HM {T:(X->aC R)->X->aC R}(N:Nat)(e:σ->Nat->X)(step:Nat->σ->(σ->aC R)->aC R)(fin:σ->aC R)(hs:∀i s nx,i<N->T nx (e s i)=step i s (λs'=>nx (e s' (i+1))))(hf:∀s nx,T nx (e s N)=fin s): ∀n i s,i<=N->N-i<n->bt T n (e s i)=upK step fin N (N-i) i s:=by
 intro n;induction n with
 |zero=>intro i s _ h;omega
 |succ n ih=>
  intro i s hi hn;rw[bt];rcases bW i N with ir|zH;rw[hs i s _ ir,show N-i=(N-(i+1))+1 by omega,upK];congr 1;funext s';exact ih (i+1) s' (by omega) (by omega);have:i=N:=by omega
  subst this;rw[hf,mi,upK]
def BX (step:α->σ->(σ->aC R)->aC R)(fin:σ->aC R):ay α->σ->aC R
 |[],s=>fin s
 |x::xs,s=>step x s (BX step fin xs)
theorem Cg {T:(X->aC R)->X->aC R}(xs:ay α)(e:σ->Nat->X)(step:α->σ->(σ->aC R)->aC R)(fin:σ->aC R)(hs:∀i (h:i<xs.length) s nx,T nx (e s i)=step xs[i] s (λs'=>nx (e s' (i+1))))(hf:∀s nx,T nx (e s xs.length)=fin s): ∀n i s,i<=xs.length->xs.length-i<n->bt T n (e s i)=BX step fin (xs.drop i) s:=by
 intro n;induction n with
 |zero=>intro i s _ h;omega
 |succ n ih=>
  intro i s hi hn;rw[bt];rcases bW i xs.length with ir|zH;rw[hs i ir s _,ca ir,BX];congr 1;funext s';exact ih (i+1) s' (by omega) (by omega);have:i=xs.length:=by omega
  subst this;rw[hf,gx,BX]
def V3:(t:CT)->t.D->Nat
 | .int _,_=>0
 | .bool,_=>0
 | .str,s=>s.length
 | .sl e,xs=>xs.length+(xs.map (V3 e)).sum
 | .pair a b,x=>V3 a x.1+V3 b x.2
def eI (n:Nat):(t:CT)->t.D->Prop
 | .int _,_=>True
 | .bool,_=>True
 | .str,s=>s.length<=n
 | .sl e,xs=>xs.length<=n/\∀x∈xs,eI n e x
 | .pair a b,x=>eI n a x.1/\eI n b x.2
theorem M3 (f:α->Nat):∀(xs:ay α)(x:α),x∈xs->f x<=(xs.map f).sum
 |y::ys,x,h=>by rcases cw.1 h with rfl|h;simp;have:=M3 f ys x h;simp;omega
theorem Lr:∀{t:CT}{x:t.D},V3 t x<=n->eI n t x
 | .int _,_,_=>trivial
 | .bool,_,_=>trivial
 | .str,_,h=>h
 | .sl e,xs,h=>by simp only[V3]at h;exact⟨by omega,λx hx=>Lr (by have:=M3 (V3 e) xs x hx;omega)⟩
 | .pair a b,x,h=>by simp only[V3]at h;exact⟨Lr (by omega),Lr (by omega)⟩
theorem eI.mono {m:Nat}(h:n<=m:=by omega):∀{t:CT}{x:t.D},eI n t x->eI m t x
 | .int _,_,_=>trivial
 | .bool,_,_=>trivial
 | .str,_,k=>bT k h
 | .sl _,_,k=>⟨bT k.1 h,λx hx=>eI.mono h (k.2 x hx)⟩
 | .pair _ _,_,k=>⟨eI.mono h k.1,eI.mono h k.2⟩
def aah:(t:CT)->t.D->Prop
 | .int k,n=>k.min<=n/\n<=k.max
 | .bool,_=>True
 | .str,s=>s.length<=9223372036854775807
 | .sl e,xs=>xs.length<=9223372036854775807/\∀x∈xs,aah e x
 | .pair a b,x=>aah a x.1/\aah b x.2
def lP (l n:Int):Int:=if n<=l then l-n else-1
def Ls (f:α->Int->aC Int)(k0:Int->Int->aC R)(k1:Int->Int->Int->aC R)(v0:ay α)(nx:Int×Int->aC R)(x:Int×Int):aC R:=
 cond (decide (x.2<((List.length v0:Int)))) (
  aa (idx v0 x.2) λx1=>
  aa (f x1 x.1) λr2=>
  cond (decide (r2<0)) (
   k1 r2 (-1) x.2) (
   nx (r2,au (x.2+1)))) (
  k0 x.1 x.2)
noncomputable def SC (f:α->Int->aC Int)(a0:ay α)(a1:Int):aC Int:=
 cond (decide ((au (a1-((List.length a0:Int))))<0)) (
  some (-1)) (
  bt (Ls f (λy3 _=>some y3) (λ_ y6 _=>some y6) a0) fuel (au (a1-((List.length a0:Int))),0))
theorem YG {f:α->Int->aC Int}{s:α->Nat}{a:ay α}{l:Int}(h0:0<=l)(h1:l<=1048576)(hm:a.length<=9223372036854775807)(hf:∀x∈a,∀l:Int,0<=l->l<=1048576->∃r,f x l=some r/\((s x:Int)<=l->r=l-s x)/\(¬(s x:Int)<=l->r<0)):SC f a l=some (lP l ((a.length+(a.map s).sum:Nat):Int)):=by
 unfold SC;have B9:=eS;rw[al];rcases Int.lt_or_le (l-a.length) 0 with apE|aaU;rw[aq apE];simp only[ah,lP];rw[kl];rw[du];simp only[af];have key:=Cg (T:=Ls f (λy3 _=>some y3) (λ_ y6 _=>some y6) a) a (λ(q:Int) i=>(q,(i:Int))) (λx q k=>aa (f x q) λr=>cond (decide (r<0)) (some (-1)) (k r)) (λq=>some q) (λi hi q nx=>by simp only[Ls];rw[mh];simp only[ah,bS hi,ae];rw[al];rfl) (λq nx=>by simp only[Ls];rw[du];rfl) fuel 0 (l-a.length) (by omega) (by omega);have e:((0:Nat):Int)=0:=rfl;rw[e,eP]at key;rw[key];have main:∀(b:ay α)(q:Int),0<=q->q<=1048576->(∀x∈b,x∈a)->BX (λx q k=>aa (f x q) λr=>cond (decide (r<0)) (some (-1)) (k r)) (λq=>some q) b q=some (lP q ((b.map s).sum:Nat)):=by intro b;induction b with|nil=>intro q hq _ _;simp[BX,lP,hq]|cons x b ih=>intro q hq hq2 hb;obtain⟨r,hr,hr1,Ow⟩:=hf x (hb x (by simp)) q hq hq2;rw[BX,hr,ae];by_cases hle:(s x:Int)<=q;have:=hr1 hle;subst this;rw[du];simp only[af];rw[ih _ (by omega) (by omega) (λy hy=>hb y (by simp[hy]))];simp only[lP,cZ,List.sum_cons];congr 1;split<;>split<;>omega;rw[aq (Ow hle)];simp only[ah,lP,cZ,List.sum_cons];rw[kl]
 rw[main a _ (by omega) (by omega) (λx h=>h)];simp only[lP];congr 1;split<;>split<;>omega
def Bv (f:Int->aC Int)(n:Nat):Prop:=∀l:Int,0<=l->l<=1048576->f l=some (lP l n)
theorem Bv.nil:Bv (λl=>some l) 0:=λl h0 _=>by simp[lP,h0]
theorem Bv.len {m:Nat}(hn:n<=9223372036854775807){k:Int->aC Int}(h:Bv k m): Bv (λl=>cond (decide (au (l-(n:Int))<0)) (some (-1)) (k (au (l-(n:Int))))) (n+m):=by intro l h0 h1;simp only;rw[al];by_cases hl:l-(n:Int)<0;rw[aq hl];simp only[ah,lP];rw[kl];rw[ar hl];simp only[af];rw[h _ (by omega) (by omega)];simp only[lP];congr 1;split<;>split<;>omega
theorem Bv.sub {k:Int->aC Int}{m:Nat}(hf:Bv f n)(h:Bv k m):Bv (λl=>aa (f l) λr=>cond (decide (r<0)) (some (-1)) (k r)) (n+m):=by
 intro l h0 h1;simp only;rw[hf l h0 h1,ae];by_cases hl:(n:Int)<=l;have e:lP l n=l-n:=by simp[lP,hl]
 rw[e,du];simp only[af];rw[h _ (by omega) (by omega)];simp only[lP];congr 1;split<;>split<;>omega;have e:lP l n= -1:=by simp[lP,hl]
 rw[e];simp only[lP];rw[kl];rfl
theorem Bv.cast {m:Nat}(h:Bv f n)(e:n=m):Bv f m:=e▸h
theorem Bv.list {f:α->Int->aC Int}{s:α->Nat}{a:ay α}(hm:a.length<=9223372036854775807)(hf:∀x∈a,Bv (f x) (s x)):Bv (SC f a) (a.length+(a.map s).sum):=λ_ h0 h1=>YG h0 h1 hm (λx hx l h0 h1=>⟨_,hf x hx l h0 h1,λh=>by simp[lP,h],λh=>by simp[lP,h]⟩)
theorem Bv.flat (hn:n<=9223372036854775807):Bv (λl=>cond (decide (au (l-(n:Int))<0)) (some (-1)) (some (au (l-(n:Int))))) n:=(Bv.len (n:=n) hn Bv.nil).cast (by omega)
theorem Bv.use (hf:Bv f n){l:Int}(h0:0<=l)(h1:l<=1048576){k:Int->aC Bool}(hk:(n:Int)<=l->k (l-n)=some true): (aa (f l) λr=>cond (decide (r<0)) (some true) (k r))=some true:=by
 rw[hf l h0 h1,ae];by_cases hl:(n:Int)<=l;have e:lP l n=l-n:=by simp[lP,hl]
 rw[e,du];exact hk hl;have e:lP l n= -1:=by simp[lP,hl]
 rw[e];rfl
theorem Lz {T:(Int->aC R)->Int->aC R}{fin hit:aC R}(p:α->Bool)(a:ay α)(h:a.length<=1000000000000)(hs:∀i (hi:i<a.length) nx,T nx (i:Int)=cond (p a[i]) hit (nx ((i+1:Nat):Int)))(hf:∀nx,T nx (a.length:Int)=fin): bt T fuel 0=cond (a.any p) hit fin:=by
 have B9:=eS;have key:∀n i,i<=a.length->a.length-i<n->bt T n (i:Int)=cond ((a.drop i).any p) hit fin:=by
  intro n;induction n with
  |zero=>intro i _ h;omega
  |succ n ih=>
   intro i hi hn;rw[bt];rcases bW i a.length with ir|zH;rw[hs i ir,ca ir,List.any_cons];cases hq:p a[i]with|true=>rfl|false=>exact ih (i+1) (by omega) (by omega)
   have:i=a.length:=by omega
   subst this;rw[hf,gx];rfl
 exact key fuel 0 (by omega) (by omega)
theorem rr {T:(Int->aC R)->Int->aC R}{fin hit:aC R}(p:Nat->Bool)(N:Nat)(h:N<=1000000000000)(hs:∀i nx,i<N->T nx (i:Int)=cond (!(p i)) hit (nx ((i+1:Nat):Int)))(hf:∀nx,T nx (N:Int)=fin): bt T fuel 0=cond ((range N).all p) fin hit:=by
 have B9:=eS;have key:∀n i,i<=N->N-i<n->bt T n (i:Int)=cond ((List.range' i (N-i)).all p) fin hit:=by
  intro n;induction n with
  |zero=>intro i _ h;omega
  |succ n ih=>
   intro i hi hn;rw[bt];rcases bW i N with ir|zH;rw[hs i _ ir,show N-i=(N-(i+1))+1 by omega,List.range'_succ,cv];cases hq:p i with|false=>rfl|true=>exact ih (i+1) (by omega) (by omega)
   have:i=N:=by omega
   subst this;rw[hf,mi];rfl
 have:=key fuel 0 (by omega) (by omega);rw[Nat.sub_zero,<-List.range_eq_range']at this;exact this
theorem pP {T:(Int->aC R)->Int->aC R}{fin hit:aC R}(p:α->Bool)(a:ay α)(h:a.length<=1000000000000)(hs:∀i (hi:i<a.length) nx,T nx (i:Int)=cond (!(p a[i])) hit (nx ((i+1:Nat):Int)))(hf:∀nx,T nx (a.length:Int)=fin): bt T fuel 0=cond (a.all p) fin hit:=by
 have:=Lz (T:=T) (fin:=fin) (hit:=hit) (λx=> !(p x)) a h hs hf;rw[this];have e:a.any (λx=> !(p x))= !(a.all p):=by rw[dN];simp
 rw[e];cases a.all p<;>rfl
theorem fold_iter {T:(X->aC R)->X->aC R}(xs:ay α)(e:σ->Nat->X)(g:σ->α->σ)(fin:σ->aC R)(h:xs.length<=1000000000000)(hs:∀i (hi:i<xs.length) s nx,T nx (e s i)=nx (e (g s xs[i]) (i+1)))(hf:∀s nx,T nx (e s xs.length)=fin s)(s:σ): bt T fuel (e s 0)=fin (xs.foldl g s):=by have B9:=eS;have key:=Cg (T:=T) xs e (λx s k=>k (g s x)) fin hs hf fuel 0 s (by omega) (by omega);rw[key,eP];clear key hs hf h;induction xs generalizing s with|nil=>rfl|cons x xs ih=>rw[BX,List.foldl_cons];exact ih _
theorem O5 {T:(X->aC R)->X->aC R}{fin hit:aC R}(e:Nat->X)(p:Nat->Bool)(N:Nat)(h:N<=1000000000000)(hs:∀i nx,i<N->(∀j,j<i->p j=true)->T nx (e i)=cond (!(p i)) hit (nx (e (i+1))))(hf:(∀j,j<N->p j=true)->∀nx,T nx (e N)=fin): bt T fuel (e 0)=cond ((range N).all p) fin hit:=by
 have B9:=eS;have key:∀n i,i<=N->N-i<n->(∀j,j<i->p j=true)->bt T n (e i)=cond ((List.range' i (N-i)).all p) fin hit:=by
  intro n;induction n with
  |zero=>intro i _ h;omega
  |succ n ih=>
   intro i hi hn hp;rw[bt];rcases bW i N with ir|zH;rw[hs i _ ir hp,show N-i=(N-(i+1))+1 by omega,List.range'_succ,cv];cases hq:p i with|false=>rfl|true=>refine ih (i+1) (by omega) (by omega) λj hj=>?_;by_cases hji:j=i;rw[hji];exact hq;exact hp j (by omega)
   have:i=N:=by omega
   subst this;rw[hf hp,mi];rfl
 have:=key fuel 0 (by omega) (by omega) (λj hj=>absurd hj (by omega));rw[Nat.sub_zero,<-List.range_eq_range']at this;exact this
theorem E5 {T:(Int->aC R)->Int->aC R}{fin:aC R}{hit:Int->aC R}(p:α->Bool)(a:ay α)(h:a.length<=1000000000000)(hs:∀i (hi:i<a.length) nx,T nx (i:Int)=cond (p a[i]) (hit (i:Int)) (nx ((i+1:Nat):Int)))(hf:∀nx,T nx (a.length:Int)=fin): bt T fuel 0=(match a.findIdx? p with|some i=>hit (i:Int)|none=>fin):=by
 have B9:=eS;have key:∀n i,i<=a.length->a.length-i<n->bt T n (i:Int)=(match (a.drop i).findIdx? p with|some j=>hit ((i+j:Nat):Int)|none=>fin):=by
  intro n;induction n with
  |zero=>intro i _ h;omega
  |succ n ih=>
   intro i hi hn;rw[bt];rcases bW i a.length with ir|zH;rw[hs i ir,ca ir,List.findIdx?_cons];cases hq:p a[i]with|true=>rfl|false=>have:=ih (i+1) (by omega) (by omega);simp only[af];refine this.trans ?_;cases (a.drop (i+1)).findIdx? p with|none=>rfl|some j=>simp only[dJ,bh,cn];congr 2;omega
   have:i=a.length:=by omega
   subst this;rw[hf,gx];rfl
 have:=key fuel 0 (by omega) (by omega);refine this.trans ?_;rw[eP];cases a.findIdx? p with|none=>rfl|some j=>simp only[cK]
theorem cF (a b:Bool):(bif a then b else false)=(a&&b):=by cases a<;>rfl
theorem cT (a b:Bool):(bif a then true else b)=(a||b):=by cases a<;>rfl
theorem cN (a b:Bool):(bif a then false else b)=(!a&&b):=by cases a<;>rfl
def Sk (g:α->σ->Except (aC R) σ)(fin:σ->aC R):ay α->σ->aC R
 |[],s=>fin s
 |x::xs,s=>match g x s with| .error r=>r| .ok s'=>Sk g fin xs s'
theorem H8 {T:(X->aC R)->X->aC R}(xs:ay α)(e:σ->Nat->X)(Inv:Nat->σ->Prop)(g:α->σ->Except (aC R) σ)(fin:σ->aC R)(h:xs.length<=1000000000000)(hs:∀i (hi:i<xs.length) s nx,Inv i s->T nx (e s i)=match g xs[i] s with| .error r=>r| .ok s'=>nx (e s' (i+1)))(hn:∀i (hi:i<xs.length) s s',Inv i s->g xs[i] s=.ok s'->Inv (i+1) s')(hf:∀s nx,Inv xs.length s->T nx (e s xs.length)=fin s)(s:σ)(h0:Inv 0 s): bt T fuel (e s 0)=Sk g fin xs s:=by
 have key:∀n i s,i<=xs.length->xs.length-i<n->Inv i s->bt T n (e s i)=Sk g fin (xs.drop i) s:=by
  intro n;induction n with
  |zero=>intro i s _ h;omega
  |succ n ih=>
   intro i s hi Cx hI;rw[bt];rcases bW i xs.length with ir|zH;rw[hs i ir s _ hI,ca ir,Sk];cases hg:g xs[i] s with|error r=>rfl|ok s'=>exact ih (i+1) s' (by omega) (by omega) (hn i ir s s' hI hg)
   have:i=xs.length:=by omega
   subst this;rw[hf s _ hI,gx,Sk]
 have B9:=eS;have:=key fuel 0 s (by omega) (by omega) h0;rwa[eP]at this
theorem Lo (f:σ->α->σ)(fin:σ->aC R):∀(xs:ay α)(s:σ),Sk (λx s=> .ok (f s x)) fin xs s=fin (xs.foldl f s)
 |[],_=>rfl
 |x::xs,s=>by rw[Sk];exact Lo f fin xs (f s x)
theorem fW {T:(X->aC R)->X->aC R}{fin:aC R}(e:Nat->X)(N:Nat)(h:N<=1000000000000)(hs:∀i nx,i<N->T nx (e i)=nx (e (i+1)))(hf:∀nx,T nx (e N)=fin):bt T fuel (e 0)=fin:=by rw[O5 (hit:=fin) (fin:=fin) e (λ_=>true) N h (λi nx hi _=>by rw[hs i nx hi];rfl) (λ_ nx=>hf nx)];cases (range N).all (λ_=>true)<;>rfl
theorem og {l:ay α}{k:aC R}(h:l.length<=10^9):room (List.length ([]:ay α)+l.length) k=k:=bg (by simp only[dv];omega)
def dF (a lo hi:Int):Bool:=decide (lo<=a)&&decide (a<=hi)
theorem aX {lo hi:Int}:dF a lo hi=true↔lo<=a/\a<=hi:=by simp[dF]
theorem eU (a b c:Int):br a b c=some (dF a b c):=by simp only[br,cA,ae,dF];cases h:decide (a>=b)<;>rfl
theorem dw (a b c:Int):aI a b c=some (dF a b c):=eU a b c
theorem de {l:ay α}(h:i<l.length)(d:α):l.getD i d=l[i]:=by rw[bc,aw h];rfl
def N5 (l:dB)(i:Nat):Bool:=dF (l.getD i 0) 0 4095&& !(decide (0<i)&&decide (l.getD i 0<=l.getD (i-1) 0))
def rz (f:Filter):Bool:=(range f.2.2.length).all (N5 f.2.2)&&(dF f.1 0 281474976710654&&decide ((f.2.2.length:Int)<=8))
theorem Ys (f:Filter)(h:f.2.2.length<=10^9):xy f=some (rz f):=by
 unfold xy;rw[rr (hit:=some false) (fin:=some (dF f.1 0 281474976710654&&decide ((f.2.2.length:Int)<=8))) (N5 f.2.2) f.2.2.length (by omega) (λi nx hi=>?hs) (λnx=>?hf)]
 case hs=>
  simp only[rY]
  rw[mh,bS hi,al (n:=(i:Int)+1)]
  simp only[ah,ae,eU,N5,de hi]
  by_cases h0:0<i
  ·have e:au ((i:Int)-1)=((i-1:Nat):Int):=by rw[al];omega
   have hp:i-1<f.2.2.length:=by omega
   rw[e,bS hp,aq (show(i:Int)>0 by omega),aq h0,de hp]
   simp only[ah,ae,bF]
   cases dF f.2.2[i] 0 4095<;>cases decide (f.2.2[i]<=f.2.2[i-1])<;>rfl
  ·rw[ar (show¬(i:Int)>0 by omega),ar h0]
   simp only[af,eZ]
   cases dF f.2.2[i] 0 4095<;>rfl
 case hf=>
  simp only[rY]
  rw[du]
  simp only[af,eU,ae,Ds,cA]
  cases dF f.1 0 281474976710654<;>rfl
 unfold rz;cases (range f.2.2.length).all (N5 f.2.2)<;>rfl
theorem MG (f:Filter)(h:f.2.2.length<=10^9):sQ f=some (rz f):=by
 unfold sQ;rw[rr (hit:=some false) (fin:=some (dF f.1 0 281474976710654&&decide ((f.2.2.length:Int)<=8))) (N5 f.2.2) f.2.2.length (by omega) (λi nx hi=>?hs) (λnx=>?hf)]
 case hs=>
  simp only[rC]
  rw[mh,bS hi,al (n:=(i:Int)+1)]
  simp only[ah,ae,dw,N5,de hi]
  by_cases h0:0<i
  ·have e:au ((i:Int)-1)=((i-1:Nat):Int):=by rw[al];omega
   have hp:i-1<f.2.2.length:=by omega
   rw[e,bS hp,aq (show(i:Int)>0 by omega),aq h0,de hp]
   simp only[ah,ae,bF,ge_iff_le]
   cases dF f.2.2[i] 0 4095<;>cases decide (f.2.2[i]<=f.2.2[i-1])<;>rfl
  ·rw[ar (show¬(i:Int)>0 by omega),ar h0]
   simp only[af,eZ]
   cases dF f.2.2[i] 0 4095<;>rfl
 case hf=>
  simp only[rC]
  rw[du]
  simp only[af,dw,ae,Ds,cA]
  cases dF f.1 0 281474976710654<;>rfl
 unfold rz;cases (range f.2.2.length).all (N5 f.2.2)<;>rfl
def Bm (r:km):Bool:=(mN r).getD false
theorem Vy (r:km):mN r=some (Bm r):=by
 have:∃b,mN r=some b:=by simp only[mN,eU,ae,cA];exact⟨_,rfl⟩
 obtain⟨b,hb⟩:=this;simp[Bm,hb]
theorem aeG (r:km):Bd r=some (Bm r):=Vy r
theorem Vf {r:km}(h:Bm r=true):r.2.2.2.2.2.2.2.1=0\/r.2.2.2.2.2.2.2.2=0:=by
 by_cases h0:r.2.2.2.2.2.2.2.1=0;exact .inl h0;by_cases h1:r.2.2.2.2.2.2.2.2=0;exact .inr h1;exfalso;have e0:(r.2.2.2.2.2.2.2.1==0)=false:=by simp[h0]
 have e1:(r.2.2.2.2.2.2.2.2==0)=false:=by simp[h1]
 revert h;unfold Bm;simp only[mN,eU,ae,cA,e0,e1,af,gy];have z:∀c:Bool,(bif c then false else false)=false:=by intro c;cases c<;>rfl
 simp only[z];intro h;cases h
def yn (l:ay km):Bool:=l.all Bm&&decide ((l.length:Int)<=12)
theorem Qw (l:ay km)(h:l.length<=10^9):za l=some (yn l):=by
 unfold za;rw[pP (hit:=some false) (fin:=some (decide ((l.length:Int)<=12))) Bm l (by omega) (λi hi nx=>?hs) (λnx=>?hf)]
 case hs=>
  simp only[tS]
  rw[mh,bS hi,al]
  simp only[ah,ae,Vy];rfl
 case hf=>
  simp only[tS]
  rw[du];rfl
 unfold yn;cases l.all Bm<;>rfl
theorem PL (l:ay km)(h:l.length<=10^9):yS l=some (yn l):=by rw[<-Qw l h];rfl
theorem aoW (x:Int):((BitVec.ofInt 64 x&&&BitVec.ofInt 64 7).toNat:Int)=x%8:=by
 have h7:(BitVec.ofInt 64 7).toNat=2^3-1:=by decide
 rw[BitVec.toNat_and,h7,Nat.and_two_pow_sub_one_eq_mod];simp only[BitVec.toNat_ofInt];omega
theorem akV (x:Int):((ia x&&&ia 7).toNat:Int)=x%8:=aoW x
theorem ahj (x:Int):jD x 8=some (x%8):=by unfold jD;rw[kl,Int.tmod_eq_emod];split;rw[du];simp;rw[aq (by simp;omega),al (by simp;omega) (by simp;omega)];simp
def Cc (f:iV):Int:=(f.1%8+f.2.1%8+f.2.2.1%8+f.2.2.2.1%8+f.2.2.2.2%8)%8
theorem Mw (f:iV):0<=Cc f/\Cc f<8:=by unfold Cc;omega
theorem af7 {n:Int}(h:0<=n:=by omega):tmod n 8=n%8:=dr h
theorem Vu (f:iV):tp f=some (Cc f):=by
 unfold tp;generalize hL:[f.1,f.2.1,f.2.2.1,f.2.2.2.1,f.2.2.2.2]=L;have hlen:L.length=5:=by rw[<-hL];rfl
 have B9:=eS;have key:=Cg (R:=Int) (T:=ot (λ(y2:Int) (y3:Int)=>if 8=0 then none else(some (tmod y2 8))) L) L (λ(s:Int) i=>(s,(i:Int))) (λx s k=>k (au (s+au (x%8)))) (λs=>some (tmod s 8)) (λi hi s nx=>by simp only[ot];rw[mh,bS hi,al (n:=(i:Int)+1)];simp only[ah,ae];rw[akV L[i]];rfl) (λs nx=>by simp only[ot];rw[du];rfl) fuel 0 0 (by omega) (by omega);refine key.trans ?_;rw[<-hL];simp only[eP,BX];rw[al (n:=f.1%8),al (n:=f.2.1%8),al (n:=f.2.2.1%8),al (n:=f.2.2.2.1%8),al (n:=f.2.2.2.2%8)];rw[al (n:=0+f.1%8),al (n:=0+f.1%8+_),al (n:=0+f.1%8+_+_),al (n:=0+f.1%8+_+_+_),al (n:=0+f.1%8+_+_+_+_)];rw[af7,Cc,Int.zero_add]
theorem aey (f:iV):xi f=some (Cc f):=by
 unfold xi;generalize hL:[f.1,f.2.1,f.2.2.1,f.2.2.2.1,f.2.2.2.2]=L;have hlen:L.length=5:=by rw[<-hL];rfl
 have B9:=eS;have key:=Cg (R:=Int) (T:=nS (λ(y2:Int) (y3:Int)=>if 8=0 then none else(some (tmod y2 8))) L (L.length:Int)) L (λ(s:Int) i=>(s,(i:Int))) (λx s k=>k (au (s+(x%8)))) (λs=>some (tmod s 8)) (λi hi s nx=>by simp only[nS];rw[mh,bS hi,al (n:=(i:Int)+1)];simp only[ah,ae,ahj];rfl) (λs nx=>by simp only[nS];rw[du];rfl) fuel 0 0 (by omega) (by omega);refine key.trans ?_;rw[<-hL];simp only[eP,BX];rw[al (n:=0+f.1%8),al (n:=0+f.1%8+_),al (n:=0+f.1%8+_+_),al (n:=0+f.1%8+_+_+_),al (n:=0+f.1%8+_+_+_+_)];rw[af7,Cc,Int.zero_add]
def gU (t:ay Slot)(i:Nat):Slot:=t.getD i (0,(0,0,0,0,0),0)
theorem wN {t:ay Slot}(h:i<t.length):gU t i=t[i]:=de h _
def mc (f:iV)(k:Nat):Nat:=((Cc f).toNat+k)%8
theorem Fw (f:iV)(k:Nat):mc f k<8:=Nat.mod_lt _ (by omega)
theorem VP (f:iV)(k:Nat)(h:k<8):tmod (au (Cc f+(k:Int))) 8=(mc f k:Int):=by have:=Mw f;rw[al,af7,mc];omega
def pN (s:Slot)(f:iV):Bool:=(s.1==1)&&decide (s.2.1=f)
theorem E8 (p q:iV):((p.1==q.1)&&((p.2.1==q.2.1)&&((p.2.2.1==q.2.2.1)&&((p.2.2.2.1==q.2.2.2.1)&&((p.2.2.2.2==q.2.2.2.2)&&true)))))=decide (p=q):=by obtain⟨a,b,c,d,e⟩:=p;obtain⟨a',b',c',d',e'⟩:=q;rw[dN];simp
def walk (t:ay Slot)(f:iV):Nat->Nat->Int
 |0,_=> -1
 |n+1,k=>if(gU t (mc f k)).1=0 then-1 else if pN (gU t (mc f k)) f then(mc f k:Int) else walk t f n (k+1)
theorem Vt (t:ay Slot)(f:iV)(ht:t.length=8):vY t f=some (walk t f 8 0):=by
 unfold vY;have B9:=eS
 have key:=HM (R:=Int) (T:=pJ (λ(y6:Int)=>some (-1)) (λ(y7:Int) (y8:Int)=>some y7) 0 t f) 8 (λ(_:Unit) i=>(i:Int))
  (λi s k=>if(gU t (mc f i)).1=0 then some (-1) else if pN (gU t (mc f i)) f then some (mc f i:Int) else k s) (λ_=>some (-1))
  (λi s nx hi=>by
   have hw:mc f i<t.length:=by have:=Fw f i;omega
   simp only[pJ,Vu];rw[mh,al (n:=(i:Int)+1)];simp only[ah,ae,VP f i hi,bS hw,wN hw,E8,pN,cA,ae];rw[kl];by_cases h0:t[mc f i].1=0;simp[h0];have e0:(t[mc f i].1==0)=false:=by simp[h0]
   rw[e0,aH h0];cases (t[mc f i].1==1)<;>cases decide (t[mc f i].2.1=f)<;>rfl)
  (λs nx=>by simp only[pJ];rfl)
  fuel 0 () (by omega) (by omega)
 refine key.trans ?_;have main:∀n i,upK (R:=Int) (λi (s:Unit) k=>if(gU t (mc f i)).1=0 then some (-1) else if pN (gU t (mc f i)) f then some (mc f i:Int) else k s) (λ_=>some (-1)) 8 n i ()=some (walk t f n i):=by intro n;induction n with|zero=>intro i;rfl|succ n ih=>intro i;rw[upK,walk];split;rfl;split;rfl;exact ih (i+1)
 exact main 8 0
def yg (f:iV):ay Slot->Int->Int
 |[],_=> -1
 |s::r,i=>if pN s f then i else yg f r (i+1)
theorem Ui (t:ay Slot)(f:iV)(h:t.length<=10^9):xR t f=some (yg f t 0):=by
 unfold xR;have B9:=eS;have key:∀n i,i<=t.length->t.length-i<n->bt (vA (λ(y3:Int)=>some (-1)) (λ(y4:Int) (y5:Int)=>some y4) 0 t ((List.length t:Int)) f) n (i:Int)=some (yg f (t.drop i) i):=by
  intro n;induction n with
  |zero=>intro i _ h;omega
  |succ n ih=>
   intro i hi hn;rw[bt];simp only[vA];rcases bW i t.length with ir|zH;rw[mh,bS ir,ca ir,yg,al];simp only[ah,ae,E8,cA];have e:(bif t[i].1==1 then decide (t[i].2.1=f) else false)=pN t[i] f:=by unfold pN;cases (t[i].1==1)<;>rfl
   rw[e];cases pN t[i] f with|true=>rfl|false=>exact ih (i+1) (by omega) (by omega)
   have:i=t.length:=by omega
   subst this;rw[du,gx];rfl
 exact key fuel 0 (by omega) (by omega)
theorem ag3 (f:iV):CS f=some ((range 8).map λk=>(mc f k:Int)):=by unfold CS;have B9:=eS;have key:=HM (R:=dB) (T:=ta (λ(y2:dB) (y3:Int)=>some y2) f) 8 (λ(_:Unit) i=>((range i).map (λk=>(mc f k:Int)),(i:Int))) (λ_ s k=>k s) (λ_=>some ((range 8).map λk=>(mc f k:Int))) (λi s nx hi=>by simp only[ta,aey];rw[mh,al (n:=(i:Int)+1)];simp only[ah,ae,VP f i hi];rw[kl,bg (by simp;omega),List.range_succ,cp];rfl) (λs nx=>by simp only[ta];rfl) fuel 0 () (by omega) (by omega);exact key
def clear (t:ay Slot)(f:iV)(i:Nat):Nat->Nat->Bool
 |0,_=>true
 |n+1,k=>if mc f k=i then true else if(gU t (mc f k)).1=0 then false else clear t f i n (k+1)
theorem aaZ (k0:Int->aC R)(k1:Bool->Int->aC R)(hit fin:aC R)(h0:∀x,k0 x=fin)(h1:∀x,k1 false x=hit)(v2:Bool)(i:Nat)(v12:ay Slot)(YI v14:Int)(t:ay Slot)(f:iV)(ht:t.length=8): bt (ly k0 k1 v2 (i:Int) v12 YI v14 ((range 8).map λk=>(mc f k:Int)) (((range 8).map λk=>(mc f k:Int)).length:Int) t) fuel 0=cond (clear t f i 8 0) fin hit:=by
 have B9:=eS;have hl:((range 8).map λk=>(mc f k:Int)).length=8:=by simp
 have key:=HM (R:=R) (T:=ly k0 k1 v2 (i:Int) v12 YI v14 ((range 8).map λk=>(mc f k:Int)) (((range 8).map λk=>(mc f k:Int)).length:Int) t) 8 (λ(_:Unit) i=>(i:Int))
  (λk s c=>if mc f k=i then fin else if(gU t (mc f k)).1=0 then hit else c s) (λ_=>fin)
  (λk s nx hk=>by
   have hw:mc f k<t.length:=by have:=Fw f k;omega
   simp only[ly];rw[mh,bS (show k<((range 8).map λk=>(mc f k:Int)).length by omega),al (n:=(k:Int)+1)];simp only[ah,ae,List.getElem_map,List.getElem_range,bS hw,wN hw,h0,h1];by_cases e1:mc f k=i;subst e1;simp;have:((mc f k:Int)==(i:Int))=false:=by simp;omega
   rw[this,aH e1];by_cases e2:t[mc f k].1=0;simp[e2];have:(t[mc f k].1==0)=false:=by simp[e2]
   rw[this,aH e2];rfl)
  (λs nx=>by simp only[ly];rw[du];exact h0 _)
  fuel 0 () (by omega) (by omega)
 refine key.trans ?_;have main:∀n k,upK (R:=R) (λk (s:Unit) c=>if mc f k=i then fin else if(gU t (mc f k)).1=0 then hit else c s) (λ_=>fin) 8 n k ()=cond (clear t f i n k) fin hit:=by intro n;induction n with|zero=>intro k;rfl|succ n ih=>intro k;rw[upK,clear];split;rfl;split;rfl;exact ih (k+1)
 exact main 8 0
def Tz:iV:=(0,0,0,0,0)
theorem TA (p:iV):((p.1==0)&&((p.2.1==0)&&((p.2.2.1==0)&&((p.2.2.2.1==0)&&((p.2.2.2.2==0)&&true)))))=decide (p=Tz):=E8 p Tz
def Qv (s:Slot):Bool:=dF s.1 0 2&&dF s.2.2 0 3&&((s.1==1)||(s.2.2==0)&&decide (s.2.1=Tz))
def om (t:ay Slot)(i:Nat):Bool:=Qv (gU t i)&&(!((gU t i).1==1)||(walk t (gU t i).2.1 8 0==(i:Int)))
def uv (t:ay Slot)(i:Nat):Bool:=Qv (gU t i)&&(!((gU t i).1==1)||(yg (gU t i).2.1 t 0==(i:Int))&&clear t (gU t i).2.1 i 8 0)
def pn (t:ay Slot):Bool:=(t.length==8)&&(range 8).all (om t)
theorem Qx (t:ay Slot):vT t=some (pn t):=by
 unfold vT pn;by_cases ht:t.length=8
 ·have e:((t.length:Int) !=8)=false:=by rw[ht];rfl
  have e2:(t.length==8)=true:=by rw[ht];rfl
  rw[e,e2];simp only[af,bF];rw[rr (hit:=some false) (fin:=some true) (om t) 8 (by omega) (λi nx hi=>?hs) (λnx=>?hf)]
  case hs=>
   have hl:i<t.length:=by omega
   simp only[tU]
   rw[mh,bS hl,al]
   simp only[ah,ae,eU,cA,TA,Vt t _ ht,om,wN hl,Qv,bne]
   cases dF t[i].1 0 2<;>cases dF t[i].2.2 0 3<;>cases (t[i].1==1)<;>cases (t[i].2.2==0)<;>cases decide (t[i].2.1=Tz)<;>first|rfl|(cases (walk t t[i].2.1 8 0==(i:Int))<;>rfl)
  case hf=>
   simp only[tU]
   rw[du];rfl
  cases (range 8).all (om t)<;>rfl
 have e:((t.length:Int) !=8)=true:=by simp;omega
 have e2:(t.length==8)=false:=by simp[ht]
 rw[e,e2];rfl
theorem Xz (t:ay Slot):rP t=some ((t.length==8)&&(range 8).all (uv t)):=by
 unfold rP;by_cases ht:t.length=8
 ·have e:((t.length:Int) !=8)=false:=by rw[ht];rfl
  have e2:(t.length==8)=true:=by rw[ht];rfl
  rw[e,e2];simp only[af,bF];rw[rr (hit:=some false) (fin:=some true) (uv t) 8 (by omega) (λi nx hi=>?hs) (λnx=>?hf)]
  case hs=>
   have hl:i<t.length:=by omega
   simp only[tH]
   rw[mh,bS hl,al]
   simp only[ah,ae,dw,cA,TA,Ui t _ (show t.length<=10^9 by omega),ag3,uv,wN hl,Qv,bne]
   rw[aaZ (λ_=>nx ((i:Int)+1)) (λ(y:Bool) (_:Int)=>some y) (some false) (nx ((i:Int)+1)) (λ_=>rfl) (λ_=>rfl) _ _ _ _ _ _ _ ht]
   cases dF t[i].1 0 2<;>cases dF t[i].2.2 0 3<;>cases (t[i].1==1)<;>cases (t[i].2.2==0)<;>cases decide (t[i].2.1=Tz)<;>first|rfl|(cases (yg t[i].2.1 t 0==(i:Int))<;>first|rfl|(cases clear t t[i].2.1 i 8 0<;>rfl))
  case hf=>
   simp only[tH]
   rw[du];rfl
  cases (range 8).all (uv t)<;>rfl
 have e:((t.length:Int) !=8)=true:=by simp;omega
 have e2:(t.length==8)=false:=by simp[ht]
 rw[e,e2];rfl
theorem QH (t:ay Slot)(f:iV)(i:Nat):∀n k,walk t f n k=(i:Int)->pN (gU t i) f=true/\clear t f i n k=true/\∃j,j<n/\mc f (k+j)=i
 |0,k,h=>by unfold walk at h;omega
 |n+1,k,h=>by
  unfold walk at h;unfold clear;by_cases h0:(gU t (mc f k)).1=0;rw[aF h0]at h;omega;rw[aH h0]at h;by_cases h1:pN (gU t (mc f k)) f=true;rw[aF h1]at h;have:mc f k=i:=by omega
  subst this;exact⟨h1,by simp,0,by omega,rfl⟩;rw[aH h1]at h;obtain⟨a,b,j,hj,e⟩:=QH t f i n (k+1) h;refine⟨a,?_,j+1,by omega,by rw[<-e];congr 1;omega⟩;rw[aH h0,b];split<;>rfl
theorem aag (t:ay Slot)(f:iV)(i:Nat)(hu:pN (gU t i) f=true)(air:∀j,j<8->pN (gU t j) f=true->j=i):∀n k,clear t f i n k=true->(∃j,j<n/\mc f (k+j)=i)->walk t f n k=(i:Int)
 |0,k,_,h=>by obtain⟨j,hj,_⟩:=h;omega
 |n+1,k,hc,⟨j,hj,e⟩=>by unfold walk;unfold clear at hc;by_cases h1:mc f k=i;rw[h1,aH,aF hu];intro h0;unfold pN at hu;rw[h0]at hu;simp at hu;rw[aH h1]at hc;by_cases h0:(gU t (mc f k)).1=0;rw[aF h0]at hc;cases hc;rw[aH h0]at hc;rw[aH h0,aH (λRP=>h1 (air _ (Fw f k) RP))];refine aag t f i hu air n (k+1) hc ?_;cases j with|zero=>exact absurd e h1|succ j=>exact⟨j,by omega,by rw[<-e];congr 1;omega⟩
theorem ahU (f:iV)(i:Nat)(hi:i<8):∃j,j<8/\mc f (0+j)=i:=by have:=Mw f;refine⟨(i+8-(Cc f).toNat)%8,by omega,?_⟩;unfold mc;omega
theorem DZ (f:iV):∀(t:ay Slot)(m:Nat),(∃j,j<t.length/\pN (gU t j) f=true)->∃j,j<t.length/\pN (gU t j) f=true/\yg f t m=((m+j:Nat):Int)
 |[],_,h=>by obtain⟨j,hj,_⟩:=h;simp at hj
 |s::r,m,⟨j,hj,e⟩=>by
  unfold yg;by_cases hs:pN s f=true;rw[aF hs];exact⟨0,by simp,by simpa[gU]using hs,by simp⟩;rw[aH hs];cases j with
  |zero=>exact absurd (by simpa[gU]using e) hs
  |succ j=>
   obtain⟨j',h1,h2,h3⟩:=DZ f r (m+1) ⟨j,by simpa using hj,by simpa[gU]using e⟩;refine⟨j'+1,by simpa using h1,by simpa[gU]using h2,?_⟩;have:((m:Int)+1)=((m+1:Nat):Int):=by omega
   rw[this,h3];congr 1;omega
theorem Yq (t:ay Slot)(ht:t.length=8):(range 8).all (uv t)=(range 8).all (om t):=by
 rw[dN,aL,aL];simp only[cy];constructor;intro h i hi;have hI:=h i hi;unfold uv at hI;unfold om;simp only[ab,cH,aN,bm]at hI⊢;refine⟨hI.1,?_⟩;rcases hI.2 with h1|⟨h1,h2⟩;exact .inl h1;by_cases hu:((gU t i).1==1)=true;right;have RP:pN (gU t i) (gU t i).2.1=true:=by unfold pN;rw[hu];simp
 refine aag t _ i RP (λj hj huj=>?_) 8 0 h2 (ahU _ i hi);have hJ:=h j hj;unfold uv at hJ;unfold pN at huj;simp only[ab,aE]at huj;simp only[ab,cH,aN,bm]at hJ;rcases hJ.2 with h3|⟨h3,_⟩;rw[huj.1]at h3;cases h3;rw[huj.2]at h3;omega;exact .inl (by simpa using hu);intro h i hi;have hI:=h i hi;unfold om at hI;unfold uv;simp only[ab,cH,aN,bm]at hI⊢;refine⟨hI.1,?_⟩;rcases hI.2 with h1|h1;exact .inl h1;right;obtain⟨hu,hc,_⟩:=QH t _ i 8 0 h1;refine⟨?_,hc⟩;obtain⟨j,hj,huj,e⟩:=DZ (gU t i).2.1 t 0 ⟨i,by omega,hu⟩;have hJ:=h j (by omega);unfold om at hJ;unfold pN at huj;simp only[ab,aE]at huj;simp only[ab,cH,aN,bm]at hJ;rcases hJ.2 with h3|h3;rw[huj.1]at h3;cases h3;rw[huj.2,h1]at h3;have e':yg (gU t i).2.1 t 0=((0+j:Nat):Int):=e;rw[e'];omega
theorem PR (t:ay Slot):rP t=some (pn t):=by
 rw[Xz,pn];by_cases ht:t.length=8;rw[Yq t ht];have e2:(t.length==8)=false:=by simp[ht]
 rw[e2];rfl
def Z1 (n:Int):Bool:=(n==1)||(n==2)||(n==4)||(n==8)||(n==16)
theorem XK (n:Int):zh n=some (Z1 n):=by simp only[zh,cA,ae,Z1];cases (n==1)<;>cases (n==2)<;>cases (n==4)<;>cases (n==8)<;>rfl
def qG (s:mT)(q:Int):Bool:=dF q 1 4&&((s.1.length:Int)==16)&&Z1 s.2.length&&s.2.all λx=>dF x 0 (q-1)
theorem NL (s:mT)(q:Int)(h:s.2.length<=10^9):xB s q=some (qG s q):=by
 unfold xB qG;simp only[eU,XK,ae,cA,bne];by_cases hq:dF q 1 4=true
 ·rw[pP (hit:=some false) (fin:=some true) (λx=>dF x 0 (q-1)) s.2 (by omega) (λi hi nx=>?hs) (λnx=>?hf)]
  case hs=>
   rw[aX]at hq
   simp only[sc]
   rw[mh,bS hi,al (n:=(i:Int)+1),al (n:=q-1)]
   simp only[ah,ae,eU];rfl
  case hf=>
   simp only[sc]
   rw[du];rfl
  rw[hq];cases ((s.1.length:Int)==16)<;>cases Z1 s.2.length<;>cases s.2.all (λx=>dF x 0 (q-1))<;>rfl
 have Li:dF q 1 4=false:=by simpa using hq
 rw[Li];rfl
theorem MN (s:mT)(q:Int)(h:s.2.length<=10^9):xo s q=some (qG s q):=by rw[<-NL s q h];rfl
def gA (s:cV)(q:Int):Bool:=yn s.1&&pn s.2.1&&qG s.2.2 q&&s.1.all (λr=> !(decide (r.2.2.2.2.2.2.2.2>=q)))&&s.2.1.all (λx=> !(decide (x.2.2>=q)))
theorem Su (s:cV)(q:Int)(h1:s.1.length<=10^9)(h2:s.2.1.length<=10^9)(h3:s.2.2.2.length<=10^9):tT s q=some (gA s q):=by
 unfold tT gA;simp only[Qw _ h1,Qx,NL _ _ h3,ae,cA];rw[pP (hit:=some false) (fin:=cond (s.2.1.all (λx=> !(decide (x.2.2>=q)))) (some true) (some false)) (λr:km=> !(decide (r.2.2.2.2.2.2.2.2>=q))) s.1 (by omega) (λi hi nx=>?hs) (λnx=>?hf)]
 case hs=>
  simp only[ph]
  rw[mh,bS hi,al]
  simp only[ah,ae,ik];rfl
 case hf=>
  simp only[ph]
  rw[du]
  simp only[af]
  rw[pP (hit:=some false) (fin:=some true) (λx:Slot=> !(decide (x.2.2>=q))) s.2.1 (by omega) (λi hi nx=>?hs) (λnx=>?hf)]
  case hs=>
   simp only[pj]
   rw[mh,bS hi,al]
   simp only[ah,ae,ik];rfl
  case hf=>
   simp only[pj]
   rw[du];rfl
 cases yn s.1<;>cases pn s.2.1<;>cases qG s.2.2 q<;>cases s.1.all (λr=> !(decide (r.2.2.2.2.2.2.2.2>=q)))<;>cases s.2.1.all (λx=> !(decide (x.2.2>=q)))<;>rfl
theorem HB (s:cV)(q:Int)(h1:s.1.length<=10^9)(h2:s.2.1.length<=10^9)(h3:s.2.2.2.length<=10^9):pA s q=some (gA s q):=by
 unfold pA gA;simp only[PL _ h1,PR,MN _ _ h3,ae,cA];rw[pP (hit:=some false) (fin:=cond (s.2.1.all (λx=> !((x.1==1)&&decide (x.2.2>=q)))) (some true) (some false)) (λr:km=> !((r.2.2.2.2.2.2.2.1==0)&&decide (r.2.2.2.2.2.2.2.2>=q))) s.1 (by omega) (λi hi nx=>?hs) (λnx=>?hf)]
 case hs=>
  simp only[oT]
  rw[mh,bS hi,al]
  simp only[ah,ae,ik,cA]
  cases (s.1[i].2.2.2.2.2.2.2.1==0)<;>rfl
 case hf=>
  simp only[oT]
  rw[du]
  simp only[af]
  rw[pP (hit:=some false) (fin:=some true) (λx:Slot=> !((x.1==1)&&decide (x.2.2>=q))) s.2.1 (by omega) (λi hi nx=>?hs) (λnx=>?hf)]
  case hs=>
   simp only[nw]
   rw[mh,bS hi,al]
   simp only[ah,ae,ik,cA]
   cases (s.2.1[i].1==1)<;>rfl
  case hf=>
   simp only[nw]
   rw[du];rfl
 cases hr:yn s.1 with
 |false=>rfl
 |true=>
  cases ht:pn s.2.1 with
  |false=>rfl
  |true=>
   cases hs:qG s.2.2 q with
   |false=>rfl
   |true=>
    have hq:1<=q:=by unfold qG at hs;simp only[ab,aX]at hs;exact hs.1.1.1.1
    have e1:s.1.all (λr=> !((r.2.2.2.2.2.2.2.1==0)&&decide (r.2.2.2.2.2.2.2.2>=q)))=s.1.all (λr=> !(decide (r.2.2.2.2.2.2.2.2>=q))):=by unfold yn at hr;simp only[ab,aL]at hr;rw[dN,aL,aL];refine forall_congr' λr=>forall_congr' λhm=>?_;rcases Vf (hr.1 r hm)with h0|h0;rw[h0];simp;rw[h0];simp only[ar (show¬(0:Int)>=q by omega),ee]
    have e2:s.2.1.all (λx=> !((x.1==1)&&decide (x.2.2>=q)))=s.2.1.all (λx=> !(decide (x.2.2>=q))):=by unfold pn at ht;simp only[ab,aL,cy,bm]at ht;rw[dN,aL,aL];refine forall_congr' λx=>forall_congr' λhm=>?_;obtain⟨i,hi,rfl⟩:=List.mem_iff_getElem.1 hm;have ZB:=ht.2 i (by omega);unfold om Qv at ZB;rw[wN hi]at ZB;simp only[ab,cH,bm]at ZB;rcases ZB.1.2 with h0|⟨h0,_⟩;rw[h0];simp;rw[h0];simp only[ar (show¬(0:Int)>=q by omega),ee]
    rw[e1,e2];cases s.1.all (λr=> !(decide (r.2.2.2.2.2.2.2.2>=q)))<;>cases s.2.1.all (λx=> !(decide (x.2.2>=q)))<;>rfl
def df (m:cg):Bool:=m.all (λx=>(x.length:Int)==128)&&decide ((m.length:Int)<=64)
theorem GC (m:cg)(h:m.length<=10^9):tq m=some (df m):=by
 unfold tq df;rw[pP (hit:=some false) (fin:=some (decide ((m.length:Int)<=64))) (λx:Bytes=>(x.length:Int)==128) m (by omega) (λi hi nx=>?hs) (λnx=>?hf)]
 case hs=>
  simp only[rZ]
  rw[mh,bS hi,al];rfl
 case hf=>
  simp only[rZ]
  rw[du];rfl
 cases m.all (λx=>(x.length:Int)==128)<;>rfl
theorem Gn (m:cg)(h:m.length<=10^9):sT m=some (df m):=GC m h
def KX:aG:=(0,0,0,false)
def Jc (m:aG):Bool:=dF m.1 0 7&&(dF m.2.1 0 1023&&dF m.2.2.1 0 63)
def rb (d p:Int)(m:aG):Bool:=(m.1==d)&&(m.2.1==p)
def M0 (l:ay aG)(i:Nat):Bool:=Jc (l.getD i KX)&&(range i).all (λj=> !(rb (l.getD i KX).1 (l.getD i KX).2.1 (l.getD j KX)))
def gq (l:ay aG):Bool:=decide ((l.length:Int)<=96)&&(range l.length).all (M0 l)
theorem Sr (l:ay aG)(h:l.length<=10^9):tR l=some (gq l):=by
 unfold tR gq;rw[rr (hit:=some false) (fin:=some true) (M0 l) l.length (by omega) (λi nx hi=>?hs) (λnx=>?hf)]
 case hs=>
  simp only[pe]
  rw[mh,bS hi,al]
  simp only[ah,ae,eU,cA]
  rw[rr (hit:=some false) (fin:=nx ((i:Int)+1)) (λj=> !(rb l[i].1 l[i].2.1 (l.getD j KX))) i (by omega) (λj nx hj=>?hs2) (λnx=>?B8)]
  case hs2=>
   have hjl:j<l.length:=by omega
   simp only[nE]
   rw[mh,bS hjl,al]
   simp only[ah,ae,cA,de hjl,rb,cF,ik];rfl
  case B8=>
   simp only[nE]
   rw[du];rfl
  simp only[M0,Jc,de hi,cT]
  cases dF l[i].1 0 7<;>cases dF l[i].2.1 0 1023<;>cases dF l[i].2.2.1 0 63<;>cases (range i).all (λj=> !(rb l[i].1 l[i].2.1 (l.getD j KX)))<;>rfl
 case hf=>
  simp only[pe]
  rw[du];rfl
 have e:decide ((l.length:Int)>96)= !decide ((l.length:Int)<=96):=by rw[dN];simp
 rw[e];cases decide ((l.length:Int)<=96)<;>cases (range l.length).all (M0 l)<;>rfl
def UX (l:ay aG)(d p:Int):Int:=match l.findIdx? (rb d p)with|some i=>(i:Int)|none=> -1
theorem Ue (l:ay aG)(d p:Int)(h:l.length<=10^9):nW l d p=some (UX l d p):=by
 unfold nW UX;rw[E5 (hit:=λi=>some i) (fin:=some (-1)) (rb d p) l (by omega) (λi hi nx=>?hs) (λnx=>?hf)]
 case hs=>
  simp only[nB]
  rw[mh,bS hi,al]
  simp only[ah,ae,cA,cF,rb];rfl
 case hf=>
  simp only[nB]
  rw[du];rfl
 cases l.findIdx? (rb d p)<;>rfl
theorem X9 (l:ay aG)(i:Nat)(hi:i<l.length):(UX l l[i].1 l[i].2.1==(i:Int))=(range i).all (λj=> !(rb l[i].1 l[i].2.1 (l.getD j KX))):=by
 have Ba:rb l[i].1 l[i].2.1 l[i]=true:=by simp[rb]
 unfold UX;cases hq:l.findIdx? (rb l[i].1 l[i].2.1)with
 |none=>rw[List.findIdx?_eq_none_iff]at hq;rw[hq l[i] (bE hi)]at Ba;cases Ba
 |some k=>
  rw[List.findIdx?_eq_some_iff_getElem]at hq;obtain⟨hk,hpk,ir⟩:=hq;rw[dN,aL];simp only[cy,bm,aN];constructor;intro e j hj;have hjl:j<l.length:=by omega
  rw[de hjl];have:=ir j (by omega);simpa using this;intro uJ;rcases Nat.lt_trichotomy k i with hki|hki|hki;have:=uJ k hki;rw[de hk,hpk]at this;cases this;omega;have:=ir i hki;rw[Ba]at this;simp at this
theorem Hw (l:ay aG)(h:l.length<=10^9):py l=some (gq l):=by
 unfold py gq;rw[rr (hit:=some false) (fin:=some (decide ((l.length:Int)<=96))) (M0 l) l.length (by omega) (λi nx hi=>?hs) (λnx=>?hf)]
 case hs=>
  simp only[oN]
  rw[mh,bS hi,al]
  simp only[ah,ae,dw,cA,Ue _ _ _ h,bne,X9 l i hi,M0,Jc,de hi]
  cases dF l[i].1 0 7<;>cases dF l[i].2.1 0 1023<;>cases dF l[i].2.2.1 0 63<;>cases (range i).all (λj=> !(rb l[i].1 l[i].2.1 (l.getD j KX)))<;>rfl
 case hf=>
  simp only[oN]
  rw[du];rfl
 cases decide ((l.length:Int)<=96)<;>cases (range l.length).all (M0 l)<;>rfl
def BZ (n:Int)(l:dB)(i:Nat):Bool:=dF (l.getD i 0) 0 (n-1)&& !((l.take i).contains (l.getD i 0))
def dz (p:cX):Bool:=dF p.1 0 130944&&(dF p.2.1 1 512&&(dF p.2.2.1 0 16&&(range p.2.2.2.length).all (BZ p.2.2.1 p.2.2.2)))
def DC (n:Int)(l:dB):ay Bool:=(range n.toNat).map λk:Nat=>l.contains (k:Int)
theorem Qt (n:Int)(l:dB):(DC n l).length=n.toNat:=by simp[DC]
theorem Fo (n:Int)(l:dB)(k:Nat)(h:k<(DC n l).length):(DC n l)[k]=l.contains (k:Int):=by simp[DC]
theorem aco (n:Int)(l:dB)(k:Nat)(h:k<n.toNat):(DC n l).set k true=DC n (l++[(k:Int)]):=by
 apply List.ext_getElem;simp[DC];intro j h1 h2;rw[List.getElem_set];split;rename_i e;subst e;rw[Fo];simp;rename_i e;rw[Fo,Fo];simp only[List.contains_append];have:([(k:Int)].contains (j:Int))=false:=by simp;omega
 rw[this];simp
theorem U1 {T:(ay Bool×Int->aC Bool)->ay Bool×Int->aC Bool}(n:Int)(l:dB)(hl:l.length<=10^9)
 (hs:∀i (hi:i<l.length)(s:ay Bool) nx,T nx (s,(i:Int))=aa (cond (!(dF l[i] 0 (n-1))) (some true) (aa (idx s l[i]) λx=>some x)) λq=>
  cond q (some false) (aa (idx s l[i]) λ_=>aa (idx s l[i]) λ_=>nx (s.set l[i].toNat true,((i+1:Nat):Int)))) (hf:∀s nx,T nx (s,(l.length:Int))=some true):
 bt T fuel (List.replicate n.toNat false,0)=some ((range l.length).all (BZ n l)):=by
 have e0:(List.replicate n.toNat false,(0:Int))=(DC n (l.take 0),((0:Nat):Int)):=by congr 1;simp only[DC,List.take_zero,List.contains_nil,List.map_const',List.length_range]
 rw[e0,O5 (hit:=some false) (fin:=some true) (λi=>(DC n (l.take i),(i:Int))) (BZ n l) l.length (by omega) (λi nx hi hp=>?hs) (λ_ nx=>hf _ nx)]
 case hs=>
  rw[hs i hi]
  unfold BZ
  rw[de hi]
  by_cases uN:dF l[i] 0 (n-1)=true
  ·have hb:=uN
   rw[aX]at hb
   obtain⟨k,hk⟩:∃k:Nat,l[i]=(k:Int):=⟨l[i].toNat,by omega⟩
   have hkn:k<(DC n (l.take i)).length:=by rw[Qt];omega
   rw[uN,hk,bS hkn,Fo]
   simp only[ak,af,ae,bF,ik,aA]
   rw[aco _ _ _ (by rw[Qt]at hkn;exact hkn),<-hk,<-bV hi]
  ·have ajg:dF l[i] 0 (n-1)=false:=by simpa using uN
   rw[ajg];rfl
 cases (range l.length).all (BZ n l)<;>rfl
theorem Ih (p:cX)(h:p.2.2.2.length<=10^9):uD p=some (dz p):=by
 unfold uD dz;simp only[eU,ae,cA];by_cases hn:dF p.2.2.1 0 16=true
 ·have hb:=hn;rw[aX]at hb;rw[zip,bg,U1 p.2.2.1 p.2.2.2 h (λi hi s nx=>?hs) (λs nx=>?hf)]
  case hs=>
   simp only[vQ]
   rw[mh,bS hi,al (n:=(i:Int)+1),al (n:=p.2.2.1-1)]
   simp only[ah,ae,eU];rfl
  case hf=>
   simp only[vQ]
   rw[du];rfl
  rw[hn];cases dF p.1 0 130944<;>cases dF p.2.1 1 512<;>rfl
 have Cx:dF p.2.2.1 0 16=false:=by simpa using hn
 rw[Cx];cases dF p.1 0 130944<;>cases dF p.2.1 1 512<;>rfl
theorem xK (p:cX)(h:p.2.2.2.length<=10^9):jC p=some (dz p):=by
 unfold jC dz;simp only[dw,ae,cA];by_cases hn:dF p.2.2.1 0 16=true
 ·have hb:=hn;rw[aX]at hb;rw[zip,bg,U1 p.2.2.1 p.2.2.2 h (λi hi s nx=>?hs) (λs nx=>?hf)]
  case hs=>
   simp only[vj]
   rw[mh,bS hi,al (n:=(i:Int)+1),al (n:=p.2.2.1-1)]
   simp only[ah,ae,dw];rfl
  case hf=>
   simp only[vj]
   rw[du];rfl
  rw[hn];cases dF p.1 0 130944<;>cases dF p.2.1 1 512<;>rfl
 have Cx:dF p.2.2.1 0 16=false:=by simpa using hn
 rw[Cx];cases dF p.1 0 130944<;>cases dF p.2.1 1 512<;>rfl
def jf (n:Int):Bool:=(n==2)||((n==4)||((n==8)||(n==16)))
theorem Gr (n:Int):vZ n=some (jf n):=by simp only[vZ,cA,ae,jf,cT]
theorem Ez (n:Int):sZ n=some (jf n):=Gr n
theorem il {n:Int}:jf n=true↔n=2\/n=4\/n=8\/n=16:=by simp[jf]
theorem Cw (x:Int)(k:Nat)(hk:k<=64:=by omega):au x%(2^k:Int)=x%(2^k:Int):=by
 obtain⟨c,hc⟩:∃c:Int,(18446744073709551616:Int)=2^k*c:=⟨2^(64-k),by rw[<-Int.pow_add,show k+(64-k)=64 by omega];rfl⟩
 have:au x=x\/∃q:Int,au x=x+18446744073709551616*q:=by
  right;simp only[au,gF,IntKind.wrap,IntKind.bits,IntKind.signed];simp;have h1:x=x%18446744073709551616+18446744073709551616*(x/18446744073709551616):=by omega
  split;exact⟨-(x/18446744073709551616)-1,by omega⟩;exact⟨-(x/18446744073709551616),by omega⟩
 rcases this with h|⟨q,h⟩;rw[h];rw[h,hc,Int.mul_assoc,Int.add_mul_emod_self_left]
theorem DK (x:Int)(k:Nat)(hk:k<63:=by omega):((ia x&&&ia (2^k-1)).toNat:Int)=x%2^k:=by
 have h2:(2:Int)^k<=2^62:=by have:(2:Nat)^k<=2^62:=Nat.pow_le_pow_right (by omega) (by omega);exact_mod_cast this
 have h0:(1:Int)<=2^k:=by have:1<=(2:Nat)^k:=Nat.one_le_two_pow;exact_mod_cast this
 have hm:(ia (2^k-1)).toNat=2^k-1:=by
  show(BitVec.ofInt 64 (2^k-1)).toNat=2^k-1;rw[BitVec.toNat_ofInt,Int.emod_eq_of_lt (by omega) (by omega)];have:((2:Int)^k-1)=((2^k-1:Nat):Int):=by have:1<=(2:Nat)^k:=Nat.one_le_two_pow;push_cast [this];rfl
  rw[this];rfl
 rw[BitVec.toNat_and,hm,Nat.and_two_pow_sub_one_eq_mod];show(((BitVec.ofInt 64 x).toNat%2^k:Nat):Int)=x%2^k;rw[BitVec.toNat_ofInt];have hx:0<=x%18446744073709551616:=by omega
 have e:(((x%18446744073709551616).toNat%2^k:Nat):Int)=(x%18446744073709551616)%2^k:=by push_cast;rw[Int.toNat_of_nonneg hx]
 refine e.trans ?_;exact Int.emod_emod_of_dvd x ⟨2^(64-k),by rw[<-Int.pow_add,show k+(64-k)=64 by omega];rfl⟩
theorem Jf (x n:Int)(h0:0<n:=by omega)(h1:n<=4611686018427387904:=by omega):jD x n=some (x%n):=by
 unfold jD;have:=fF x (show n≠0 by omega);have:=fH x h0;have hn:(n.natAbs:Int)=n:=by omega
 rw[kl,Int.tmod_eq_emod];split;rw[du];simp;rw[mh,al];simp only[ah,hn];congr 1;omega
def bL (r:mR):Int:=if jf r.2.1 then(r.2.2.2-r.2.2.1)%(2*r.2.1) else 0
theorem Vz (r:mR):tu r=some (bL r):=by
 unfold tu bL;rw[Gr,ae];cases hs:jf r.2.1 with
 |false=>rfl
 |true=>
  simp only[ak,af,cc];congr 1;rcases il.1 hs with h|h|h|h<;>rw[h];have e:au (au (2*2)-1)=2^2-1:=by decide
  rw[e,DK _ 2,Cw _ 2,al];rfl;have e:au (au (2*4)-1)=2^3-1:=by decide
  rw[e,DK _ 3,Cw _ 3,al];rfl;have e:au (au (2*8)-1)=2^4-1:=by decide
  rw[e,DK _ 4,Cw _ 4,al];rfl;have e:au (au (2*16)-1)=2^5-1:=by decide
  rw[e,DK _ 5,Cw _ 5,al];rfl
theorem Af (r:mR):jT r=some (bL r):=by unfold jT bL;rw[Ez,ae];cases hs:jf r.2.1 with|false=>rfl|true=>simp only[ak,af,cc];have hb:=il.1 hs;rw[al (n:=2*r.2.1)];have a1:=fF r.2.2.2 (show 2*r.2.1≠0 by omega);have a2:=fH r.2.2.2 (show 0<2*r.2.1 by omega);have a3:=fF r.2.2.1 (show 2*r.2.1≠0 by omega);have a4:=fH r.2.2.1 (show 0<2*r.2.1 by omega);simp only[Jf _ (2*r.2.1) (show 0<2*r.2.1 by omega),ae];rw[al,<-Int.sub_emod]
def dx (r:mR):Bool:=dF r.1 0 130944&&(jf r.2.1&&(dF r.2.2.1 0 (2*r.2.1-1)&&(dF r.2.2.2 0 (2*r.2.1-1)&&decide (bL r<=r.2.1))))
theorem wL {n:Int}(h:jf n=true):au (au (2*n)-1)=2*n-1:=by have:=il.1 h;rw[al (n:=2*n),al]
theorem NK (r:mR):uE r=some (dx r):=by unfold uE dx;simp only[eU,Gr,Vz,ae,cA,cF];cases hs:jf r.2.1 with|false=>rfl|true=>rw[wL hs]
theorem xL (r:mR):kg r=some (dx r):=by unfold kg dx;simp only[dw,Ez,Af,ae,cA,cF];cases hs:jf r.2.1 with|false=>rfl|true=>rw[wL hs]
theorem XL (p:cX)(h:p.2.2.2.length<=10^9):zn p=some p:=by unfold zn;rw[bg (by simp;omega)];rfl
theorem mu (l:dB)(h:l.length<=10^9):gN l=some l:=by unfold gN;rw[bg (by simp;omega)];rfl
theorem uo (p:cX)(h:p.2.2.2.length<=10^9):jj p=some p:=by unfold jj;rw[mu _ h];rfl
def gZ (p:cX)(l:dB):cX:=(p.1,p.2.1,p.2.2.1,p.2.2.2++l)
def Ab (p:cX)(l:dB):Bool:=dz p&&dz (gZ p l)
def Aa (p:cX)(l:dB):cX×Bool:=bif Ab p l then(gZ p l,true) else(p,false)
theorem MJ (p:cX)(l:dB)(h:p.2.2.2.length+l.length<=10^9):gL p l=some (Aa p l):=by unfold gL;rw[uo p (by omega),ae,bg,xK p (by omega)];rw[xK (p.1,p.2.1,p.2.2.1,p.2.2.2++l) (by simp;omega)];simp only[ae,cA,Aa,Ab];show _=some (bif dz p&&dz (p.1,p.2.1,p.2.2.1,p.2.2.2++l) then _ else _);cases dz p<;>cases dz (p.1,p.2.1,p.2.2.1,p.2.2.2++l)<;>rfl
theorem ai8 (p:cX)(l:dB):(Aa p l).2=Ab p l:=by unfold Aa;cases Ab p l<;>rfl
def oX (n:Int)(s:oJ):Bool:=dF s.2.1 1 n&&dF s.1 0 65535
def bI (l:ay oJ):dB:=l.flatMap (·.2.2)
def eG (l:ay oJ):Int:=(l.map (·.2.1)).sum
def Od (t:eM):Bool:=dx t.1&&(dz t.2.1&&(dF t.2.2.2 0 65535&&(t.2.2.1.all (oX t.1.2.1)&&(Ab t.2.1 (bI t.2.2.1)&&decide (eG t.2.2.1<=t.1.2.1)))))
theorem yI (n:Int):∀l:ay oJ,l.all (oX n)=true->0<=eG l
 |[],_=>by simp[eG]
 |x::l,h=>by simp only[cv,ab]at h;have:=yI n l h.2;have hx:=h.1;unfold oX at hx;simp only[ab,aX]at hx;simp only[eG,cZ,List.sum_cons]at this⊢;omega
theorem PM (p:cX)(n:Int)(hn:n<=16)(fin:Int×dB->aC Bool)(qJ:∀s:Int×dB,p.2.2.2.length+s.2.length<=10^9->fin s=some (Ab p s.2)):
 ∀(l:ay oJ)(left:Int)(acc:dB),0<=left->left<=n->p.2.2.2.length+(acc.length+(bI l).length)<=10^9->
 BX (λx (s:Int×dB) k=>cond (decide (x.2.1<1)||(decide (x.2.1>s.1)|| !(dF x.1 0 65535))) (some false) (room (s.2.length+x.2.2.length) (k (au (s.1-x.2.1),s.2++x.2.2)))) fin l (left,acc)
  =some (l.all (oX n)&&(Ab p (acc++bI l)&&decide (eG l<=left)))
 |[],left,acc,h0,h1,h2=>by rw[BX,qJ _ (by simp[bI]at h2;exact h2)];simp[bI,eG,h0]
 |x::l,left,acc,h0,h1,h2=>by
  have hb:bI (x::l)=x.2.2++bI l:=by simp[bI]
  have hc:eG (x::l)=x.2.1+eG l:=by simp only[eG,cZ,List.sum_cons]
  rw[hb,aj]at h2;rw[BX,cv,hb,hc];by_cases c1:x.2.1<1;have e:oX n x=false:=by unfold oX dF;rw[ar (show¬1<=x.2.1 by omega)];rfl
  rw[e,aq c1];rfl;rw[ar c1];by_cases c2:x.2.1>left;rw[aq c2];simp only[jA,cd,iM,ah];cases ha:l.all (oX n)with|false=>simp|true=>have:=yI n l ha;rw[ar (show¬x.2.1+eG l<=left by omega)];simp
  rw[ar c2];have e:oX n x=dF x.1 0 65535:=by have:dF x.2.1 1 n=true:=aX.2 ⟨by omega,by omega⟩;unfold oX;rw[this];rfl
  rw[e];cases dF x.1 0 65535 with
  |false=>rfl
  |true=>
   simp only[cd,ak,af,bF];rw[bg,al,PM p n hn fin qJ l _ _ (by omega) (by omega) (by rw[aj];omega),aD];have e:decide (eG l<=left-x.2.1)=decide (x.2.1+eG l<=left):=by rw[dN];simp;omega
   rw[e]
theorem XA (t:eM)(h1:t.2.2.1.length<=10^9)(h2:t.2.1.2.2.2.length+(bI t.2.2.1).length<=10^9):zK t=some (Od t):=by
 unfold zK Od;simp only[xL,xK _ (show t.2.1.2.2.2.length<=10^9 by omega),dw,ae,cA];cases hr:dx t.1 with
 |false=>rfl
 |true=>
  have hn:0<=t.1.2.1/\t.1.2.1<=16:=by unfold dx at hr;simp only[ab]at hr;have:=il.1 hr.2.1;omega
  have B9:=eS;have key:=Cg (R:=Bool) (T:=vq (λ(_:Int) (y9:dB) (_:Int)=>aa (gL t.2.1 y9) λwo=>some wo.2) (λ(IB:Bool) (_:Int) (_:dB) (_:Int)=>some IB) false t.2.2.1 ((List.length t.2.2.1:Int)) t) t.2.2.1 (λ(s:Int×dB) i=>(s.1,s.2,(i:Int))) (λx (s:Int×dB) k=>cond (decide (x.2.1<1)||(decide (x.2.1>s.1)|| !(dF x.1 0 65535))) (some false) (room (s.2.length+x.2.2.length) (k (au (s.1-x.2.1),s.2++x.2.2)))) (λs=>aa (gL t.2.1 s.2) λtf=>some tf.2) (λi hi s nx=>by simp only[vq];rw[mh,bS hi,al (n:=(i:Int)+1)];simp only[ah,ae,dw,cA,cT];rfl) (λs nx=>by simp only[vq];rw[du];rfl) fuel 0 (t.1.2.1,([]:dB)) (by omega) (by omega);rw[eP,PM t.2.1 t.1.2.1 (by omega) _ (λs hs=>by rw[MJ _ _ hs,ae,ai8]) _ _ _ (by omega) (by omega) (by simpa using h2)]at key;cases dz t.2.1 with|false=>rfl|true=>cases dF t.2.2.2 0 65535 with|false=>rfl|true=>refine key.trans ?_;simp
def qK (s:eY):Bool:=dF s.2.1 0 65535&&(dF s.2.2.1 0 65535&&(!decide ((List.length s.2.2.2.2.2.2.2:Int)>320)&&
 (bif s.1==17 then(s.2.2.2.1==0)&&((s.2.2.2.2.1==0)&&((s.2.2.2.2.2.1==0)&&(s.2.2.2.2.2.2.1==0)))
  else(s.1==6)&&(dF s.2.2.2.1 0 4294967295&&(dF s.2.2.2.2.1 0 4294967295&&(dF s.2.2.2.2.2.1 0 31&&dF s.2.2.2.2.2.2.1 0 65535))))))
theorem Z3 (s:eY):rm s=some (qK s):=by simp only[rm,eU,ae,cA,cF,cT,cN,Bool.not_or,ik,Bool.and_assoc,qK]
theorem ZG (s:eY):qU s=some (qK s):=by simp only[qU,dw,ae,cA,cF,cT,cN,Bool.not_or,ik,Bool.and_assoc,qK];by_cases h:s.1=17;rw[h];rfl;rw[show(s.1==17)=false from by simpa using h];cases s.1==6<;>rfl
def zV (f:Int):Bool:=(f==16)||(f==17)||(f==24)||(f==25)
theorem Me (f:Int)(h:dF f 0 31=true):(au (toNat (ia f&&&~~~ ia 9))==16)=zV f:=by
 have key:∀k:Fin 32,(au (toNat (ia (k.val:Int)&&&~~~ ia 9))==16)=zV (k.val:Int):=by decide
 rw[aX]at h;have:=key ⟨f.toNat,by omega⟩;rwa[show((f.toNat:Nat):Int)=f by omega]at this
theorem Md (f:Int)(h:dF f 0 31=true):qY f=some (zV f):=by
 have key:∀k:Fin 32,((au (toNat (ia (k.val:Int)&&&ia 16)) !=0)&&(au (toNat (ia (k.val:Int)&&&~~~ ia 25))==0))=zV (k.val:Int):=by decide
 rw[aX]at h;have:=key ⟨f.toNat,by omega⟩;rw[show((f.toNat:Nat):Int)=f by omega]at this;simp only[qY,cA,ae,cF];rw[this]
theorem Fp {s:eY}(h:qK s=true)(h6:(s.1==6)=true):dF s.2.2.2.2.2.1 0 31=true:=by
 have:s.1=6:=by simpa using h6
 unfold qK at h;rw[this]at h;simp only[ab]at h;have h:=h.2.2.2;simp at h;exact h.2.2.1
def nN (p:aQ):Bool:=dF p.1 0 281474976710655&&(dF p.2.1 0 281474976710655&&(dF p.2.2.1 (-1) 4095&&(dF p.2.2.2.1 0 255&&(dF p.2.2.2.2.2.1 0 255&&(dF p.2.2.2.2.1 0 65535&&(dF p.2.2.2.2.2.2.1 0 4294967295&&(dF p.2.2.2.2.2.2.2.1 0 4294967295&&qK p.2.2.2.2.2.2.2.2)))))))
def cD (p:aQ):Bool:=nN p&&(decide ((List.length p.2.2.2.2.2.2.2.2.2.2.2.2.2.2.2:Int)<=128)||(p.2.2.2.2.2.2.2.2.1==6)&&zV p.2.2.2.2.2.2.2.2.2.2.2.2.2.1)
theorem uX (h:nN p=true):qK p.2.2.2.2.2.2.2.2=true:=by unfold nN at h;simp only[ab]at h;exact h.2.2.2.2.2.2.2.2
theorem JH (p:aQ):si p=some (cD p):=by unfold si cD;simp only[eU,Z3,ae,cA,cF,cT,cN,Bool.not_or,ik];rw[show(dF p.1 0 281474976710655&&(dF p.2.1 0 281474976710655&&(dF p.2.2.1 (-1) 4095&&(dF p.2.2.2.1 0 255&&(dF p.2.2.2.2.2.1 0 255&&(dF p.2.2.2.2.1 0 65535&&(dF p.2.2.2.2.2.2.1 0 4294967295&&(dF p.2.2.2.2.2.2.2.1 0 4294967295&&qK p.2.2.2.2.2.2.2.2))))))))=nN p from rfl];cases hh:nN p with|false=>rfl|true=>cases h6:p.2.2.2.2.2.2.2.2.1==6 with|false=>simp|true=>rw[Me _ (Fp (uX hh) h6)];simp[Bool.or_comm]
theorem pS (p:aQ):iv p=some (cD p):=by
 unfold iv cD;simp only[dw,ZG,ae];have e:∀X:aC Bool,(cond (dF p.1 0 281474976710655) (cond (dF p.2.1 0 281474976710655) (cond (dF p.2.2.1 (-1) 4095) (cond (dF p.2.2.2.1 0 255) (cond (dF p.2.2.2.2.2.1 0 255) (cond (dF p.2.2.2.2.1 0 65535) (cond (dF p.2.2.2.2.2.2.1 0 4294967295) (cond (dF p.2.2.2.2.2.2.2.1 0 4294967295) (cond (qK p.2.2.2.2.2.2.2.2) X (some false)) (some false)) (some false)) (some false)) (some false)) (some false)) (some false)) (some false)) (some false))=cond (nN p) X (some false):=by intro X;unfold nN;cases dF p.1 0 281474976710655;rfl;cases dF p.2.1 0 281474976710655;rfl;cases dF p.2.2.1 (-1) 4095;rfl;cases dF p.2.2.2.1 0 255;rfl;cases dF p.2.2.2.2.2.1 0 255;rfl;cases dF p.2.2.2.2.1 0 65535;rfl;cases dF p.2.2.2.2.2.2.1 0 4294967295;rfl;cases dF p.2.2.2.2.2.2.2.1 0 4294967295<;>rfl
 rw[e];cases hh:nN p with|false=>rfl|true=>cases h6:p.2.2.2.2.2.2.2.2.1==6 with|false=>simp[cA]|true=>rw[Md _ (Fp (uX hh) h6)];simp only[ah,ae,cA,cT,bF]
def gw (q:K7):Bool:=dF q.1 0 130944&&(jf q.2.1&&dF q.2.2 0 (au ((au (2*q.2.1))-1)))
theorem I3 (q:K7):oQ q=some (gw q):=by simp only[oQ,dw,Ez,ae,cA,cF,gw]
def acM:ni:=((0,0,0,0,0,0,0,0,0,0,0,0,0,0,0,([]:Bytes)),0,0)
def Z7 (p:ni):Bool:=(p.1.1==0)&&((p.1.2.1==0)&&((p.1.2.2.1==0)&&((p.1.2.2.2.1==0)&&((p.1.2.2.2.2.1==0)&&((p.1.2.2.2.2.2.1==0)&&((p.1.2.2.2.2.2.2.1==0)&&((p.1.2.2.2.2.2.2.2.1==0)&&((p.1.2.2.2.2.2.2.2.2.1==0)&&((p.1.2.2.2.2.2.2.2.2.2.1==0)&&((p.1.2.2.2.2.2.2.2.2.2.2.1==0)&&((p.1.2.2.2.2.2.2.2.2.2.2.2.1==0)&&((p.1.2.2.2.2.2.2.2.2.2.2.2.2.1==0)&&((p.1.2.2.2.2.2.2.2.2.2.2.2.2.2.1==0)&&((p.1.2.2.2.2.2.2.2.2.2.2.2.2.2.2.1==0)&&((p.1.2.2.2.2.2.2.2.2.2.2.2.2.2.2.2==([]:Bytes))&&((p.2.1==0)&&((p.2.2==0)&&true)))))))))))))))))
def BP (r:bC):Bool:=(dx r.1&&(gw r.2.1&&(gw r.2.2.1&&((r.2.1.1==r.2.2.1.1)&&((r.2.1.2.1==r.2.2.1.2.1)&&dF r.2.2.2.2.2 0 1000000000000)))))&&
 (bif r.2.2.2.2.1 then cD r.2.2.2.1.1&&(dF r.2.2.2.1.2.1 0 320&&dF r.2.2.2.1.2.2 1 320) else Z7 r.2.2.2.1)
theorem afK (p:ni):Z7 p=true↔p=acM:=by obtain⟨⟨a,b,c,d,e,f,g,h,i,j,k,l,m,n,o,q⟩,r,s⟩:=p;simp only[Z7,acM,ja,ab,bm,Prod.mk.injEq,and_assoc]
theorem MM (r:bC):ux r=some (BP r):=by unfold ux BP Z7;simp only[xL,I3,dw,pS,ae,cA,cF,cT,cN,Bool.not_or,ik,bne];cases r.2.2.2.2.1<;>rfl
def dU (v:Vector):Bool:=(nf v).getD false
theorem GF (v:Vector):nf v=some (dU v):=by
 have:∃b,nf v=some b:=by simp only[nf,uF,eU,ae,cA];exact⟨_,rfl⟩
 obtain⟨b,hb⟩:=this;rw[dU,hb];rfl
theorem Ag (v:Vector):mX v=some (dU v):=GF v
theorem Jw (l:ay α)(p:α->Bool):(range l.length).all (λi=>l[i]?.all p)=l.all p:=by rw[dN,aL,aL];constructor;intro h x hx;obtain⟨i,hi,rfl⟩:=fX hx;have:=h i (cy.2 hi);rwa[aw hi]at this;intro h i hi;rw[aw (cy.1 hi)];exact h _ (bE _)
theorem YO (l:ay α)(p q:α->Bool):l.all (λx=>p x&&q x)=(l.all p&&l.all q):=by induction l with|nil=>rfl|cons x l ih=>simp only[cv,ih];cases p x<;>cases q x<;>cases l.all p<;>rfl
def jo (h:Host):dB:=[h.2.2.2.2.2.2.2.2.2.2.2.2.2.2.1,h.2.2.2.2.2.2.2.2.2.2.2.2.2.2.2.1,h.2.2.2.2.2.2.2.2.2.2.2.2.2.2.2.2.1,h.2.2.2.2.2.2.2.2.2.2.2.2.2.2.2.2.2.1,h.2.2.2.2.2.2.2.2.2.2.2.2.2.2.2.2.2.2]
def tc (h:Host):Bool:=dF (h.2.2.2.1.length:Int) 1 2&&(((h.2.2.2.2.1.length:Int)==(h.2.2.2.1.length:Int))&&(((h.2.2.2.2.2.1.length:Int)==(h.2.2.2.1.length:Int))&&((h.2.2.2.2.2.2.1.length:Int)==(h.2.2.2.1.length:Int))))
def Ve (h:Host):Bool:=h.2.2.2.1.all BP&&(h.2.2.2.2.1.all dz&&h.2.2.2.2.2.1.all dU)
def fU (h:Host):Bool:=df h.1&&(gq h.2.1&&(Od h.2.2.1&&(rz h.2.2.2.2.2.2.2.1&&(tc h&&(gA h.2.2.2.2.2.2.2.2.1 (h.2.2.2.1.length:Int)&&(Ve h&&(jo h).all (λx=>dF x 0 1000000000000)))))))
structure QP (h:Host):Prop where
 a1:h.1.length<=10^9
 a2:h.2.1.length<=10^9
 t1:h.2.2.1.2.2.1.length<=10^9
 t2:h.2.2.1.2.1.2.2.2.length+(bI h.2.2.1.2.2.1).length<=10^9
 f1:h.2.2.2.2.2.2.2.1.2.2.length<=10^9
 s1:h.2.2.2.2.2.2.2.2.1.1.length<=10^9
 s2:h.2.2.2.2.2.2.2.2.1.2.1.length<=10^9
 s3:h.2.2.2.2.2.2.2.2.1.2.2.2.length<=10^9
 p1:∀p∈h.2.2.2.2.1,p.2.2.2.length<=10^9
theorem vD {h:Host}(l:tc h=true):h.2.2.2.1.length<=2/\h.2.2.2.2.1.length=h.2.2.2.1.length/\h.2.2.2.2.2.1.length=h.2.2.2.1.length/\h.2.2.2.2.2.2.1.length=h.2.2.2.1.length:=by unfold tc at l;simp only[ab,aX,bm]at l;omega
theorem acj {T:(Int->aC R)->Int->aC R}{fin hit:aC R}{h:Host}(l:tc h=true)(hs:∀i (hi:i<h.2.2.2.1.length) nx,T nx (i:Int)=cond (!(BP h.2.2.2.1[i]&&(dz (h.2.2.2.2.1[i]'((vD l).2.1▸hi))&&dU (h.2.2.2.2.2.1[i]'((vD l).2.2.1▸hi))))) hit (nx ((i+1:Nat):Int)))(hf:∀nx,T nx (h.2.2.2.1.length:Int)=fin):bt T fuel 0=cond (Ve h) fin hit:=by
 have hl:=vD l;rw[rr (fin:=fin) (hit:=hit) (λi=>h.2.2.2.1[i]?.all BP&&(h.2.2.2.2.1[i]?.all dz&&h.2.2.2.2.2.1[i]?.all dU)) h.2.2.2.1.length (by omega) ?hs hf]
 case hs=>
  intro i nx hi
  rw[hs i hi,aw hi,aw (hl.2.1▸hi),aw (hl.2.2.1▸hi)]
  rfl
 rw[YO,YO,Jw];have e1:=Jw h.2.2.2.2.1 dz;have e2:=Jw h.2.2.2.2.2.1 dU;rw[hl.2.1]at e1;rw[hl.2.2.1]at e2;rw[e1,e2];rfl
theorem Te {T:(Int->aC R)->Int->aC R}{fin hit:aC R}(h:Host)(hs:∀i (hi:i<(jo h).length) nx,T nx (i:Int)=cond (!(dF (jo h)[i] 0 1000000000000)) hit (nx ((i+1:Nat):Int)))(hf:∀nx,T nx ((jo h).length:Int)=fin):bt T fuel 0=cond ((jo h).all (λx=>dF x 0 1000000000000)) fin hit:=pP (λx=>dF x 0 1000000000000) (jo h) (by simp[jo]) hs hf
theorem sO (h:Host)(z:QP h):iH h=some (fU h):=by
 unfold iH fU;simp only[Gn _ z.a1,Hw _ z.a2,XA _ z.t1 z.t2,MG _ z.f1,HB _ _ z.s1 z.s2 z.s3,dw,ae,cA];cases df h.1;rfl;cases gq h.2.1;rfl;cases Od h.2.2.1;rfl;cases rz h.2.2.2.2.2.2.2.1;rfl;simp only[ak,af,cT,bne];rw[show(!dF (h.2.2.2.1.length:Int) 1 2||(!((h.2.2.2.2.1.length:Int)==(h.2.2.2.1.length:Int))||(!((h.2.2.2.2.2.1.length:Int)==(h.2.2.2.1.length:Int))|| !((h.2.2.2.2.2.2.1.length:Int)==(h.2.2.2.1.length:Int)))))= !(tc h) by unfold tc;simp only[Bool.not_and]];cases hl:tc h;rfl;have hL:=vD hl;simp only[ak,af,bF];rw[acj (h:=h) (hit:=some false) (fin:=some ((jo h).all (λx=>dF x 0 1000000000000)&&gA h.2.2.2.2.2.2.2.2.1 (h.2.2.2.1.length:Int))) hl ?hs ?hf]
 case hs=>
  intro i hi nx
  simp only[vg]
  rw[mh,bS hi,bS (hL.2.1▸hi),bS (hL.2.2.1▸hi),al (n:=(i:Int)+1)]
  simp only[ah,ae,MM,Ag,xK _ (z.p1 _ (bE _)),cA,cT,Bool.not_and]
  rfl
 case hf=>
  intro nx
  simp only[vg]
  rw[du]
  simp only[af]
  refine(Te (fin:=some (gA h.2.2.2.2.2.2.2.2.1 (h.2.2.2.1.length:Int))) (hit:=some false) h ?_ ?_).trans ?_
  ·intro i hi nx
   simp only[tC]
   have wk:i<5:=hi
   change (bif decide ((i:Int)<5) then aa (idx (jo h) (i:Int)) _ else _)=_
   rw[mh,bS hi,al (n:=(i:Int)+1),ae,dw]
   rfl
  ·intro nx
   simp only[tC]
   rw[ar (by simp[jo])];rfl
  ·cases (jo h).all (λx=>dF x 0 1000000000000)<;>rfl
 cases Ve h<;>cases gA h.2.2.2.2.2.2.2.2.1 (h.2.2.2.1.length:Int)<;>cases (jo h).all (λx=>dF x 0 1000000000000)<;>rfl
theorem iU (h:n<9223372036854775808:=by omega):au (n:Int)=(n:Int):=al
theorem Iy (h:n<4294967296:=by omega):IntKind.wrap .u32 (n:Int)=(n:Int):=by simp only[au,gF,IntKind.wrap,IntKind.bits,IntKind.signed];simp;omega
theorem ns (b:UInt8):b.toNat<256:=b.toNat_lt
def aU (v:Int):Bytes:=(dA v).getD []
theorem na (v:Int):dA v=some (aU v):=by
 unfold aU;have:∃x,dA v=some x:=by simp only[dA,eU,ae];cases dF v 0 65535<;>exact⟨_,rfl⟩
 obtain⟨x,hx⟩:=this;rw[hx];rfl
theorem lK (v:Int):cx v=some (aU v):=na v
theorem Dk (v:Int):(aU v).length=bif dF v 0 65535 then 2 else 0:=by have h:=na v;simp only[dA,eU,ae]at h;cases hb:dF v 0 65535<;>rw[hb]at h<;>(rw[<-cb h];rfl)
theorem bN (v:Int):(aU v).length<=2:=by rw[Dk];cases dF v 0 65535<;>simp
def dT (v:Int):Bytes:=(gD v).getD []
theorem oY (v:Int):gD v=some (dT v):=by
 unfold dT;have:∃x,gD v=some x:=by simp only[gD,eU,ae];cases dF v 0 4294967295<;>exact⟨_,rfl⟩
 obtain⟨x,hx⟩:=this;rw[hx];rfl
theorem Ah (v:Int):ie v=some (dT v):=oY v
theorem GL (v:Int):(dT v).length=bif dF v 0 4294967295 then 4 else 0:=by have h:=oY v;simp only[gD,eU,ae]at h;cases hb:dF v 0 4294967295<;>rw[hb]at h<;>(rw[<-cb h];rfl)
theorem eQ (v:Int):(dT v).length<=4:=by rw[GL];cases dF v 0 4294967295<;>simp
def bO (s:Bytes)(i:Nat):Nat:=(s.getD i 0).toNat
theorem fB (s:Bytes)(i:Nat):bO s i<256:=ns _
theorem my (h:i<s.length:=by omega):∃x,idx s (i:Int)=some x/\x.toNat=bO s i:=⟨s[i],bS h,by rw[bO,de h]⟩
def fz (s:Bytes)(a n:Int):Bool:=decide (0<=a/\a+n<=(s.length:Int))
theorem EG (s:Bytes)(a n:Int)(h:s.length<=10^9)(hn:0<=n:=by omega):ou s a n=some (fz s a n):=by
 unfold ou fz;by_cases h0:0<=a;by_cases h1:a<=(s.length:Int)
 rw[aq (show a>=0 from h0),aq h1,al];simp only[ah,ae];congr 1;rw[decide_eq_decide];omega;rw[aq (show a>=0 from h0),ar h1,ar (show¬(0<=a/\a+n<=(s.length:Int)) by omega)];rfl;rw[ar (show¬a>=0 from h0),ar (show¬(0<=a/\a+n<=(s.length:Int)) by omega)];rfl
def cl (s:Bytes)(a:Int):Int:=bif fz s a 2 then((bO s a.toNat*256+bO s (a.toNat+1):Nat):Int) else-1
def fP (s:Bytes)(a:Int):Int:=bif fz s a 4 then(((bO s a.toNat*256+bO s (a.toNat+1))*65536+(bO s (a.toNat+2)*256+bO s (a.toNat+3)):Nat):Int) else-1
theorem Cs (s:Bytes)(a:Int)(h:s.length<=10^9):iY s a=some (cl s a):=by unfold iY cl;rw[EG s a 2 h,ae];cases hw:fz s a 2 with|false=>rfl|true=>simp only[fz,aE]at hw;obtain⟨n,rfl⟩:=az hw.1;obtain⟨x,hx,ex⟩:=my (s:=s) (i:=n);obtain⟨y,hy,ey⟩:=my (s:=s) (i:=n+1);have hxl:=fB s n;have hyl:=fB s (n+1);rw[al (n:=(n:Int)+1),hx,show(n:Int)+1=((n+1:Nat):Int) by omega,hy];simp only[ak,af,ae,aA,ah];rw[kl,ex,ey,iU,iU];have e8:nk 8=8:=rfl;rw[e8,al (n:=((bO s n:Nat):Int)*2^8),al];congr 1;all_goals omega
theorem JG (s:Bytes)(a:Int)(h:s.length<=10^9):pa s a=some (fP s a):=by
 unfold pa fP;rw[EG s a 4 h,ae];cases hw:fz s a 4 with
 |false=>rfl
 |true=>
  simp only[fz,aE]at hw;obtain⟨n,rfl⟩:=az hw.1;have w1:fz s (n:Int) 2=true:=by simp only[fz,aE];omega
  have w2:fz s ((n:Int)+2) 2=true:=by simp only[fz,aE];omega
  have b0:=fB s n;have b1:=fB s (n+1);have b2:=fB s (n+2);have b3:=fB s (n+3);rw[al (n:=(n:Int)+2),Cs s _ h,Cs s _ h];simp only[ak,af,ae,ah,cl,w1,w2,aA];rw[kl,show((n:Int)+2).toNat=n+2 by omega,show n+2+1=n+3 by omega];have e8:nk 16=16:=rfl;rw[e8,al (n:=((bO s n*256+bO s (n+1):Nat):Int)*2^16),al];congr 1;all_goals omega
theorem aqa (a b:Nat)(ha:a<9223372036854775808)(hb:b<9223372036854775808):toNat (ia (a:Int)|||ia (b:Int))=a|||b:=by show(BitVec.ofInt 64 (a:Int)|||BitVec.ofInt 64 (b:Int)).toNat=_;rw[dR,dR,BitVec.toNat_or,eJ,eJ,eR (by omega),eR (by omega)]
theorem ac6 (a b:Nat)(ha:a<9223372036854775808:=by omega)(hb:b<9223372036854775808:=by omega):toNat (ia (a:Int)&&&ia (b:Int))=a&&&b:=by show(BitVec.ofInt 64 (a:Int)&&&BitVec.ofInt 64 (b:Int)).toNat=_;rw[dR,dR,BitVec.toNat_and,eJ,eJ,eR (by omega),eR (by omega)]
theorem age (a b:Nat)(ha:a<9223372036854775808)(hb:b<9223372036854775808):toNat (ia (a:Int)^^^ia (b:Int))=a^^^b:=by show(BitVec.ofInt 64 (a:Int)^^^BitVec.ofInt 64 (b:Int)).toNat=_;rw[dR,dR,BitVec.toNat_xor,eJ,eJ,eR (by omega),eR (by omega)]
theorem akU (a b:Nat)(ha:a<4294967296)(hb:b<4294967296):toNat (BitVec.ofInt (IntKind.bits .u32) (a:Int)&&&BitVec.ofInt (IntKind.bits .u32) (b:Int))=a&&&b:=by show(BitVec.ofInt 32 (a:Int)&&&BitVec.ofInt 32 (b:Int)).toNat=_;rw[dR,dR,BitVec.toNat_and,eJ,eJ,eR (by omega),eR (by omega)]
theorem aiL (a b:Nat)(ha:a<4294967296)(hb:b<4294967296):toNat (BitVec.ofInt (IntKind.bits .u32) (a:Int)^^^BitVec.ofInt (IntKind.bits .u32) (b:Int))=a^^^b:=by show(BitVec.ofInt 32 (a:Int)^^^BitVec.ofInt 32 (b:Int)).toNat=_;rw[dR,dR,BitVec.toNat_xor,eJ,eJ,eR (by omega),eR (by omega)]
theorem Gx (x k y:Nat)(hy:y<2^k:=by omega)(h:2^k*x+y<9223372036854775808:=by omega):au (toNat (ia ((2^k*x:Nat):Int)|||ia (y:Int)):Int)=((2^k*x+y:Nat):Int):=by rw[aqa _ _ (by omega) (by omega),<-Nat.two_pow_add_eq_or_of_lt hy];exact iU h
theorem KI (s:Bytes)(a n:Int):(cond (decide (a<0)) (some true) (some (decide (a>(s.length:Int)-n))))=some (!fz s a n):=by cases hw:fz s a n with|true=>simp only[fz,aE]at hw;rw[ar (show¬a<0 by omega),ar (show¬a>(s.length:Int)-n by omega)];rfl|false=>simp only[fz,cP]at hw;by_cases h0:a<0;rw[aq h0];rfl;rw[ar h0,aq (show a>(s.length:Int)-n by omega)];rfl
theorem wH (s:Bytes)(a:Int)(h:s.length<=10^9):fS s a=some (cl s a):=by unfold fS cl;rw[al (n:=(s.length:Int)-2)];rw[KI,ae];cases hw:fz s a 2 with|false=>rfl|true=>simp only[fz,aE]at hw;obtain⟨n,rfl⟩:=az hw.1;obtain⟨x,hx,ex⟩:=my (s:=s) (i:=n);obtain⟨y,hy,ey⟩:=my (s:=s) (i:=n+1);have hxl:=fB s n;have hyl:=fB s (n+1);rw[al (n:=(n:Int)+1),hx,show(n:Int)+1=((n+1:Nat):Int) by omega,hy];simp only[ak,af,ah,ae,aA];rw[kl,ex,ey,iU (n:=bO s n),iU (n:=bO s (n+1))];have e8:nk 8=8:=rfl;rw[e8,show((bO s n:Nat):Int)*2^8=((2^8*bO s n:Nat):Int) by omega,iU (n:=2^8*bO s n),Gx (bO s n) 8 (bO s (n+1))];congr 1;all_goals omega
theorem zJ (s:Bytes)(a:Int)(h:s.length<=10^9):jq s a=some (fP s a):=by
 unfold jq fP;rw[al (n:=(s.length:Int)-4)];rw[KI,ae];cases hw:fz s a 4 with
 |false=>rfl
 |true=>
  simp only[fz,aE]at hw;obtain⟨n,rfl⟩:=az hw.1;obtain⟨x0,h0,e0⟩:=my (s:=s) (i:=n);obtain⟨x1,h1,e1⟩:=my (s:=s) (i:=n+1);obtain⟨x2,h2,e2⟩:=my (s:=s) (i:=n+2);obtain⟨x3,h3,e3⟩:=my (s:=s) (i:=n+3);have b0:=fB s n;have b1:=fB s (n+1);have b2:=fB s (n+2);have b3:=fB s (n+3)
  rw[al (n:=(n:Int)+1),al (n:=(n:Int)+2),al (n:=(n:Int)+3),h0,show(n:Int)+1=((n+1:Nat):Int) by omega,h1,
   show(n:Int)+2=((n+2:Nat):Int) by omega,h2,show(n:Int)+3=((n+3:Nat):Int) by omega,h3]
  simp only[ak,af,ah,ae,aA];rw[kl,kl,kl,e0,e1,e2,e3];generalize bO s n=p0 at*;generalize bO s (n+1)=p1 at*;generalize bO s (n+2)=p2 at*;generalize bO s (n+3)=p3 at*;have f24:nk 24=24:=rfl;have f16:nk 16=16:=rfl;have f8:nk 8=8:=rfl
  rw[iU (n:=p0),iU (n:=p1),iU (n:=p2),iU (n:=p3),f24,f16,f8,
   show((p0:Nat):Int)*2^24=((2^24*p0:Nat):Int) by omega,show((p1:Nat):Int)*2^16=((2^16*p1:Nat):Int) by omega,show((p2:Nat):Int)*2^8=((2^8*p2:Nat):Int) by omega,
   iU (n:=2^24*p0),iU (n:=2^16*p1),iU (n:=2^8*p2),Gx p0 24 (2^16*p1),
   show 2^24*p0+2^16*p1=2^16*(2^8*p0+p1) by omega,Gx _ 16 (2^8*p2),
   show 2^16*(2^8*p0+p1)+2^8*p2=2^8*(2^8*(2^8*p0+p1)+p2) by omega,Gx _ 8 p3]
  congr 1;all_goals omega
def Gc (c:Nat):Nat:=if c%2=1 then(c/2)^^^3988292384 else c/2
def uI:Nat->Nat->Nat
 |0,c=>c
 |n+1,c=>Gc (uI n c)
def aoX (c:Nat)(s:Bytes):Nat:=s.foldl (λc b=>uI 8 (c^^^b.toNat)) c
def adj (s:Bytes):Int:=4294967295-(aoX 4294967295 s:Int)
theorem Dl {a b:Nat}(ha:a<4294967296:=by omega)(hb:b<4294967296:=by omega):a^^^b<4294967296:=Nat.xor_lt_two_pow (n:=32) ha hb
theorem aau (h:c<4294967296):Gc c<4294967296:=by unfold Gc;split;exact Dl;omega
theorem G5 (h:c<4294967296):∀n,uI n c<4294967296
 |0=>h
 |n+1=>aau (G5 h n)
theorem afz (k0:Int->Int->aC R)(k:Int->aC R)(hk:∀x y,k0 x y=k x)(v0:Bytes)(v4:Int)(c:Nat)(h:c<4294967296):bt (pZ k0 v0 v4) fuel ((c:Int),0)=k (uI 8 c:Int):=by
 have B9:=eS
 have key:=HM (T:=pZ k0 v0 v4) 8 (λ(_:Unit) i=>((uI i c:Int),(i:Int))) (λ_ s nx=>nx s) (λ_=>k (uI 8 c:Int))
  (λi s nx hi=>by
   have hc:=G5 h i;simp only[pZ];have a1:=ac6 (uI i c) 1;have x1:=age (uI i c/2) 3988292384 (by omega) (by omega);simp only[Int.natCast_one]at a1
   rw[mh,ah,a1,Nat.and_one_is_mod,
    show nk 1=1 from rfl,show fdiv ((uI i c:Nat):Int) (2^1)=((uI i c/2:Nat):Int) from by rw[Int.fdiv_eq_ediv_of_nonneg _ (by omega)];rfl,
    show(3988292384:Int)=((3988292384:Nat):Int) from rfl,x1,
    iU (n:=uI i c%2),iU (n:=(uI i c/2)^^^3988292384) (by have:=Dl (a:=uI i c/2) (b:=3988292384);omega),kl,kl,al (n:=(i:Int)+1)]
   show _=nx ((Gc (uI i c):Int),((i+1:Nat):Int));unfold Gc;by_cases hp:uI i c%2=1;rw[hp,aF rfl];rfl;have h0:uI i c%2=0:=by omega
   rw[h0,kl];rfl)
  (λs nx=>by simp only[pZ];rw[du,af,hk])
  fuel 0 () (by omega) (by omega)
 refine key.trans ?_;rfl
theorem aeu (k0:Int->Int->aC R)(k:Int->aC R)(hk:∀x y,k0 x y=k x)(v0:Bytes)(v4:Int)(c:Nat)(h:c<4294967296):bt (pT k0 v0 v4) fuel ((c:Int),0)=k (uI 8 c:Int):=by
 have B9:=eS
 have key:=HM (T:=pT k0 v0 v4) 8 (λ(_:Unit) i=>((uI i c:Int),(i:Int))) (λ_ s nx=>nx s) (λ_=>k (uI 8 c:Int))
  (λi s nx hi=>by
   have hc:=G5 h i;simp only[pT];have a1:=akU (uI i c) 1 (by omega) (by omega);have x1:=aiL (uI i c/2) 3988292384 (by omega) (by omega);simp only[Int.natCast_one]at a1
   rw[mh,ah,a1,Nat.and_one_is_mod,
    show min (Int.toNat 1) (IntKind.bits .u32)=1 from rfl,show fdiv ((uI i c:Nat):Int) (2^1)=((uI i c/2:Nat):Int) from by rw[Int.fdiv_eq_ediv_of_nonneg _ (by omega)];rfl,
    show(3988292384:Int)=((3988292384:Nat):Int) from rfl,x1,
    Iy (n:=uI i c%2),Iy (n:=(uI i c/2)^^^3988292384) (Dl),kl,al (n:=(i:Int)+1)]
   show _=nx ((Gc (uI i c):Int),((i+1:Nat):Int));unfold Gc;by_cases hp:uI i c%2=1;rw[hp,aF rfl];rfl;have h0:uI i c%2=0:=by omega
   rw[h0,kl];rfl)
  (λs nx=>by simp only[pT];rw[du,af,hk])
  fuel 0 () (by omega) (by omega)
 refine key.trans ?_;rfl
theorem ahD (s:Bytes)(h:s.length<=10^9):C9 s=some (adj s):=by
 unfold C9;have:=H8 (T:=tj (λ(y4:Int) (_:Int)=>some (au (4294967295-y4))) s) s (λ(c:Nat) i=>((c:Int),(i:Int))) (λ_ c=>c<4294967296) (λb c=> .ok (uI 8 (c^^^b.toNat))) (λc=>some (4294967295-(c:Int))) (by omega) (λi hi c nx hI=>?hs) (λi hi c c' hI hg=>?hn) (λc nx hI=>?hf) 4294967295 (by omega)
 case hs=>
  have hb:=ns s[i]
  simp only[tj]
  rw[mh,bS hi,ah,ae,iU (n:=s[i].toNat),age c s[i].toNat (by omega) (by omega)]
  have hx:=Dl hI (show s[i].toNat<4294967296 by omega)
  rw[iU,afz _ (λy=>nx (y,(i:Int)+1)) (λx y=>by rw[al]) _ _ _ hx];rfl
 case hn=>
  cases hg
  exact G5 (Dl hI (by have:=ns s[i];omega)) 8
 case hf=>
  simp only[tj]
  rw[du,af,al]
 rw[Lo]at this;exact this
theorem not_xor (c:Nat)(h:c<4294967296):toNat (BitVec.ofInt (IntKind.bits .u32) (IntKind.max .u32)^^^BitVec.ofInt (IntKind.bits .u32) (c:Int))=4294967295-c:=by show(BitVec.ofInt 32 4294967295^^^BitVec.ofInt 32 (c:Int)).toNat=_;rw[show BitVec.ofInt 32 4294967295=BitVec.allOnes 32 by decide,dR,BitVec.allOnes_xor,BitVec.toNat_not,eJ,eR (show c<2^32 by omega)]
theorem agR (s:Bytes)(h:s.length<=10^9):CN s=some (adj s):=by
 unfold CN;have:=H8 (T:=sP (λ(y4:Int) (_:Int)=>some (au (IntKind.wrap .u32 (toNat (BitVec.ofInt (IntKind.bits .u32) (IntKind.max .u32)^^^BitVec.ofInt (IntKind.bits .u32) y4))))) s) s (λ(c:Nat) i=>((c:Int),(i:Int))) (λ_ c=>c<4294967296) (λb c=> .ok (uI 8 (c^^^b.toNat))) (λc=>some (4294967295-(c:Int))) (by omega) (λi hi c nx hI=>?hs) (λi hi c c' hI hg=>?hn) (λc nx hI=>?hf) 4294967295 (by omega)
 case hs=>
  have hb:=ns s[i]
  simp only[sP]
  rw[mh,bS hi,ah,ae,Iy (n:=s[i].toNat),aiL c s[i].toNat (by omega) (by omega)]
  have hx:=Dl hI (show s[i].toNat<4294967296 by omega)
  rw[Iy hx,aeu _ (λy=>nx (y,(i:Int)+1)) (λx y=>by rw[al]) _ _ _ hx];rfl
 case hn=>
  cases hg
  exact G5 (Dl hI (by have:=ns s[i];omega)) 8
 case hf=>
  simp only[sP]
  rw[du,af,not_xor c hI,Iy,iU]
  congr 1
  all_goals omega
 rw[Lo]at this;exact this
theorem LN (s:Bytes):aO (dL s)=s:=by
 unfold aO dL;rw[List.map_map];conv=>rhs;rw[<-List.map_id s]
 refine List.map_congr_left λb _=>?_;simp
theorem aeK (s t:Bytes):dL (s++t)=dL s++dL t:=cp
theorem HI (s:Bytes):(dL s).length=s.length:=cI ..
theorem SB (l:ay α)(i j:Nat)(h:i<=j)(h2:j<=l.length):sub l (i:Int) (j:Int)=some ((l.drop i).take (j-i)):=by unfold sub;rw[zip];simp[List.take_drop,Nat.add_sub_cancel' h]
theorem VJ (a k:Nat):Int.tdiv (a:Int) (k:Int)=((a/k:Nat):Int):=(Int.ofNat_tdiv a k).symm
theorem EN (a k:Nat):tmod (a:Int) (k:Int)=((a%k:Nat):Int):=(Int.ofNat_tmod a k).symm
theorem mem_iff:df m=true↔(∀x∈m,x.length=128)/\m.length<=64:=by simp only[df,ab,aL,bm,aE];constructor;rintro⟨h1,h2⟩;exact⟨λx hx=>by have:=h1 x hx;omega,by omega⟩;rintro⟨h1,h2⟩;exact⟨λx hx=>by have:=h1 x hx;omega,by omega⟩
theorem Tx:∀{m:cg},(∀x∈m,x.length=128)->m.flatten.length=128*m.length
 |[],_=>rfl
 |x::m,h=>by have:=Tx (m:=m) (λy hy=>h y (by simp[hy]));have:=h x (by simp);simp only[List.flatten_cons,aj,aS];omega
theorem Pw:∀{m:cg}(_:∀x∈m,x.length=128)(p:Nat)(hp:p<m.length)(o c:Nat),o+c<=128->(m.flatten.drop (128*p+o)).take c=(m[p].drop o).take c
 |x::m,h,0,hp,o,c,ho=>by have:=h x (by simp);simp only[List.flatten_cons,List.getElem_cons_zero];rw[List.drop_append_of_le_length (by omega),List.take_append_of_le_length (by simp;omega)];simp
 |x::m,h,p+1,hp,o,c,ho=>by have hx:=h x (by simp);simp only[List.flatten_cons,List.getElem_cons_succ];rw[show 128*(p+1)+o=x.length+(128*p+o) by omega,List.drop_length_add_append];exact Pw (m:=m) (λy hy=>h y (by simp[hy])) p (by simpa using hp) o c ho
def Bl (m:cg)(a n:Nat):Bytes:=(m.flatten.drop a).take n
theorem Jx {a:Nat}(h:df m=true)(hn:a+n<=128*m.length):(Bl m a n).length=n:=by have:=Tx (mem_iff.1 h).1;simp only[Bl,aY,aP];omega
theorem afk (m:cg)(a n:Nat):(Bl m a n).length<=n:=by simp[Bl];omega
theorem acf (m:cg)(a k c:Nat):Bl m a (k+c)=Bl m a k++Bl m (a+k) c:=by unfold Bl;rw[List.take_add,eO]
theorem Ns (h:df m=true){p:Nat}(hp:p<m.length)(ho:o+c<=128){a:Nat}(ha:a=128*p+o):(m[p].drop o).take c=Bl m a c:=by subst ha;exact(Pw (mem_iff.1 h).1 p hp o c ho).symm
def iz (m:cg)(a n:Int):Bool:=df m&&decide (0<=n/\0<=a/\a+n<=128*(m.length:Int))
theorem El (m:cg)(a n:Int)(h:m.length<=10^9):uA m a n=some (iz m a n):=by unfold uA iz;rw[Gn m h,ae,al (n:=(m.length:Int)*128)];cases hm:df m with|false=>rfl|true=>simp only[ah,bF];by_cases h1:n>=0;by_cases h2:n<=(m.length:Int)*128;rw[al (n:=(m.length:Int)*128-n)];by_cases h3:a>=0;simp only[aq h1,aq h2,aq h3,ah,ae];exact congrArg some (decide_eq_decide.2 (by omega));simp only[aq h1,aq h2,ar h3,ah,af,ae];exact congrArg some (du).symm;simp only[aq h1,ar h2,ah,af,ae];exact congrArg some (du).symm;simp only[ar h1,af,ae];exact congrArg some (du).symm
theorem Ku (m:cg)(a n:Int)(h:m.length<=10^9):ox m a n=some (iz m a n):=by unfold ox iz;rw[GC m h,ae,al (n:=128*(m.length:Int))];cases hm:df m with|false=>rfl|true=>simp only[ah,bF];by_cases h1:n>=0;by_cases h3:a>=0;by_cases h2:a<=128*(m.length:Int);rw[al (n:=128*(m.length:Int)-a)];simp only[aq h1,aq h2,aq h3,ah,ae];exact congrArg some (decide_eq_decide.2 (by omega));simp only[aq h1,ar h2,aq h3,ah,af,ae];exact congrArg some (du).symm;simp only[aq h1,ar h3,ah,af,ae];exact congrArg some (du).symm;simp only[ar h1,af,ae];exact congrArg some (du).symm
theorem Hz (hm:df m=true)(K:Int->dB->aC R):∀(n r k a f:Nat),r<=n->n<f->a+k+r<=128*m.length->
 bt (lM K ((k+r:Nat):Int) m) f (((a+k:Nat):Int),dL (Bl m a k))=K ((a+k+r:Nat):Int) (dL (Bl m a (k+r)))
 |n,r,k,a,0,_,hf,_=>by omega
 |n,0,k,a,f+1,hr,hf,hb=>by rw[bt];simp only[lM,HI,Jx hm (show a+k<=128*m.length by omega),dX];rw[du,af]
 |0,r+1,k,a,f+1,hr,hf,hb=>by omega
 |n+1,r+1,k,a,f+1,hr,hf,hb=>by
  have h64:=(mem_iff.1 hm).2;have hl:=Jx hm (show a+k<=128*m.length by omega);obtain⟨p,hp⟩:∃p,(a+k)/128=p:=⟨_,rfl⟩
  obtain⟨o,ho⟩:∃o,(a+k)%128=o:=⟨_,rfl⟩
  have hpo:a+k=128*p+o:=by omega
  have ho2:o<128:=by omega
  have DE:p<m.length:=by omega
  obtain⟨c,hc⟩:∃c,min (r+1) (128-o)=c:=⟨_,rfl⟩
  have hpg:=(mem_iff.1 hm).1 _ (bE DE);have e1:Int.tdiv ((a+k:Nat):Int) 128=(p:Int):=by rw[<-hp];exact VJ (a+k) 128
  have e2:tmod ((a+k:Nat):Int) 128=(o:Int):=by rw[<-ho];exact EN (a+k) 128
  have key:=Hz hm K n (r+1-c) (k+c) a f (by omega) (by omega) (by omega);rw[bt];simp only[lM,HI,hl,e1,e2];rw[mh,ah,kl,al (n:=(p:Int)),bS DE,ae,kl];rw[al (n:=(o:Int)+((k+(r+1):Nat):Int)),al (n:=(o:Int)+((k+(r+1):Nat):Int)-(k:Int))];rw[show(if(o:Int)+((k+(r+1):Nat):Int)-(k:Int)<128 then(o:Int)+((k+(r+1):Nat):Int)-(k:Int) else 128)=((o+c:Nat):Int) by split<;>omega];rw[SB _ _ _ (by omega) (by omega),ae,show o+c-o=c by omega,Ns hm DE (show o+c<=128 by omega) hpo];have zI:=Jx hm (show a+k+c<=128*m.length by omega);rw[zI,bg,al,<-aeK,<-acf];rw[show((a+k:Nat):Int)+(c:Int)=((a+(k+c):Nat):Int) by omega];rw[show k+c+(r+1-c)=k+(r+1) by omega,show a+(k+c)+(r+1-c)=a+k+(r+1) by omega]at key;exact key
theorem aeF (m:cg)(a n:Int)(h:m.length<=10^9):pz m a n=some (bif iz m a n then(Bl m a.toNat n.toNat,true) else([],false)):=by have B9:=eS;unfold pz;rw[El m a n h,ae];cases hw:iz m a n with|false=>rfl|true=>simp only[iz,ab,aE]at hw;obtain⟨hm,h1,h2,h3⟩:=hw;have h64:=(mem_iff.1 hm).2;simp only[ak,af,ah];rw[zip,bg];obtain⟨a,rfl⟩:=az h2;obtain⟨n,rfl⟩:=az h1;have:=Hz hm (λ(y4:Int) (y5:dB)=>some (aO y5,true)) n n 0 a fuel (by omega) (by omega) (by omega);rw[cK,dX]at this;refine Eq.trans this ?_;simp only[LN,aA]
def Gu (d p:Int)(w:Bool)(x:aG):Bool:=rb d p x&&(x.2.2.2|| !w)
def re (l:ay aG)(d p:Int)(w:Bool):Int:=match l.findIdx? (Gu d p w)with|some i=>(l.getD i KX).2.2.1|none=> -1
theorem afG (l:ay aG)(d p:Int)(w:Bool)(h:l.length<=10^9):zl l d p w=some (re l d p w):=by unfold zl re;refine Eq.trans (E5 (p:=Gu d p w) (hit:=λi=>aa (idx l i) λx=>some x.2.2.1) (fin:=some (-1)) l (by omega) (λi hi nx=>?_) (λnx=>?_)) ?_;simp only[tX];rw[mh,bS hi,al];simp only[ah,ae,Gu,rb];cases l[i].1==d<;>cases l[i].2.1==p<;>cases l[i].2.2.2<;>cases w<;>rfl;simp only[tX];rw[du];rfl;cases hf:l.findIdx? (Gu d p w)with|none=>rfl|some i=>obtain⟨hi,_⟩:=List.findIdx?_eq_some_iff_getElem.1 hf;simp only[bS hi,ae,de hi]
theorem HS (h:gq l=true)(hi:i<l.length):Jc l[i]=true/\∀j (hj:j<i),rb l[i].1 l[i].2.1 (l[j]'(by omega))=false:=by simp only[gq,ab,aL,cy]at h;have:=h.2 i hi;simp only[M0,ab,aL,cy,de hi,aN]at this;exact⟨this.1,λj hj=>by have:=this.2 j hj;rwa[de (by omega)]at this⟩
theorem Jb {p:Int}{m:aG}:rb d p m=true↔m.1=d/\m.2.1=p:=by simp[rb]
theorem aeT (h:gq l=true){p:Int}{j:Nat}(hi:i<l.length)(hj:j<l.length)(h1:rb d p l[i]=true)(h2:rb d p l[j]=true):i=j:=by have a:=Jb.1 h1;have b:=Jb.1 h2;rcases Nat.lt_trichotomy i j with h3|h3|h3;have:=(HS h hj).2 i h3;rw[b.1,b.2,h1]at this;cases this;exact h3;have:=(HS h hi).2 j h3;rw[a.1,a.2,h2]at this;cases this
theorem Nb (h:gq l=true)(d p:Int)(w:Bool)(h1:0<=re l d p w):re l d p w<=63/\0<=p/\p<=1023:=by unfold re at h1⊢;cases hf:l.findIdx? (Gu d p w)with|none=>rw[hf]at h1;simp at h1|some i=>obtain⟨hi,h2,_⟩:=List.findIdx?_eq_some_iff_getElem.1 hf;have h3:=(HS h hi).1;simp only[Gu,ab,Jb]at h2;simp only[Jc,ab,aX]at h3;simp only[de hi];omega
theorem aa7 (l:ay aG)(d:Int)(a:Nat)(w:Bool)(h:l.length<=10^9)(hm:gq l=true)(ha:a<=9223372036854775807): CR l d (a:Int) w=some (if 0<=re l d ((a/128:Nat):Int) w then re l d ((a/128:Nat):Int) w*128+((a%128:Nat):Int) else-1):=by
 have e1:Int.tdiv (a:Int) 128=((a/128:Nat):Int):=VJ a 128;have e2:tmod (a:Int) 128=((a%128:Nat):Int):=EN a 128;unfold CR;rw[du,af,kl,e1,e2,al,Ue l _ _ h,ae];generalize ((a/128:Nat):Int)=p;have uN:=Nb hm d p w;unfold UX;cases hf:l.findIdx? (rb d p)with
 |none=>
  have hn:re l d p w= -1:=by unfold re;rw[List.findIdx?_eq_none_iff]at hf;rw[List.findIdx?_eq_none_iff.2 (λx hx=>by rw[Gu,hf x hx];rfl)]
  rw[hn];rfl
 |some i=>
  obtain⟨hi,h2,h3⟩:=List.findIdx?_eq_some_iff_getElem.1 hf;simp only;rw[du,bS hi];simp only[af,ae];cases hq:l[i].2.2.2|| !w with
  |true=>
   have hF:re l d p w=l[i].2.2.1:=by unfold re;rw[List.findIdx?_eq_some_iff_getElem.2 ⟨hi,by rw[Gu,h2,hq];rfl,λj hj=>by have:=h3 j hj;rw[Gu,Bool.eq_false_iff.2 this];simp⟩];exact congrArg (λx:aG=>x.2.2.1) (de hi KX)
   have h4:=(HS hm hi).1;simp only[Jc,ab,aX]at h4
   rw[hF,aF (show 0<=l[i].2.2.1 by omega),show(aa (cond w (some (!l[i].2.2.2)) (some false)) λq3=>cond q3 (some (-1:Int)) _)=_ from by
    have:(cond w (some (!l[i].2.2.2)) (some false))=some false:=by cases w<;>cases hz:l[i].2.2.2<;>rw[hz]at hq<;>first|rfl|cases hq
    rw[this,ae,af]]
   rw[aH (show¬(128:Nat)=0 by omega),al (n:=l[i].2.2.1*128),al]
  |false=>
   have hF:re l d p w= -1:=by unfold re;rw[List.findIdx?_eq_none_iff.2 (λx hx=>by obtain⟨j,hj,rfl⟩:=fX hx;cases ZC:rb d p l[j]with|false=>rw[Gu,ZC];rfl|true=>have:=aeT hm hi hj h2 ZC;subst this;rw[Gu,hq];simp)]
   rw[hF,aH (show¬(0:Int)<= -1 by omega)];cases w with|false=>simp at hq|true=>simp only[ak,Bool.or_false]at hq;simp only[ah,hq,ae,bQ]
def kX (l:ay aG)(m:cg)(d:Int)(w:Bool):Nat->Nat->Nat->aC (ay (Int×Int))
 |0,_,_=>some []
 |n+1,a,r=>if r=0 then some [] else
  if 0<=re l d ((a/128:Nat):Int) w/\re l d ((a/128:Nat):Int) w<(m.length:Int) then
   (kX l m d w n (a+min (128-a%128) r) (r-min (128-a%128) r)).map (λq=>(re l d ((a/128:Nat):Int) w*128+((a%128:Nat):Int),((min (128-a%128) r:Nat):Int))::q)
  else none
theorem Dj (hm:df m=true){f:Int}(h0:0<=f)(hc:0<c:=by omega)(ho:o+c<=128:=by omega):iz m (f*128+(o:Int)) (c:Int)=decide (f<(m.length:Int)):=by rw[iz,hm,bF];exact decide_eq_decide.2 (by omega)
theorem VR (hm:df m=true){f:Int}(h0:0<=f):iz m (f*128) 128=decide (f<(m.length:Int)):=by rw[iz,hm,bF];exact decide_eq_decide.2 (by omega)
theorem HA (hl:gq l=true)(hL:l.length<=10^9)(hm:df m=true)(d:Int)(w:Bool):∀(n a r f:Nat)(acc:ay (Int×Int)),r<=n->n<f->acc.length+n<=1000000->a<=9223372036854775807->
 bt (qW (λ(y9:Int) (EV:Int) (EW:ay (Int×Int))=>some (EW,true)) (λ(IB:Int) (Iz:Int) (GN:ay (Int×Int)) (JO:Bool) (KM:ay (Int×Int))=>some (GN,JO)) l d w ([]:ay (Int×Int)) false m) f ((a:Int),(r:Int),acc)
  =match kX l m d w n a r with|some q=>some (acc++q,true)|none=>some ([],false)
 |n,a,r,0,acc,_,hf,_,_=>by omega
 |0,a,r,f+1,acc,hr,hf,hA,ha=>by rw[bt];simp only[qW];rw[du];simp[kX]
 |n+1,a,r,f+1,acc,hr,hf,hA,ha=>by
  have h64:=(mem_iff.1 hm).2;rw[bt];simp only[qW,kX];by_cases h0:r=0;rw[du,aF h0];simp;have e2:tmod (a:Int) 128=((a%128:Nat):Int):=EN a 128;have uN:=Nb hl d ((a/128:Nat):Int) w;rw[mh,aH h0,aa7 l d a w hL hl ha,ae,kl,e2,al (n:=128-((a%128:Nat):Int))];obtain⟨c,hc⟩:∃c,min (128-a%128) r=c:=⟨_,rfl⟩
  rw[hc,show(if 128-((a%128:Nat):Int)<(r:Int) then 128-((a%128:Nat):Int) else(r:Int))=(c:Int) by split<;>omega];generalize hP:re l d ((a/128:Nat):Int) w=P at uN⊢;by_cases hP0:0<=P;have uN:=uN hP0;simp only[aF hP0,ah];rw[ar (show¬P*128+((a%128:Nat):Int)<0 by omega),El m _ _ (by omega),Dj hm hP0];simp only[af,ae];by_cases hP1:P<(m.length:Int);rw[aq hP1,aF ⟨hP0,hP1⟩];simp only[ak,af];rw[bg (by simp;omega),al (n:=(a:Int)+(c:Int)),al (n:=(r:Int)-(c:Int)),ar (show¬(a:Int)+(c:Int)<0 by omega)];simp only[af,ae];have key:=HA hl hL hm d w n (a+c) (r-c) f (acc++[(P*128+((a%128:Nat):Int),(c:Int))]) (by omega) (by omega) (by simp;omega) (by omega);rw[show((a+c:Nat):Int)=(a:Int)+(c:Int) by omega,show((r-c:Nat):Int)=(r:Int)-(c:Int) by omega]at key;rw[key];cases kX l m d w n (a+c) (r-c)with|none=>rfl|some q=>simp
  rw[ar hP1,kl];rfl;simp only[aH hP0,ah];rw[kl,mh];rfl
theorem Ij (hl:gq l=true)(hL:l.length<=10^9)(hm:df m=true)(d:Int)(w:Bool):∀(n a r f:Nat)(acc:ay (Int×Int)),r<=n->n<f->acc.length+n<=1000000->a<=9223372036854775807->
 bt (lC (λ(EV:Int) (EW:Int) (IB:dB) (Iz:dB)=>some (IB,Iz,true)) (λ(GN:Int) (JO:Int) (KM:dB) (VT:dB) (QK:Bool) (YM:dB) (y20:dB)=>some (KM,VT,QK)) l d w ([]:dB) ([]:dB) false m) f ((a:Int),(r:Int),acc.map (·.1),acc.map (·.2))
  =match kX l m d w n a r with|some q=>some ((acc++q).map (·.1),(acc++q).map (·.2),true)|none=>some ([],[],false)
 |n,a,r,0,acc,_,hf,_,_=>by omega
 |0,a,r,f+1,acc,hr,hf,hA,ha=>by rw[bt];simp only[lC];rw[du];simp[kX]
 |n+1,a,r,f+1,acc,hr,hf,hA,ha=>by
  have h64:=(mem_iff.1 hm).2;rw[bt];simp only[lC,kX];by_cases h0:r=0;rw[du,aF h0];simp;have e1:Int.tdiv (a:Int) 128=((a/128:Nat):Int):=VJ a 128;have e2:tmod (a:Int) 128=((a%128:Nat):Int):=EN a 128;have uN:=Nb hl d ((a/128:Nat):Int) w;rw[aq (show(r:Int)>0 by omega),aq (show(a:Int)>=0 by omega),aH h0];simp only[ah];rw[kl,e1,e2,al (n:=((a/128:Nat):Int)),afG l _ _ w hL,ae,kl,al (n:=128-((a%128:Nat):Int))];obtain⟨c,hc⟩:∃c,min (128-a%128) r=c:=⟨_,rfl⟩
  rw[hc,show(if 128-((a%128:Nat):Int)<(r:Int) then 128-((a%128:Nat):Int) else(r:Int))=(c:Int) by split<;>omega];generalize hP:re l d ((a/128:Nat):Int) w=P at uN⊢;by_cases hP0:0<=P;have uN:=uN hP0;rw[ar (show¬P<0 by omega),al (n:=P*128),Ku m _ _ (by omega),VR hm hP0];simp only[af,ae];by_cases hP1:P<(m.length:Int);rw[aq hP1,aF ⟨hP0,hP1⟩];simp only[ak,af];rw[bg (by simp;omega),bg (by simp;omega),al (n:=P*128+((a%128:Nat):Int)),al (n:=(a:Int)+(c:Int)),al (n:=(r:Int)-(c:Int))];have key:=Ij hl hL hm d w n (a+c) (r-c) f (acc++[(P*128+((a%128:Nat):Int),(c:Int))]) (by omega) (by omega) (by simp;omega) (by omega);rw[show((a+c:Nat):Int)=(a:Int)+(c:Int) by omega,show((r-c:Nat):Int)=(r:Int)-(c:Int) by omega,cp,cp]at key;refine Eq.trans key ?_;cases kX l m d w n (a+c) (r-c)with|none=>rfl|some q=>simp
  rw[ar hP1,kl];rfl;rw[kl,mh];rfl
def kO (l:ay aG)(m:cg)(d a n:Int)(w:Bool):ay (Int×Int)×Bool:=
 bif gq l&&(df m&&dF n 0 4096) then
  (bif n==0 then([],true) else bif decide (a<0) then([],false) else match kX l m d w n.toNat a.toNat n.toNat with|some q=>(q,true)|none=>([],false))
 else([],false)
theorem Uh (l:ay aG)(m:cg)(d a n:Int)(w:Bool)(hl:l.length<=10^9)(hm:m.length<=10^9)(ha:a<=9223372036854775807):xQ l m d a n w=some (kO l m d a n w):=by
 have B9:=eS;unfold xQ kO;simp only[Hw l hl,Gn m hm,dw,ae];cases hB:gq l;rfl;cases hM:df m;rfl;cases hN:dF n 0 4096;rfl;have hn:=aX.1 hN;simp only[ak,af,ae,cY,ah];cases h0:n==0;case true=>rfl
 by_cases hA:a<0;rw[aq hA];rfl;rw[ar hA];simp only[af];obtain⟨a,rfl⟩:=az (show 0<=a by omega);obtain⟨n,rfl⟩:=az hn.1;rw[HA hB hl hM d w n a n fuel [] (by omega) (by omega) (by simp;omega) (by omega)];simp only[aA];cases kX l m d w n a n<;>rfl
theorem acA (l:ay aG)(m:cg)(d a n:Int)(w:Bool)(hl:l.length<=10^9)(hm:m.length<=10^9)(ha:a<=9223372036854775807):xF l m d a n w=some ((kO l m d a n w).1.map (·.1),(kO l m d a n w).1.map (·.2),(kO l m d a n w).2):=by
 have B9:=eS;unfold xF kO;simp only[Sr l hl,GC m hm,eU,ae];cases hB:gq l;rfl;cases hM:df m;rfl;cases hN:dF n 0 4096;rfl;have hn:=aX.1 hN;simp only[ak,af,ae,cY,ah];obtain⟨n,rfl⟩:=az hn.1;cases h0:((n:Int)==0)with
 |true=>
  have:n=0:=by simpa using h0
  subst this;obtain⟨f,hf⟩:∃f,fuel=f+1:=⟨fuel-1,by omega⟩
  rw[hf,bt];rfl
 |false=>
  have hn0:n≠0:=by simpa using h0
  by_cases hA:a<0;obtain⟨f,hf⟩:∃f,fuel=f+1:=⟨fuel-1,by omega⟩
  rw[aq hA,hf,bt];simp only[lC];rw[mh,du];rfl;rw[ar hA];simp only[af];obtain⟨a,rfl⟩:=az (show 0<=a by omega);refine Eq.trans (Ij hB hl hM d w n a n fuel [] (by omega) (by omega) (by simp;omega) (by omega)) ?_;simp only[aA];cases kX l m d w n a n<;>rfl
def aaj (a b:Int):Int:=(mL a b).getD 0
theorem Lp (a b:Int):mL a b=some (aaj a b):=by
 unfold aaj;have:∃x,mL a b=some x:=by simp only[mL,eU,ae];cases dF a 0 65535<;>cases dF b 0 65535<;>cases decide (au (a+b)>65535)<;>exact⟨_,rfl⟩
 obtain⟨x,hx⟩:=this;rw[hx];rfl
theorem T9 (a b:Int):yN a b=some (aaj a b):=Lp a b
theorem agr {b:Int}(h:0<=a/\a<=65535)(k:0<=b/\b<=65535):0<=aaj a b/\aaj a b<=65535:=by have e:=Lp a b;simp only[mL,eU,ae,aX.2 h,aX.2 k,ak,af]at e;rw[al (n:=a+b)]at e;by_cases hc:a+b>65535;rw[aq hc,ah,al]at e;rw[<-cb e];omega;rw[ar hc,af]at e;rw[<-cb e];omega
def sw (s:Bytes):Nat->Int
 |0=>0
 |j+1=>aaj (sw s j) ((bO s (2*j)*256+bO s (2*j+1):Nat):Int)
theorem Z8 (s:Bytes):∀j,0<=sw s j/\sw s j<=65535
 |0=>by simp[sw]
 |j+1=>by have b0:=fB s (2*j);have b1:=fB s (2*j+1);exact agr (Z8 s j) (by omega)
theorem Gb (h:s.length<=i:=by omega):bO s i=0:=by unfold bO;rw[bc,bM h];rfl
theorem ahI (s:Bytes)(h:s.length<=10^9):xC s=some (sw s ((s.length+1)/2)):=by
 unfold xC;refine fW (λj=>(sw s j,((2*j:Nat):Int))) ((s.length+1)/2) (by omega) (λj nx hj=>?_) (λnx=>?_);have b0:=fB s (2*j);have b1:=fB s (2*j+1);obtain⟨x,hx,ex⟩:=my (s:=s) (i:=2*j);simp only[sg];rw[mh,ah,hx,ae,kl,al (n:=((2*j:Nat):Int)+1),al (n:=((2*j:Nat):Int)+2),ex,iU];have e8:nk 8=8:=rfl;have en:((2*j:Nat):Int)+2=((2*(j+1):Nat):Int):=by omega
 rw[e8,al (n:=((bO s (2*j):Nat):Int)*2^8)];by_cases hc:2*j+1<s.length;obtain⟨y,hy,ey⟩:=my (s:=s) (i:=2*j+1) hc;rw[mh,ah,show((2*j:Nat):Int)+1=((2*j+1:Nat):Int) by omega,hy,ae,ey,iU (n:=bO s (2*j+1)),al,Lp,ae,en,show((bO s (2*j):Nat):Int)*2^8+((bO s (2*j+1):Nat):Int)=((bO s (2*j)*256+bO s (2*j+1):Nat):Int) by omega];rfl;have hz:=Gb (s:=s) (i:=2*j+1);rw[du,af,Lp,ae,en,show((bO s (2*j):Nat):Int)*2^8=((bO s (2*j)*256+bO s (2*j+1):Nat):Int) by rw[hz];omega];rfl;simp only[sg];rw[du];rfl
theorem agZ (s:Bytes)(h:s.length<=10^9):xp s=some (sw s ((s.length+1)/2)):=by
 unfold xp;refine fW (λj=>(sw s j,((2*j:Nat):Int))) ((s.length+1)/2) (by omega) (λj nx hj=>?_) (λnx=>?_);have b0:=fB s (2*j);have b1:=fB s (2*j+1);obtain⟨x,hx,ex⟩:=my (s:=s) (i:=2*j);simp only[rO];rw[mh,ah,hx,ae,kl,al (n:=((2*j:Nat):Int)+1),al (n:=((2*j:Nat):Int)+2),ex,iU];have e8:nk 8=8:=rfl;have en:((2*j:Nat):Int)+2=((2*(j+1):Nat):Int):=by omega
 rw[e8,show((bO s (2*j):Nat):Int)*2^8=((2^8*bO s (2*j):Nat):Int) by omega,iU (n:=2^8*bO s (2*j))];by_cases hc:2*j+1<s.length;obtain⟨y,hy,ey⟩:=my (s:=s) (i:=2*j+1) hc;rw[mh,ah,show((2*j:Nat):Int)+1=((2*j+1:Nat):Int) by omega,hy,ae,ey,iU (n:=bO s (2*j+1)),Gx (bO s (2*j)) 8 (bO s (2*j+1)),T9,ae,en,show 2^8*bO s (2*j)+bO s (2*j+1)=bO s (2*j)*256+bO s (2*j+1) by omega];rfl;have hz:=Gb (s:=s) (i:=2*j+1);rw[du,af,T9,ae,en,show((2^8*bO s (2*j):Nat):Int)=((bO s (2*j)*256+bO s (2*j+1):Nat):Int) by rw[hz];omega];rfl;simp only[rO];rw[du];rfl
def KO (s:Bytes):Int:=65535-sw s ((s.length+1)/2)
theorem Sq (s:Bytes)(h:s.length<=10^9):pY s=some (KO s):=by have:=Z8 s ((s.length+1)/2);simp only[pY,ahI s h,ae];rw[al];rfl
theorem Lk (s:Bytes)(h:s.length<=10^9):jS s=some (KO s):=by have:=Z8 s ((s.length+1)/2);simp only[jS,agZ s h,ae];rw[al];rfl
def vJ (s:Bytes)(a:Int)(p:Bytes):Bytes:=bif fz s a (p.length:Int) then(s.take a.toNat++p)++s.drop (a.toNat+p.length) else s
theorem xX (s:Bytes)(a:Int)(p:Bytes):(vJ s a p).length=s.length:=by unfold vJ;cases hw:fz s a (p.length:Int)with|false=>rfl|true=>simp only[fz,aE]at hw;simp only[ah,aj,aY,aP];omega
theorem Va (s:Bytes)(a:Int)(p:Bytes)(h:s.length<=10^9)(hw:fz s a (p.length:Int)=true): (aa (sub s 0 a) λx2=>room (List.length x2+List.length p) (aa (sub s (au (a+((List.length p:Int)))) ((List.length s:Int))) λx3=>room (List.length (x2++p)+List.length x3) (some ((x2++p)++x3))))=some (vJ s a p):=by
 have hw':=hw;simp only[fz,aE]at hw';obtain⟨n,rfl⟩:=az hw'.1;have e1:sub s 0 (n:Int)=some (s.take n):=by unfold sub;rw[zip];rfl
 have e2:sub s (((n+p.length:Nat):Int)) (s.length:Int)=some (s.drop (n+p.length)):=by unfold sub;rw[zip,aA,aA,eF]
 rw[e1,al,show(n:Int)+(p.length:Int)=((n+p.length:Nat):Int) by omega,e2,ae,bg (by simp only[aY];omega),ae,bg (by simp only[aj,aY,aP];omega)];unfold vJ;rw[hw];rfl
theorem Ii (s:Bytes)(a:Int)(p:Bytes)(h:s.length<=10^9:=by omega):jk s a p=some (vJ s a p):=by unfold jk;rw[EG s a _ h,ae];cases hw:fz s a (p.length:Int)with|false=>simp only[bQ,ah,vJ,hw,af]|true=>exact Va s a p h hw
theorem CL (s:Bytes)(a:Int)(p:Bytes)(h:s.length<=10^9:=by omega)(hp:p.length<=10^9:=by omega):gB s a p=some (vJ s a p):=by
 unfold gB;rw[al (n:=(s.length:Int)-(p.length:Int))];cases hw:fz s a (p.length:Int)with
 |true=>have hw':=hw;simp only[fz,aE]at hw';rw[ar (show¬a<0 by omega),ar (show¬a>(s.length:Int)-(p.length:Int) by omega)];exact Va s a p h hw
 |false=>
  have hp:vJ s a p=s:=by unfold vJ;rw[hw];rfl
  rw[hp];simp only[fz,cP]at hw;by_cases h0:a<0;rw[aq h0];rfl;rw[ar h0,aq (show a>(s.length:Int)-(p.length:Int) by omega)];rfl
def bs2 (x y:Int):Bytes:=aO [x,y]
theorem QY (x y:Int):(bs2 x y).length=2:=rfl
def xt (a b k n:Int):Bool:=dF a 0 4294967295&&(dF b 0 4294967295&&(dF k 0 255&&dF n 0 65535))
def vI (a b k n:Int):Bytes:=((dT a++dT b)++bs2 0 (gF k))++aU n
theorem Js (a b k n:Int):(vI a b k n).length<=12:=by have:=eQ a;have:=eQ b;have:=bN n;simp only[vI,aj,QY];omega
theorem GD (a b k n:Int):mM a b k n=some (bif xt a b k n then(vI a b k n,true) else([],false)):=by have:=eQ a;have:=eQ b;have:=bN n;unfold mM xt;simp only[eU,ae,oY,na];cases dF a 0 4294967295;rfl;cases dF b 0 4294967295;rfl;cases dF k 0 255;rfl;cases dF n 0 65535;rfl;simp only[ak,af,cY,ah,ae];have e:(aO [0,gF k]).length=2:=rfl;rw[bg,bg (by simp only[aj,e];omega),bg (by simp only[aj,e];omega)];rfl
theorem ML (a b k n:Int):qv a b k n=some (bif xt a b k n then(vI a b k n,true) else([],false)):=GD a b k n
def bare (g:eY):Bytes:=bif g.1==6 then
    (((((aU g.2.1++aU g.2.2.1)++dT g.2.2.2.1)++dT g.2.2.2.2.1)++bs2 80 (gF g.2.2.2.2.2.1))++aU g.2.2.2.2.2.2.1)++dT 0++g.2.2.2.2.2.2.2
 else(((aU g.2.1++aU g.2.2.1)++aU (8+(g.2.2.2.2.2.2.2.length:Int)))++aU 0)++g.2.2.2.2.2.2.2
theorem K8 (g:eY):(bare g).length<=20+g.2.2.2.2.2.2.2.length:=by have:=bN g.2.1;have:=bN g.2.2.1;have:=eQ g.2.2.2.1;have:=eQ g.2.2.2.2.1;have:=bN g.2.2.2.2.2.2.1;have:=eQ 0;have:=bN 0;have:=bN (8+(g.2.2.2.2.2.2.2.length:Int));unfold bare;cases g.1==6<;>simp only[ah,af,aj,QY]<;>omega
theorem QJ:aU 0++aU 0=dT 0:=by rfl
theorem aet (g:eY)(h:g.2.2.2.2.2.2.2.length<=1000000):rU g=some (bare g):=by have:=bN g.2.1;have:=bN g.2.2.1;have:=eQ g.2.2.2.1;have:=eQ g.2.2.2.2.1;have:=bN g.2.2.2.2.2.2.1;have:=bN 0;have:=bN (8+(g.2.2.2.2.2.2.2.length:Int));have e:∀x,(aO [80,gF x]).length=2:=λ_=>rfl;unfold rU bare;rw[al (n:=8+(g.2.2.2.2.2.2.2.length:Int))];simp only[lK,Ah,ae];rw[bg];cases g.1==6 with|true=>simp only[ah];rw[bg (by simp only[aj,e];omega),bg (by simp only[aj,e];omega),bg (by simp only[aj,e];omega),bg (by simp only[aj,e];omega),bg (by simp only[aj,e];omega),bg (by simp only[aj,e];omega),bg (by simp only[aj,e];omega)];rw[<-QJ];simp only[bs2,aD]|false=>simp only[af];rw[bg (by simp only[aj];omega),bg (by simp only[aj];omega),bg (by simp only[aj];omega)]
def QB (a b:Int)(g:eY):Int:=bif (KO (vI a b g.1 ((bare g).length:Int)++bare g)==0)&&(g.1==17) then 65535 else KO (vI a b g.1 ((bare g).length:Int)++bare g)
def Bn (a b:Int)(g:eY):Bytes:=vJ (bare g) (bif g.1==6 then 16 else 6) (aU (QB a b g))
def C8 (a b:Int)(g:eY):Bool:=qK g&&xt a b g.1 ((bare g).length:Int)
def yo (a b:Int)(g:eY):Bytes×Bool:=bif C8 a b g then(Bn a b g,true) else([],false)
theorem Cr {g:eY}(h:qK g=true):g.2.2.2.2.2.2.2.length<=320:=by simp only[qK,ab,aN,cP]at h;omega
theorem EF (a b:Int)(g:eY):kz a b g=some (yo a b g):=by
 unfold kz yo C8;rw[Z3,ae];cases hg:qK g;rfl;have hb:=Cr hg;have hl:=K8 g;have hp:=Js a b g.1 ((bare g).length:Int);have:=bN g.2.1;have:=bN g.2.2.1;have:=eQ g.2.2.2.1;have:=eQ g.2.2.2.2.1;have:=bN g.2.2.2.2.2.2.1;have:=eQ 0;have:=bN 0;have:=bN (8+(g.2.2.2.2.2.2.2.length:Int));have e:∀x,(aO [80,gF x]).length=2:=λ_=>rfl;rw[al (n:=8+(g.2.2.2.2.2.2.2.length:Int))];simp only[na,oY,ae,ak,af,bF];rw[bg];cases h6:g.1==6 with
 |true=>
  have aea:bare g=(((((aU g.2.1++aU g.2.2.1)++dT g.2.2.2.1)++dT g.2.2.2.2.1)++aO [80,gF g.2.2.2.2.2.1])++aU g.2.2.2.2.2.2.1)++dT 0++g.2.2.2.2.2.2.2:=by unfold bare;rw[h6];rfl
  simp only[ah];rw[bg (by simp only[aj,e];omega),bg (by simp only[aj,e];omega),bg (by simp only[aj,e];omega),bg (by simp only[aj,e];omega),bg (by simp only[aj,e];omega),bg (by simp only[aj,e];omega),<-aea,GD,ae];cases xt a b g.1 ((bare g).length:Int);rfl;simp only[ah,ak,af];rw[bg,Sq _ (by simp only[aj];omega)];simp only[ae,cA,Ii _ _ _ (show(bare g).length<=10^9 by omega),Bn,QB,h6,ah,cF];cases (KO (vI a b g.1 ((bare g).length:Int)++bare g)==0)&&(g.1==17)<;>rfl
 |false=>
  have aea:bare g=(((aU g.2.1++aU g.2.2.1)++aU (8+(g.2.2.2.2.2.2.2.length:Int)))++aU 0)++g.2.2.2.2.2.2.2:=by unfold bare;rw[h6];rfl
  simp only[af];rw[bg (by simp only[aj];omega),bg (by simp only[aj];omega),bg (by simp only[aj];omega),<-aea,GD,ae];cases xt a b g.1 ((bare g).length:Int);rfl;simp only[ah,ak,af];rw[bg,Sq _ (by simp only[aj];omega)];simp only[ae,cA,Ii _ _ _ (show(bare g).length<=10^9 by omega),Bn,QB,h6,af,cF];cases (KO (vI a b g.1 ((bare g).length:Int)++bare g)==0)&&(g.1==17)<;>rfl
theorem Ek (a b:Int)(g:eY):kt a b g=some (yo a b g):=by
 unfold kt yo C8;rw[ZG,ae];cases hg:qK g;rfl;have hb:=Cr hg;have hl:=K8 g;have hp:=Js a b g.1 ((bare g).length:Int);have IY:gn g.1=some (bif g.1==6 then 16 else 6):=by unfold gn;rw[cA]
 have w1:=bN 65535;have w2:=bN (KO (vI a b g.1 ((bare g).length:Int)++bare g));simp only[aet g (by omega),ML,ae,ak,af,bF];cases xt a b g.1 ((bare g).length:Int);rfl;simp only[ah,ak,af];rw[bg,Lk _ (by simp only[aj];omega)];simp only[ae,cA,IY,lK,CL _ _ _ (show(bare g).length<=10^9 by omega) (show(aU 65535).length<=10^9 by omega),CL _ _ _ (show(bare g).length<=10^9 by omega) (show(aU (KO (vI a b g.1 ((bare g).length:Int)++bare g))).length<=10^9 by omega),Bn,QB,cF];rw[Bool.and_comm];cases (KO (vI a b g.1 ((bare g).length:Int)++bare g)==0)&&(g.1==17)<;>rfl
theorem Z0 (a b:Int)(g:eY):(yo a b g).1.length<=340:=by unfold yo;cases h:C8 a b g with|false=>exact cq _|true=>simp only[C8,ab]at h;have:=Cr h.1;have:=K8 g;show(vJ _ _ _).length<=340;rw[xX];omega
theorem gK (a:cg)(h:a.length<=1073741824:=by omega):dG a=some a:=by simp only[dG,lA];rw[bg (by simpa using h)];rfl
theorem CV (a:cg)(h:a.length<=1073741824:=by omega):mP a=some a:=by simp only[mP];rw[bg (by simpa using h)];rfl
def yE (x:Bytes)(o:Nat)(t:Bytes):Bytes:=x.take o++(t++x.drop (o+t.length))
theorem Qc (h:o+t.length<=x.length):(yE x o t).length=x.length:=by simp only[yE,aj,aY,aP];omega
theorem ab0 (x:Bytes)(o:Nat)(t:Bytes):aO (Cm (dL x) o (dL t))=yE x o t:=by
 have e:Cm (dL x) o (dL t)=dL (yE x o t):=by simp only[Cm,yE,dL,cp,List.map_take,List.map_drop,cI]
 rw[e,LN]
theorem afg (h:o+t.length<=x.length):vJ x (o:Int) t=yE x o t:=by unfold vJ fz;rw[aq ⟨by omega,by omega⟩];simp only[ah,aA,yE,aD]
def wj:Nat->cg->Nat->Bytes->cg
 |0,m,_,_=>m
 |n+1,m,a,s=>if s.length=0 then m else
  wj n (m.set (a/128) (yE (m.getD (a/128) []) (a%128) (s.take (128-a%128)))) (a+min (128-a%128) s.length) (s.drop (128-a%128))
def CZ (m:cg):Prop:=(∀x∈m,x.length=128)/\m.length<=64
theorem od:df m=true↔CZ m:=mem_iff
theorem Jn {p:Nat}(h:CZ m)(hx:x.length=128):CZ (m.set p x):=by refine⟨λy hy=>?_,by rw[aK];exact h.2⟩;rcases List.mem_or_eq_of_mem_set hy with g|g;exact h.1 y g;rw[g];exact hx
theorem GM (h:CZ m){a:Nat}(hs:s.length≠0)(ha:a+s.length<=128*m.length): ∃(hp:a/128<m.length),(m[a/128]'hp).length=128/\(yE (m[a/128]'hp) (a%128) (s.take (128-a%128))).length=128:=by
 have hp:a/128<m.length:=by omega
 have hl:=h.1 _ (bE hp);refine⟨hp,hl,?_⟩;rw[Qc (by rw[aY,hl];omega),hl]
theorem zE:∀(n:Nat){m:cg}{a:Nat}{s:Bytes},CZ m->a+s.length<=128*m.length->CZ (wj n m a s)/\(wj n m a s).length=m.length
 |0,m,a,s,h,_=>⟨h,rfl⟩
 |n+1,m,a,s,h,ha=>by rw[wj];split;exact⟨h,rfl⟩;rename_i hs;obtain⟨hp,hl,ho⟩:=GM h hs ha;rw[de hp];have:=zE n (m:=m.set (a/128) (yE m[a/128] (a%128) (s.take (128-a%128)))) (a:=a+min (128-a%128) s.length) (s:=s.drop (128-a%128)) (Jn h ho) (by rw[aK,aP];omega);rw[aK]at this;exact this
theorem FU (K:Int->Bytes->cg->aC R)(K':cg->aC R)(hK:∀a m,K a [] m=K' m):∀(n:Nat)(m:cg)(a:Nat)(s:Bytes)(f:Nat),s.length<=n->n<f->CZ m->a+s.length<=128*m.length->
 bt (nA K ([]:cg)) f ((a:Int),s,m)=K' (wj n m a s)
 |n,m,a,s,0,_,hf,_,_=>by omega
 |n,m,a,s,f+1,hs,hf,hm,ha=>by
  rw[bt];simp only[nA];by_cases h0:s.length=0;have:s=[]:=bZ h0;subst this;rw[ar (by simp),af,hK];cases n<;>simp[wj];cases n with
  |zero=>omega
  |succ n=>
   obtain⟨hp,hl,ho⟩:=GM hm h0 ha;have h64:=hm.2;have e1:Int.tdiv (a:Int) 128=((a/128:Nat):Int):=VJ a 128;have e2:tmod (a:Int) 128=((a%128:Nat):Int):=EN a 128;rw[mh,ah,kl,e1,e2,al (n:=((a/128:Nat):Int)),bS hp,ae,bg,kl];have qc:sub (dL m[a/128]) ((a%128:Nat):Int) ((dL m[a/128]).length:Int)=some ((dL m[a/128]).drop (a%128)):=by rw[SB _ _ _ (by rw[HI];omega) (aV _),bU (by rw[aP];exact aV _)]
   rw[qc,ae,kl,ae,ae];have hd:((dL m[a/128]).drop (a%128)).length=128-a%128:=by rw[aP,HI,hl]
   rw[hd];have hdr:s.drop (min (128-a%128) s.length)=s.drop (128-a%128):=by by_cases h3:128-a%128<=s.length;rw[iX h3];rw[Nat.min_eq_right (by omega),cB (aV _),cB (by omega)]
   have als:sub s (((min (128-a%128) s.length:Nat)):Int) ((s.length:Int))=some (s.drop (128-a%128)):=by rw[<-hdr];unfold sub;rw[zip];simp
   rw[als,ae,al (n:=(a:Int)+((min (128-a%128) s.length:Nat):Int)),aA,aA,ab0];rw[wj,aH h0,de hp,show(a:Int)+((min (128-a%128) s.length:Nat):Int)=((a+min (128-a%128) s.length:Nat):Int) by omega];exact FU K K' hK n _ _ _ f (by rw[aP];omega) (by omega) (Jn hm ho) (by rw[aK,aP];omega)
theorem F1 (K:Int->Bytes->cg->aC R)(K':cg->aC R)(hK:∀a m,K a [] m=K' m):∀(n:Nat)(m:cg)(a:Nat)(s:Bytes)(f:Nat),s.length<=n->n<f->CZ m->a+s.length<=128*m.length->
 bt (nH K ([]:cg)) f ((a:Int),s,m)=K' (wj n m a s)
 |n,m,a,s,0,_,hf,_,_=>by omega
 |n,m,a,s,f+1,hs,hf,hm,ha=>by
  rw[bt];simp only[nH];by_cases h0:s.length=0;have:s=[]:=bZ h0;subst this;rw[ar (by simp),af,hK];cases n<;>simp[wj];cases n with
  |zero=>omega
  |succ n=>
   obtain⟨hp,hl,ho⟩:=GM hm h0 ha;have h64:=hm.2;have e1:Int.tdiv (a:Int) 128=((a/128:Nat):Int):=VJ a 128;have e2:tmod (a:Int) 128=((a%128:Nat):Int):=EN a 128;rw[mh,ah,kl,kl,kl,e1,e2,al (n:=((a/128:Nat):Int)),al (n:=128-((a%128:Nat):Int)),bS hp,ae];obtain⟨c,hc⟩:∃c,min (128-a%128) s.length=c:=⟨_,rfl⟩
   rw[show(if 128-((a%128:Nat):Int)<(s.length:Int) then 128-((a%128:Nat):Int) else(s.length:Int))=(c:Int) by split<;>omega];have ht:s.take c=s.take (128-a%128):=by by_cases h3:128-a%128<=s.length;rw[<-hc,iX h3];rw[<-hc,Nat.min_eq_right (by omega),bU (aV _),bU (by omega)]
   have hdr:s.drop c=s.drop (128-a%128):=by by_cases h3:128-a%128<=s.length;rw[<-hc,iX h3];rw[<-hc,Nat.min_eq_right (by omega),cB (aV _),cB (by omega)]
   have hs1:sub s 0 (c:Int)=some (s.take (128-a%128)):=by rw[<-ht];unfold sub;rw[zip];simp
   have hs2:sub s (c:Int) (s.length:Int)=some (s.drop (128-a%128)):=by rw[<-hdr];unfold sub;rw[zip];simp
   rw[hs1,ae,Ii _ _ _,ae,ae,ae,hs2,ae,afg (by rw[aY,hl];omega),al (n:=(a:Int)+(c:Int)),aA];rw[wj,aH h0,de hp,hc,show(a:Int)+(c:Int)=((a+c:Nat):Int) by omega];exact F1 K K' hK n _ _ _ f (by rw[aP];omega) (by omega) (Jn hm ho) (by rw[aK,aP];omega)
def mQ (m:cg)(a:Int)(s:Bytes):cg×Bool:=bif iz m a (s.length:Int) then(wj s.length m a.toNat s,true) else(m,false)
theorem XB (m:cg)(a:Int)(s:Bytes)(h:m.length<=10^9)(hs:s.length<=10^9):rT m a s=some (mQ m a s):=by have B9:=eS;unfold rT mQ;rw[gK m,ae,El m _ _ h,ae];cases hw:iz m a (s.length:Int);rfl;simp only[iz,ab,aE]at hw;obtain⟨a,rfl⟩:=az hw.2.2.1;simp only[ak,af,ah,aA];exact FU _ (λm=>some (m,true)) (λ_ _=>rfl) s.length m a s fuel (aV _) (by omega) (od.1 hw.1) (by omega)
theorem Yv (m:cg)(a:Int)(s:Bytes)(h:m.length<=10^9)(hs:s.length<=10^9):sk m a s=some (mQ m a s):=by have B9:=eS;unfold sk mQ;rw[CV m,ae,Ku m _ _ h,ae];cases hw:iz m a (s.length:Int);rfl;simp only[iz,ab,aE]at hw;obtain⟨a,rfl⟩:=az hw.2.2.1;simp only[ak,af,ah,aA];exact F1 _ (λm=>some (m,true)) (λ_ _=>rfl) s.length m a s fuel (aV _) (by omega) (od.1 hw.1) (by omega)
theorem EU (m:cg)(a:Int)(s:Bytes):(mQ m a s).1.length=m.length:=by unfold mQ;cases hw:iz m a (s.length:Int);rfl;simp only[iz,ab,aE]at hw;exact(zE s.length (od.1 hw.1) (by omega)).2
def FF:ay (Int×Int)->cg->Bytes->cg
 |[],m,_=>m
 |p::q,m,s=>FF q (mQ m p.1 (s.take p.2.toNat)).1 (s.drop p.2.toNat)
theorem U6:∀(q:ay (Int×Int))(m:cg)(s:Bytes),(FF q m s).length=m.length
 |[],m,s=>rfl
 |p::q,m,s=>by rw[FF,U6 q,EU]
def K6 (q:ay (Int×Int)):Int:=(q.map (·.2)).sum
theorem Z6:∀(q:ay (Int×Int)),(∀p∈q,0<=p.2)->0<=K6 q
 |[],_=>eT _
 |p::q,h=>by have:=Z6 q (λx hx=>h x (by simp[hx]));have:=h p (by simp);simp only[K6,cZ,List.sum_cons]at*;omega
theorem Vb {p:Int×Int}{q:ay (Int×Int)}(hc:∀x∈p::q,0<=x.2)(hs:(s.length:Int)=K6 (p::q)):0<=p.2/\p.2<=(s.length:Int)/\((s.drop p.2.toNat).length:Int)=K6 q:=by
 have h1:=hc p (by simp);have h2:=Z6 q (λx hx=>hc x (by simp[hx]));have h3:K6 (p::q)=p.2+K6 q:=by simp[K6]
 rw[h3]at hs;refine⟨h1,by omega,?_⟩;rw[aP];omega
theorem QA {c:Int}(h0:0<=c)(h1:c<=(s.length:Int)):sub s 0 c=some (s.take c.toNat):=by unfold sub;rw[zip];simp
theorem VD {c:Int}(h0:0<=c)(h1:c<=(s.length:Int)):sub s c (s.length:Int)=some (s.drop c.toNat):=by unfold sub;rw[zip];simp
theorem J9 (K:Bytes->Int->cg->aC (cg×Bool))(hK:∀s i m,K s i m=some (m,true)):∀(rest pre:ay (Int×Int))(m:cg)(s:Bytes)(f:Nat),rest.length<f->pre.length+rest.length<=1000000->(∀x∈rest,0<=x.2)->(s.length:Int)=K6 rest->m.length<=10^9->s.length<=1000000->
 bt (xP K (pre++rest) ((pre++rest).length:Int) ([]:cg)) f (s,(pre.length:Int),m)=some (FF rest m s,true)
 |rest,pre,m,s,0,hf,_,_,_,_,_=>by omega
 |[],pre,m,s,f+1,_,_,_,_,_,_=>by rw[bt];simp only[xP];rw[ar (by simp),af,hK];rfl
 |p::q,pre,m,s,f+1,hf,hn,hc,hs,hm,hl=>by
  obtain⟨h1,h2,h3⟩:=Vb hc hs;simp only[aS]at hf hn;have hi:pre.length<(pre++p::q).length:=by simp
  have hp:(pre++p::q)[pre.length]=p:=by simp
  rw[bt];simp only[xP];rw[aq (by simp;omega),bS hi,hp,al];simp only[ah,ae,QA h1 h2,VD h1 h2,XB m _ _ hm (show(s.take p.2.toNat).length<=10^9 by rw[aY];omega)];have key:=J9 K hK q (pre++[p]) (mQ m p.1 (s.take p.2.toNat)).1 (s.drop p.2.toNat) f (by omega) (by simp;omega) (λx hx=>hc x (by simp[hx])) h3 (by rw[EU];exact hm) (by rw[aP];omega);have el:((pre++[p]).length:Int)=(pre.length:Int)+1:=by simp
  rw[aD,gk,el]at key;rw[FF];exact key
theorem Kt (K:Bytes->Int->cg->aC (cg×Bool))(hK:∀s i m,K s i m=some (m,true)):∀(rest pre:ay (Int×Int))(m:cg)(s:Bytes)(f:Nat),rest.length<f->pre.length+rest.length<=1000000->(∀x∈rest,0<=x.2)->(s.length:Int)=K6 rest->m.length<=10^9->s.length<=1000000->
 bt (oo K ((pre++rest).map (·.1)) ((pre++rest).map (·.2)) ([]:cg)) f (s,(pre.length:Int),m)=some (FF rest m s,true)
 |rest,pre,m,s,0,hf,_,_,_,_,_=>by omega
 |[],pre,m,s,f+1,_,_,_,_,_,_=>by rw[bt];simp only[oo];rw[ar (by simp),af,hK];rfl
 |p::q,pre,m,s,f+1,hf,hn,hc,hs,hm,hl=>by
  obtain⟨h1,h2,h3⟩:=Vb hc hs;simp only[aS]at hf hn;have hi:pre.length<(pre++p::q).length:=by simp
  have hp:(pre++p::q)[pre.length]=p:=by simp
  have i1:idx ((pre++p::q).map (·.1)) (pre.length:Int)=some p.1:=by rw[bS (by simp),List.getElem_map,hp]
  have i2:idx ((pre++p::q).map (·.2)) (pre.length:Int)=some p.2:=by rw[bS (by simp),List.getElem_map,hp]
  rw[bt];simp only[oo];rw[aq (by simp;omega),i1,i2,al];simp only[ah,ae,QA h1 h2,VD h1 h2,Yv m _ _ hm (show(s.take p.2.toNat).length<=10^9 by rw[aY];omega)];have key:=Kt K hK q (pre++[p]) (mQ m p.1 (s.take p.2.toNat)).1 (s.drop p.2.toNat) f (by omega) (by simp;omega) (λx hx=>hc x (by simp[hx])) h3 (by rw[EU];exact hm) (by rw[aP];omega);have el:((pre++[p]).length:Int)=(pre.length:Int)+1:=by simp
  rw[aD,gk,el]at key;rw[FF];exact key
theorem Ng (l:ay aG)(m:cg)(d:Int)(w:Bool):∀(n a r:Nat)(q:ay (Int×Int)),r<=n->kX l m d w n a r=some q->K6 q=(r:Int)/\(∀p∈q,0<=p.2)/\q.length<=n
 |0,a,r,q,hr,h=>by simp only[kX,bu]at h;subst h;exact⟨by show(0:Int)=_;omega,by simp,by simp⟩
 |n+1,a,r,q,hr,h=>by simp only[kX]at h;split at h;simp only[bu]at h;subst h;exact⟨by show(0:Int)=_;omega,by simp,by simp⟩;split at h;simp only[Option.map_eq_some_iff]at h;obtain⟨q',h1,rfl⟩:=h;obtain⟨i1,i2,i3⟩:=Ng l m d w n _ _ q' (by omega) h1;refine⟨?_,?_,by simp only[aS];omega⟩;simp only[K6,cZ,List.sum_cons]at i1⊢;rw[i1];omega;intro p hp;rcases cw.1 hp with rfl|hp;show(0:Int)<=((min (128-a%128) r:Nat):Int);omega;exact i2 p hp;cases h
theorem Qr (l:ay aG)(m:cg)(d a n:Int)(w:Bool)(h:(kO l m d a n w).2=true):K6 (kO l m d a n w).1=n/\(∀p∈(kO l m d a n w).1,0<=p.2)/\(kO l m d a n w).1.length<=4096/\n<=4096:=by
 unfold kO at h⊢;cases hB:gq l&&(df m&&dF n 0 4096)with|false=>rw[hB]at h;simp at h|true=>?_
 rw[hB]at h;simp only[ab,aX]at hB;simp only[ah]at h⊢;cases h0:n==0 with
 |true=>
  have:n=0:=by simpa using h0
  subst this;exact⟨rfl,by simp,by simp,by omega⟩
 |false=>rw[h0]at h;simp only[af]at h⊢;cases ha:decide (a<0)with|true=>rw[ha]at h;simp at h|false=>rw[ha]at h;simp only[af]at h⊢;cases hq:kX l m d w n.toNat a.toNat n.toNat with|none=>rw[hq]at h;cases h|some q=>obtain⟨i1,i2,i3⟩:=Ng l m d w _ _ _ q (aV _) hq;exact⟨by simp only;rw[i1];omega,i2,by simp only;omega,by omega⟩
def gT (l:ay aG)(m:cg)(d a:Int)(s:Bytes)(w:Bool):cg×Bool:=
 bif (kO l m d a (s.length:Int) w).2 then(FF (kO l m d a (s.length:Int) w).1 m s,true) else(m,false)
theorem lR (l:ay aG)(m:cg)(d a:Int)(s:Bytes)(w:Bool):(gT l m d a s w).1.length=m.length:=by unfold gT;cases (kO l m d a (s.length:Int) w).2 with|false=>rfl|true=>exact U6 _ _ _
theorem Ug (l:ay aG)(m:cg)(d a:Int)(s:Bytes)(w:Bool)(hl:l.length<=10^9)(hm:m.length<=10^9)(ha:a<=9223372036854775807):Eo l m d a s w=some (gT l m d a s w):=by have B9:=eS;unfold Eo gT;rw[gK m,ae,Uh l m d a _ w hl hm ha,ae];have hS:=Qr l m d a (s.length:Int) w;generalize kO l m d a (s.length:Int) w=r at hS⊢;cases hr:r.2;rfl;obtain⟨h1,h2,h3,h4⟩:=hS hr;simp only[ak,af,ah];exact J9 _ (λ_ _ _=>rfl) r.1 [] m s fuel (by omega) (by simp;omega) h2 h1.symm hm (by omega)
theorem Ie (l:ay aG)(m:cg)(d a:Int)(s:Bytes)(hl:l.length<=10^9)(hm:m.length<=10^9)(ha:a<=9223372036854775807):tn l m d a s=some (gT l m d a s true):=by have B9:=eS;unfold tn gT;rw[acA l m d a _ true hl hm ha,ae,CV m,ae];have hS:=Qr l m d a (s.length:Int) true;generalize kO l m d a (s.length:Int) true=r at hS⊢;cases hr:r.2;rfl;obtain⟨h1,h2,h3,h4⟩:=hS hr;simp only[ak,af,ah];exact Kt _ (λ_ _ _=>rfl) r.1 [] m s fuel (by omega) (by simp;omega) h2 h1.symm hm (by omega)
theorem CJ (l:ay aG)(m:cg)(d a:Int)(s:Bytes)(hl:l.length<=10^9)(hm:m.length<=10^9)(ha:a<=9223372036854775807):pU l m d a s=some (gT l m d a s true):=by rw[pU,Ug l m d a s true hl hm ha];rfl
def wrM (x:aG):aG:=(x.1,x.2.1,x.2.2.1,true)
theorem getD_map (hi:i<l.length):(l.map wrM).getD i KX=wrM (l.getD i KX):=by rw[de (by simpa using hi),de hi,List.getElem_map]
theorem R4 (l:ay aG):gq (l.map wrM)=gq l:=by
 unfold gq;rw[cI];congr 1;rw[dN,aL,aL];have key:∀i,i<l.length->M0 (l.map wrM) i=M0 l i:=by
  intro i hi;unfold M0;rw[getD_map hi];congr 1;rw[dN,aL,aL];constructor;intro h j hj;have hjl:j<l.length:=by have:=cy.1 hj;omega
  have:=h j hj;rw[getD_map hjl]at this;exact this;intro h j hj;have hjl:j<l.length:=by have:=cy.1 hj;omega
  rw[getD_map hjl];exact h j hj
 constructor;intro h i hi;rw[<-key i (cy.1 hi)];exact h i hi;intro h i hi;rw[key i (cy.1 hi)];exact h i hi
theorem afb (l:ay aG)(d p:Int):re (l.map wrM) d p true=re l d p false:=by
 unfold re;rw[List.findIdx?_map];have e:(Gu d p true∘wrM)=Gu d p false:=by funext x;simp only[Function.comp,Gu,rb,wrM,bQ,jA,iM]
 rw[e];cases hf:l.findIdx? (Gu d p false)with|none=>rfl|some i=>obtain⟨hi,_⟩:=List.findIdx?_eq_some_iff_getElem.1 hf;simp only[getD_map hi];rfl
theorem Qg (l:ay aG)(m:cg)(d:Int):∀n a r,kX (l.map wrM) m d true n a r=kX l m d false n a r
 |0,a,r=>rfl
 |n+1,a,r=>by simp only[kX,afb,Qg l m d n]
theorem ahr (l:ay aG)(m:cg)(d a:Int)(s:Bytes):gT (l.map wrM) m d a s true=gT l m d a s false:=by
 have e:kO (l.map wrM) m d a (s.length:Int) true=kO l m d a (s.length:Int) false:=by simp only[kO,R4,Qg]
 simp only[gT,e]
theorem OS (l:ay aG)(m:cg)(d a:Int)(s:Bytes)(hl:l.length<=10^9)(hm:m.length<=10^9)(ha:a<=9223372036854775807):vN l m d a s=some (gT l m d a s false):=by unfold vN;refine fW (λi=>((l.take i).map wrM,(i:Int))) l.length (by omega) (λi nx hi=>?_) (λnx=>?_);simp only[qD];rw[mh,bS hi,al];simp only[ah,ae];rw[bg (by simp;omega),bV hi,cp];rfl;simp only[qD];rw[du,af,eF,Ie _ m d a s (by rw[cI];exact hl) hm ha,ahr];rfl
theorem FR (l:ay aG)(m:cg)(d a:Int)(s:Bytes)(hl:l.length<=10^9)(hm:m.length<=10^9)(ha:a<=9223372036854775807:=by omega):lL l m d a s=some (gT l m d a s false):=by rw[lL,Ug l m d a s false hl hm ha];rfl
def oG (d:Dm):Bool:=dF d.1 0 3&&(dF d.2.1 0 3&&(dF d.2.2.1 0 65535&&(dF d.2.2.2.2.1 0 65535&&(dF d.2.2.2.2.2 0 65535&&dF d.2.2.2.1 0 4294967295))))
theorem Ub (d:Dm):xM d=some (oG d):=by simp only[xM,dw,ae,oG];cases dF d.1 0 3<;>cases dF d.2.1 0 3<;>cases dF d.2.2.1 0 65535<;>cases dF d.2.2.2.2.1 0 65535<;>cases dF d.2.2.2.2.2 0 65535<;>rfl
theorem afB (d:Dm):Bp d=some (oG d):=by simp only[Bp,eU,ae,oG];cases dF d.1 0 3<;>cases dF d.2.1 0 3<;>cases dF d.2.2.1 0 65535<;>cases dF d.2.2.2.2.1 0 65535<;>cases dF d.2.2.2.2.2 0 65535<;>rfl
def jc (d:Dm):Bytes:=
 bif oG d then((((aO [gF d.1,gF d.2.1]++aU d.2.2.1)++dT d.2.2.2.1)++aU d.2.2.2.2.1)++aU d.2.2.2.2.2)++dT 0 else []
theorem ahF (d:Dm):tQ d=some (jc d):=by have h1:=bN d.2.2.1;have h2:=eQ d.2.2.2.1;have h3:=bN d.2.2.2.2.1;have h4:=bN d.2.2.2.2.2;have h5:=eQ 0;have h0:(aO [gF d.1,gF d.2.1]).length=2:=rfl;unfold tQ jc;rw[afB,ae];cases oG d;rfl;simp only[ak,af,ah,na,oY,ae];rw[bg,bg (by simp only[aj];omega),bg (by simp only[aj];omega),bg (by simp only[aj];omega),bg (by simp only[aj];omega)]
theorem RT (d:Dm):mj d=some (jc d):=by have h1:=bN d.2.2.1;have h2:=eQ d.2.2.2.1;have h3:=bN d.2.2.2.2.1;have h4:=bN d.2.2.2.2.2;have h5:=eQ 0;have h0:(aO [gF d.1,gF d.2.1]).length=2:=rfl;unfold mj jc;rw[Ub,ae];cases oG d;rfl;simp only[ak,af,ah,lK,Ah,ae];rw[bg,bg (by simp only[aj];omega),bg (by simp only[aj];omega),bg (by simp only[aj];omega),bg (by simp only[aj];omega)]
def mx (r:mR):Int:=bif dx r then au (r.2.1-bL r) else 0
def lp (r:mR)(c:Int):Int:=bif !dx r||decide (c<0) then-1 else r.1+tmod c r.2.1*16
theorem ma {r:mR}(h:dx r=true):0<=r.1/\r.1<=130944/\(r.2.1=2\/r.2.1=4\/r.2.1=8\/r.2.1=16)/\0<=r.2.2.1/\r.2.2.1<=2*r.2.1-1/\0<=r.2.2.2/\r.2.2.2<=2*r.2.1-1:=by simp only[dx,ab,aX]at h;exact⟨h.1.1,h.1.2,il.1 h.2.1,h.2.2.1.1,h.2.2.1.2,h.2.2.2.1.1,h.2.2.2.1.2⟩
theorem EE (r:mR)(c:Int): -1<=lp r c/\lp r c<=200000:=by
 unfold lp;cases hc: !dx r||decide (c<0)with
 |true=>exact⟨eT _,by simp⟩
 |false=>
  simp only[cj,dV,cP]at hc;have h:=ma hc.1;have h2:0<=tmod c r.2.1/\tmod c r.2.1<r.2.1:=by rw[dr (by omega)];exact⟨fF _ (by omega),fH _ (by omega)⟩
  simp only[af];omega
def cR (l:ay aG)(m:cg)(d:Int)(r:mR)(s:Bytes):cg×mR×Bool:=
 bif (mx r==0)||((s.length:Int) !=16) then(m,r,false) else
 bif !(gT l m d (lp r r.2.2.2) s true).2 then(m,r,false) else
 ((gT l m d (lp r r.2.2.2) s true).1,(r.1,r.2.1,r.2.2.1,tmod (r.2.2.2+1) (2*r.2.1)),true)
theorem Jt {w:Bool}(h:(gT l m d a s w).2=false):(gT l m d a s w).1=m:=by unfold gT at h⊢;cases hr:(kO l m d a (s.length:Int) w).2 with|false=>rfl|true=>rw[hr]at h;cases h
theorem JF (r:mR):tt r=some (mx r):=by unfold tt mx;rw[NK,ae];cases dx r;rfl;simp only[ak,af,ah,Vz,ae]
theorem acD (r:mR)(c:Int):sa r c=some (lp r c):=by
 have uN:=EE r c;unfold sa;rw[NK,ae];unfold lp at uN⊢;cases hb:dx r;rfl;have h:=ma hb;by_cases hc:c<0;rw[aq hc];rfl;rw[hb,ar hc]at uN;rw[ar hc];have h2:0<=tmod c r.2.1/\tmod c r.2.1<r.2.1:=by rw[dr (by omega)];exact⟨fF _ (by omega),fH _ (by omega)⟩
 simp only[ak,af,ae,bG]at uN⊢;rw[kl,al (n:=16*tmod c r.2.1),al];congr 1;omega
theorem Vx (l:ay aG)(m:cg)(d:Int)(r:mR)(s:Bytes)(hl:l.length<=10^9)(hm:m.length<=10^9):yZ l m d r s=some (cR l m d r s):=by
 have hA:=EE r r.2.2.2;unfold yZ cR;simp only[JF,ae,acD,Ie l m d _ s hl hm (show lp r r.2.2.2<=9223372036854775807 by omega),CV m (show m.length<=1073741824 by omega)];cases hf:mx r==0;case true=>rfl
 cases (s.length:Int) !=16;case true=>rfl
 have hb:dx r=true:=by cases hb:dx r with|true=>rfl|false=>unfold mx at hf;rw[hb]at hf;cases hf
 have h:=ma hb;simp only[af,ae,bG];cases hp:(gT l m d (lp r r.2.2.2) s true).2 with|false=>simp only[bQ,ah,Jt hp]|true=>simp only[ak,af];rw[al (n:=2*r.2.1),kl,al (n:=r.2.2.2+1)]
theorem PJ (r:mR):sW r=some (mx r):=by unfold sW mx;rw[xL,ae];cases dx r;rfl;simp only[ak,af,ah,Af,ae]
theorem PN (r:mR)(c:Int):nU r c=some (lp r c):=by
 have uN:=EE r c;unfold nU;rw[xL,ae];unfold lp at uN⊢;cases hb:dx r;rfl;have h:=ma hb;by_cases hc:c<0;rw[aq hc];rfl;rw[hb,ar hc]at uN;rw[ar hc];have h2:0<=tmod c r.2.1/\tmod c r.2.1<r.2.1:=by rw[dr (by omega)];exact⟨fF _ (by omega),fH _ (by omega)⟩
 simp only[ak,af,ae,bG]at uN⊢;rw[kl,al (n:=tmod c r.2.1*16),al]
theorem Ka (l:ay aG)(m:cg)(d:Int)(r:mR)(s:Bytes)(hl:l.length<=10^9)(hm:m.length<=10^9):vn l m d r s=some (cR l m d r s):=by
 have hA:=EE r r.2.2.2;unfold vn cR;simp only[PJ,ae,PN,CJ l m d _ s hl hm (show lp r r.2.2.2<=9223372036854775807 by omega),gK m (show m.length<=1073741824 by omega)];cases hf:mx r==0;case true=>rfl
 cases (s.length:Int) !=16;case true=>rfl
 have hb:dx r=true:=by cases hb:dx r with|true=>rfl|false=>unfold mx at hf;rw[hb]at hf;cases hf
 have h:=ma hb;simp only[af,ae,bG];cases hp:(gT l m d (lp r r.2.2.2) s true).2 with|false=>simp only[bQ,ah,Jt hp]|true=>simp only[ak,af];rw[al (n:=2*r.2.1),kl,al (n:=r.2.2.2+1)]
theorem Bi {p:cX}(h:dz p=true):0<=p.1/\p.1<=130944/\1<=p.2.1/\p.2.1<=512/\0<=p.2.2.1/\p.2.2.1<=16:=by simp only[dz,ab,aX]at h;exact⟨h.1.1,h.1.2,h.2.1.1,h.2.1.2,h.2.2.1.1,h.2.2.1.2⟩
def nn (p:cX)(i:Int):Int:=bif !dz p|| !dF i 0 (p.2.2.1-1) then-1 else p.1+i*p.2.1
theorem YU {p:cX}{i:Int}(hp:dz p=true)(hi:dF i 0 (p.2.2.1-1)=true):au (p.1+au (i*p.2.1))=p.1+i*p.2.1:=by have h:=Bi hp;have h2:=aX.1 hi;have h3:0<=i*p.2.1:=Int.mul_nonneg h2.1 (by omega);have h4:i*p.2.1<=16*512:=Int.mul_le_mul (by omega) (by omega) (by omega) (by omega);rw[al (n:=i*p.2.1),al]
theorem afA (p:cX)(i:Int)(h:p.2.2.2.length<=10^9):oZ p i=some (nn p i):=by unfold oZ nn;rw[Ih p h,ae];cases hp:dz p;rfl;have uN:=Bi hp;rw[al (n:=p.2.2.1-1),eU];cases hi:dF i 0 (p.2.2.1-1);rfl;simp only[ak,af,ae,bG,YU hp hi]
theorem Hs (p:cX)(i:Int)(h:p.2.2.2.length<=10^9):gH p i=some (nn p i):=by unfold gH nn;rw[xK p h,ae];cases hp:dz p;rfl;have uN:=Bi hp;rw[al (n:=p.2.2.1-1),dw];cases hi:dF i 0 (p.2.2.1-1);rfl;simp only[ak,af,ae,bG,YU hp hi]
def upto (n:Nat):dB:=(range n).map Int.ofNat
theorem acR (n:Nat):upto (n+1)=upto n++[(n:Int)]:=by simp[upto,List.range_succ]
theorem aga (h:i<n):(upto n).getD i 0=(i:Int):=by rw[de (by simpa[upto]using h)];simp[upto]
theorem Yf (a b:Int)(n:Nat)(hn:n<=16):dz (a,b,(n:Int),upto n)=dz (a,b,(n:Int),[]):=by
 unfold dz;congr 3;have h1:(range (upto n).length).all (BZ (n:Int) (upto n))=true:=by
  rw[aL];intro i hi;have hi:i<n:=by simpa[upto]using hi
  simp only[BZ,aga hi,ab,aX,aN];refine⟨by omega,?_⟩;rw[Bool.eq_false_iff,ne_eq,List.contains_iff_mem];intro hm;simp only[upto,<-List.map_take,dp]at hm;obtain⟨j,hj,he⟩:=hm;rw[List.take_range]at hj;have:=cy.1 hj;have:(j:Int)=(i:Int):=he;omega
 rw[h1];rfl
def kM (a b n:Int):cX×Bool:=bif dz (a,b,n,[]) then((a,b,n,upto n.toNat),true) else((0,0,0,[]),false)
theorem Ks (a b n:Int):vP a b n=some (kM a b n):=by
 have B9:=eS;unfold vP kM;by_cases hn:0<=n/\n<=16;obtain⟨n,rfl⟩:=az hn.1;have SM:n<=16:=by omega
 refine fW (λi=>((i:Int),a,b,(n:Int),upto i)) n (by omega) (λi nx hi=>?_) (λnx=>?_);simp only[pD];rw[aq (show(i:Int)<n by omega),aq (show(n:Int)<=16 by omega)];simp only[ah,ae];rw[bg (by simp[upto];omega),al,acR];rfl;simp only[pD];rw[ar (show¬(n:Int)<n by omega)];simp only[af,ae,Ih (a,b,(n:Int),upto n) (show(upto n).length<=10^9 by simp[upto];omega),Yf a b n SM,aA];cases dz (a,b,(n:Int),[])<;>rfl;have hb:dz (a,b,n,[])=false:=by cases hp:dz (a,b,n,[])with|false=>rfl|true=>have:=Bi hp;exact absurd ⟨this.2.2.2.2.1,this.2.2.2.2.2⟩ hn
 obtain⟨f,hf⟩:∃f,fuel=f+1:=⟨fuel-1,by omega⟩
 rw[hf,bt];simp only[pD];have hc:(cond (decide ((0:Int)<n)) (some (decide (n<=16))) (some false))=some false:=by by_cases h0:(0:Int)<n;rw[aq h0,du];rfl;rw[ar h0];rfl
 rw[hc];simp only[ae,af,Ih (a,b,n,[]) (show([]:dB).length<=10^9 by simp),hb];rfl
def fu (p:cX)(b:Int):Bytes:=jc (3,0,p.2.1,nn p b,0,b)
def kb (l:ay aG)(d:Int)(p:cX):dB->cg->mR->Nat×cg×mR
 |[],m,r=>(0,m,r)
 |b::q,m,r=>bif (cR l m d r (fu p b)).2.2 then
   ((kb l d p q (cR l m d r (fu p b)).1 (cR l m d r (fu p b)).2.1).1+1,(kb l d p q (cR l m d r (fu p b)).1 (cR l m d r (fu p b)).2.1).2)
  else(0,m,r)
theorem yU (l:ay aG)(m:cg)(d:Int)(r:mR)(s:Bytes):(cR l m d r s).1.length=m.length:=by
 unfold cR;cases (mx r==0)||((s.length:Int) !=16);case true=>rfl
 cases (gT l m d (lp r r.2.2.2) s true).2 with|false=>rfl|true=>exact lR ..
theorem IQ (l:ay aG)(d:Int)(p:cX):∀(q:dB)(m:cg)(r:mR),(kb l d p q m r).2.1.length=m.length/\(kb l d p q m r).1<=q.length
 |[],m,r=>⟨rfl,aV _⟩
 |b::q,m,r=>by rw[kb];cases (cR l m d r (fu p b)).2.2 with|false=>exact⟨rfl,cq _⟩|true=>have:=IQ l d p q (cR l m d r (fu p b)).1 (cR l m d r (fu p b)).2.1;simp only[ah,aS];exact⟨by rw[this.1,yU],by omega⟩
theorem ad7 (r:mR):0<=mx r:=by
 unfold mx;cases hb:dx r with
 |false=>exact eT _
 |true=>
  have h:=ma hb;simp only[dx,ab,aE]at hb;have hu:=hb.2.2.2.2;have h0:0<=bL r:=by unfold bL;split;exact fF _ (by omega);exact eT _
  simp only[ah];rw[al];omega
theorem Sf {r:mR}(h:¬mx r>0):cR l m d r s=(m,r,false):=by
 have h0:=ad7 r;have:mx r=0:=by omega
 unfold cR;rw[this];rfl
theorem Hu (K:Int->Int->mR->cg->aC R)(K':Nat->mR->cg->aC R)(hK:∀(c:Nat) i r m,K (c:Int) i r m=K' c r m)(l:ay aG)(d:Int)(p p2 p3:cX)(hp:p.2.2.2.length<=10^9)(hl:l.length<=10^9):∀(rest pre:dB)(m:cg)(r:mR)(f:Nat),rest.length<f->pre.length+rest.length<=10^9->m.length<=10^9->
 bt (nP K l d (pre++rest) ((pre++rest).length:Int) p ([]:cg) (0,0,0,0) p2 p3) f ((pre.length:Int),(pre.length:Int),r,m)=K' (pre.length+(kb l d p rest m r).1) (kb l d p rest m r).2.2 (kb l d p rest m r).2.1
 |rest,pre,m,r,0,hf,_,_=>by omega
 |[],pre,m,r,f+1,_,_,_=>by rw[bt];simp only[nP];rw[ar (by simp),af,hK];rfl
 |b::q,pre,m,r,f+1,hf,hn,hm=>by
  simp only[aS]at hf hn;have hi:pre.length<(pre++b::q).length:=by simp
  have hb:(pre++b::q)[pre.length]=b:=by simp
  rw[bt];simp only[nP];rw[aq (by simp;omega),bS hi,hb];simp only[ah,ae,Hs p b hp,RT,Ka l m d r _ hl hm];rw[show jc (3,0,p.2.1,nn p b,0,b)=fu p b from rfl,kb];cases hq:(cR l m d r (fu p b)).2.2 with
  |false=>simp only[bQ,ah,af,hK,dX]
  |true=>
   simp only[ak,af,ah];rw[al (n:=(pre.length:Int)+1)];have key:=Hu K K' hK l d p p2 p3 hp hl q (pre++[b]) (cR l m d r (fu p b)).1 (cR l m d r (fu p b)).2.1 f (by omega) (by simp;omega) (by rw[yU];exact hm);have el:((pre++[b]).length:Int)=(pre.length:Int)+1:=by simp
   have el2:(pre++[b]).length=pre.length+1:=by simp
   rw[aD,gk,el,el2]at key;rw[show pre.length+((kb l d p q (cR l m d r (fu p b)).1 (cR l m d r (fu p b)).2.1).1+1)=pre.length+1+(kb l d p q (cR l m d r (fu p b)).1 (cR l m d r (fu p b)).2.1).1 by omega];exact key
theorem Ig (K:Int->mR->cg->cX->aC R)(l:ay aG)(d:Int)(p p2:cX)(hp:p.2.2.2.length<=10^9)(hl:l.length<=10^9)(A B C:Int):∀(rest:dB)(c:Nat)(m:cg)(r:mR)(f:Nat),rest.length<f->c+rest.length<=10^9->m.length<=10^9->
 bt (oq K l d p ([]:cg) (0,0,0,0) p2) f ((c:Int),r,m,A,B,C,rest)=K ((c+(kb l d p rest m r).1:Nat):Int) (kb l d p rest m r).2.2 (kb l d p rest m r).2.1 (A,B,C,rest.drop (kb l d p rest m r).1)
 |rest,c,m,r,0,hf,_,_=>by omega
 |[],c,m,r,f+1,_,_,_=>by
  rw[bt];simp only[oq,JF,ae];have hc:(cond (decide (mx r>0)) (some (decide ((([]:dB).length:Int)>0))) (some false))=some false:=by cases decide (mx r>0)<;>rfl
  rw[hc];rfl
 |b::q,c,m,r,f+1,hf,hn,hm=>by
  simp only[aS]at hf hn;rw[bt];simp only[oq,JF,ae];by_cases hr:mx r>0;rw[aq hr,aq (show(((b::q).length:Nat):Int)>0 by simp)];have hi:idx (b::q) 0=some b:=rfl;have hs:sub (b::q) 1 ((b::q).length:Int)=some q:=by unfold sub;rw[aF (by simp;omega)];simp
  simp only[ah,ae,hi,afA p b hp,ahF,Vx l m d r _ hl hm];rw[show jc (3,0,p.2.1,nn p b,0,b)=fu p b from rfl,kb];cases hq:(cR l m d r (fu p b)).2.2 with|false=>rfl|true=>simp only[ak,af,ah,hs,ae];rw[og (by omega),al (n:=(c:Int)+1),cC];have key:=Ig K l d p p2 hp hl A B C q (c+1) (cR l m d r (fu p b)).1 (cR l m d r (fu p b)).2.1 f (by omega) (by omega) (by rw[yU];exact hm);rw[show((c+1:Nat):Int)=(c:Int)+1 by omega]at key;refine Eq.trans key ?_;rw[show c+1+(kb l d p q (cR l m d r (fu p b)).1 (cR l m d r (fu p b)).2.1).1=c+((kb l d p q (cR l m d r (fu p b)).1 (cR l m d r (fu p b)).2.1).1+1) by omega];rfl
  rw[ar hr,kb,Sf hr];rfl
def oH (l:ay aG)(m:cg)(d:Int)(r:mR)(p:cX):cg×mR×cX×Int:=
 bif !dx r|| !dz p then(m,r,p,0) else
 ((kb l d p p.2.2.2 m r).2.1,(kb l d p p.2.2.2 m r).2.2,(p.1,p.2.1,p.2.2.1,p.2.2.2.drop (kb l d p p.2.2.2 m r).1),((kb l d p p.2.2.2 m r).1:Int))
theorem aew (l:ay aG)(m:cg)(d:Int)(r:mR)(p:cX)(hl:l.length<=10^9)(hm:m.length<=10^9)(hp:p.2.2.2.length<=10^9):pV l m d r p=some (oH l m d r p):=by have B9:=eS;unfold pV oH;simp only[gK m (show m.length<=1073741824 by omega),uo p hp,xL,xK p hp,ae];cases dx r;rfl;cases dz p;rfl;simp only[ak,af,ae,bG];have hlen:=(IQ l d p p.2.2.2 m r).2;refine(Hu _ (λc r m=>aa (sub p.2.2.2 (c:Int) (p.2.2.2.length:Int)) λx14=>aa (gN x14) λC3=>some (m,r,(p.1,p.2.1,p.2.2.1,C3),(c:Int))) (λ_ _ _ _=>rfl) l d p _ p hp hl p.2.2.2 [] m r fuel (by omega) (by simp;omega) hm).trans ?_;rw[dv,cK,SB _ _ _ hlen (aV _),ae,bU (by rw[aP];exact aV _),mu _ (by rw[aP];omega)];rfl
theorem afC (l:ay aG)(m:cg)(d:Int)(r:mR)(p:cX)(hl:l.length<=10^9)(hm:m.length<=10^9)(hp:p.2.2.2.length<=10^9):xx l m d r p=some (oH l m d r p):=by have B9:=eS;unfold xx oH;simp only[CV m (show m.length<=1073741824 by omega),XL p hp,NK,Ih p hp,ae];cases dx r;rfl;cases dz p;rfl;simp only[ak,af,ae,bG];refine(Ig _ l d p _ hp hl p.1 p.2.1 p.2.2.1 p.2.2.2 0 m r fuel (by omega) (by omega) hm).trans ?_;rw[cK]
theorem Nf (l:ay aG)(m:cg)(d:Int)(w:Bool):∀(n a r:Nat)(q:ay (Int×Int)),kX l m d w n a r=some q->q.length<=n
 |0,a,r,q,h=>by simp only[kX,bu]at h;subst h;simp
 |n+1,a,r,q,h=>by simp only[kX]at h;split at h;simp only[bu]at h;subst h;simp;split at h;simp only[Option.map_eq_some_iff]at h;obtain⟨q',h1,rfl⟩:=h;have:=Nf l m d w n _ _ q' h1;simp only[aS];omega;cases h
theorem JA (l:ay aG)(m:cg)(d a n:Int)(w:Bool):(kO l m d a n w).1.length<=4096:=by
 unfold kO;cases hB:gq l&&(df m&&dF n 0 4096);simp;simp only[ab,aX]at hB;simp only[ah];cases n==0;case true=>simp
 cases decide (a<0);case true=>simp
 simp only[af];split;rename_i q hq;have:=Nf _ _ _ _ _ _ _ _ hq;show q.length<=4096;omega;simp
def oe (m:cg)(p:Int×Int):Bytes:=bif iz m p.1 p.2 then Bl m p.1.toNat p.2.toNat else []
theorem FZ (m:cg)(p:Int×Int):(oe m p).length<=8192:=by unfold oe;cases h:iz m p.1 p.2 with|false=>simp|true=>simp only[iz,ab,aE]at h;have:=afk m p.1.toNat p.2.toNat;have:=(mem_iff.1 h.1).2;simp only[ah];omega
theorem vL (m:cg):∀q:ay (Int×Int),(q.flatMap (oe m)).length<=8192*q.length
 |[]=>by simp
 |p::q=>by have:=vL m q;have:=FZ m p;simp only[List.flatMap_cons,aj,aS];omega
def pq (l:ay aG)(m:cg)(d a n:Int):Bytes×Bool:=
 bif (kO l m d a n false).2 then((kO l m d a n false).1.flatMap (oe m),true) else([],false)
theorem Rx {β:Type}(g:α->ay β)(l:ay α)(i:Nat)(hi:i<l.length):(l.take (i+1)).flatMap g=(l.take i).flatMap g++g l[i]:=by rw[bV hi,List.flatMap_append];simp
theorem Bb (l:ay aG)(m:cg)(d a n:Int)(hl:l.length<=10^9)(hm:m.length<=10^9)(ha:a<=9223372036854775807):oL l m d a n=some (pq l m d a n):=by
 unfold oL pq;rw[Uh l m d a n false hl hm ha,ae];have hL:=JA l m d a n false;generalize kO l m d a n false=r at hL⊢;cases hr:r.2;rfl;simp only[ak,af,ah];refine(fW (λi=>((r.1.take i).flatMap (oe m),(i:Int))) r.1.length (by omega) (λi nx hi=>?_) (λnx=>?_));simp only[tB];rw[mh,bS hi,al];have e:pz m r.1[i].1 r.1[i].2=some (oe m r.1[i],iz m r.1[i].1 r.1[i].2):=by rw[aeF m _ _ hm,oe];cases iz m r.1[i].1 r.1[i].2<;>rfl
 have h1:=vL m (r.1.take i);have h2:=FZ m r.1[i];simp only[ah,ae,e];rw[bg (by rw[aY]at h1;omega),<-Rx];rfl;simp only[tB];rw[du,eF];rfl
theorem L0 (l:ay aG)(m:cg)(d a n:Int):(pq l m d a n).1.length<=100000000:=by have hL:=JA l m d a n false;have h1:=vL m (kO l m d a n false).1;unfold pq;cases (kO l m d a n false).2 with|false=>simp|true=>simp only[ah];omega
def ry (s:Bytes):AB×Int×Bool:=
 bif ((s.length:Int) !=16)||decide (fP s 12>1) then((0,0,0,0,0),0,false) else((cl s 0,cl s 2,cl s 4,cl s 6,fP s 8),fP s 12,true)
theorem Xp (s:Bytes)(h:s.length<=10^9):lW s=some (ry s):=by
 unfold lW ry;cases (s.length:Int) !=16;case true=>rfl
 simp only[wH s _ h,zJ s _ h,ae,af,cd];cases decide (fP s 12>1)<;>rfl
def ym (q:K7):Int:=bif decide (q.2.2<q.2.1) then 1 else 0
theorem PK (q:K7):vy q=some (ym q):=by unfold vy ym;cases decide (q.2.2<q.2.1)<;>rfl
theorem vK {q:K7}(h:gw q=true):0<=q.1/\q.1<=130944/\(q.2.1=2\/q.2.1=4\/q.2.1=8\/q.2.1=16)/\0<=q.2.2/\q.2.2<=2*q.2.1-1:=by simp only[gw,ab,aX]at h;obtain⟨h1,h2,h3⟩:=h;rw[wL h2]at h3;exact⟨h1.1,h1.2,il.1 h2,h3⟩
def rj (q:K7):Int:=q.1+tmod q.2.2 q.2.1*16
theorem SI {b:Int}(h:0<=a:=by omega)(hb:0<b:=by omega):0<=tmod a b/\tmod a b<b:=by rw[dr h];exact⟨fF _ (by omega),fH _ hb⟩
theorem Sp {q:K7}(h:gw q=true):0<=tmod q.2.2 q.2.1/\tmod q.2.2 q.2.1<16:=by obtain⟨_,_,h3,h4,h5⟩:=vK h;have:=SI h4 (show 0<q.2.1 by omega);omega
theorem PO (q:K7)(h:gw q=true):nX q=some (rj q):=by obtain⟨h1,h2,h3,h4,h5⟩:=vK h;have:=Sp h;unfold nX rj;rw[kl,al (n:=tmod q.2.2 q.2.1*16),al]
def ae0 (q:K7):K7:=(q.1,q.2.1,tmod (q.2.2+1) (2*q.2.1))
def HV (l:ay aG)(m:cg)(d:Int)(q:K7):Bool:=
 gw q&&((pq l m d (rj q) 16).2&&((ry (pq l m d (rj q) 16).1).2.2&&((ry (pq l m d (rj q) 16).1).2.1==ym q)))
def ll (l:ay aG)(m:cg)(d:Int)(q:K7):AB×K7×Bool:=
 bif HV l m d q then((ry (pq l m d (rj q) 16).1).1,ae0 q,true) else((0,0,0,0,0),q,false)
theorem Ud (l:ay aG)(m:cg)(d:Int)(q:K7)(hl:l.length<=10^9)(hm:m.length<=10^9):kK l m d q=some (ll l m d q):=by unfold kK ll HV;rw[I3 q,ae];cases hq:gw q;rfl;obtain⟨h1,h2,h3,h4,h5⟩:=vK hq;have hs:=Sp hq;have hd:=L0 l m d (rj q) 16;simp only[ak,af,PO q hq,ae,Bb l m d (rj q) 16 hl hm (by unfold rj;omega),bF];cases (pq l m d (rj q) 16).2;rfl;simp only[ak,af,Xp _ (bT hd (by omega)),ae,bF];cases (ry (pq l m d (rj q) 16).1).2.2;rfl;simp only[ak,af,PK,ae,bF,bne];cases (ry (pq l m d (rj q) 16).1).2.1==ym q;rfl;simp only[ak,af,ah];rw[al (n:=2*q.2.1),kl,al (n:=q.2.2+1)];rfl
def yK (l:ay aG)(m:cg)(d:Int)(r:bC):Bool:=BP r&&(ll l m d r.2.2.1).2.2
theorem Xt (l:ay aG)(m:cg)(d:Int)(r:bC)(hl:l.length<=10^9)(hm:m.length<=10^9):oM l m d r=some (yK l m d r):=by simp only[oM,MM,Ud l m d _ hl hm,ae,yK];cases BP r<;>rfl
def Ju (h:Host):Bool:=fU h&&(!(decide ((h.2.2.1.2.2.1.length:Int)>0))&&h.2.2.2.1.all (λr=> !(r.2.2.2.2.1||yK h.2.1 h.1 0 r)))
theorem aa8 (h:Host)(z:QP h)(hl:eI 1000000000 gI h):rG h=some (Ju h):=by
 have hL:h.2.2.2.1.length<=10^9:=hl.2.2.2.1.1;unfold rG Ju;rw[sO h z,ae];cases fU h;rfl;simp only[ak,af,ae,bF];cases decide ((h.2.2.1.2.2.1.length:Int)>0);case true=>rfl
 simp only[af,bQ,bF];rw[pP (hit:=some false) (fin:=some true) (λr:bC=> !(r.2.2.2.2.1||yK h.2.1 h.1 0 r)) h.2.2.2.1 (by omega) (λi hi nx=>?hs) (λnx=>?hf)]
 case hs=>
  simp only[tD]
  rw[mh,bS hi,al]
  simp only[ah,ae,Xt _ _ _ _ hl.2.1.1 hl.1.1]
  cases h.2.2.2.1[i].2.2.2.2.1<;>cases yK h.2.1 h.1 0 h.2.2.2.1[i]<;>rfl
 case hf=>
  simp only[tD]
  rw[du];rfl
 cases h.2.2.2.1.all (λr=> !(r.2.2.2.2.1||yK h.2.1 h.1 0 r))<;>rfl
def Wi (s:Bytes)(i:Nat):Nat:=bO s (i/8)/2^(7-i%8)%2
theorem QW (s:Bytes)(i:Nat):Wi s i<2:=Nat.mod_lt _ (by omega)
theorem ada (b k:Nat)(hb:b<256)(hk:k<=7):au (toNat (ia (au (fdiv (b:Int) ((2^k:Nat):Int)))&&&ia 1))=((b/2^k%2:Nat):Int):=by have e:fdiv (b:Int) ((2^k:Nat):Int)=((b/2^k:Nat):Int):=(Int.ofNat_fdiv b (2^k)).symm;have h1:b/2^k<=b:=Nat.div_le_self _ _;rw[e,iU (n:=b/2^k)];have:=ac6 (b/2^k) 1;rw[show((1:Nat):Int)=1 from rfl]at this;rw[this,Nat.and_one_is_mod];exact iU
theorem ZD (s:Bytes)(i:Nat)(hi:i/8<s.length:=by omega)(h:s.length<=10^9:=by omega):xO s (i:Int)=some ((Wi s i:Nat):Int):=by
 have e1:Int.tdiv (i:Int) 8=((i/8:Nat):Int):=(Int.ofNat_tdiv i 8).symm;have e2:tmod (i:Int) 8=((i%8:Nat):Int):=(Int.ofNat_tmod i 8).symm;unfold xO;rw[kl,e1,al (n:=((i/8:Nat):Int)),bS hi,ae,kl,e2,al (n:=7-((i%8:Nat):Int)),kl];have e3:(2:Int)^(min (Int.toNat (7-((i%8:Nat):Int))) (IntKind.bits .u8))=((2^(7-i%8):Nat):Int):=by rw[show min (Int.toNat (7-((i%8:Nat):Int))) (IntKind.bits .u8)=7-i%8 from by show min _ 8=_;omega];push_cast;rfl
 rw[e3,ada _ _ (ns _) (by omega),Wi,bO,de hi]
def win (s:Bytes)(a:Nat):Nat->Nat
 |0=>0
 |j+1=>2*win s a j+Wi s (a+j)
theorem agd (s:Bytes)(a:Nat):∀j,win s a j<2^j
 |0=>by simp[win]
 |j+1=>by have:=agd s a j;have:=QW s (a+j);rw[win,Nat.pow_succ];omega
theorem YK (s:Bytes)(a j:Nat)(hj:j<=32:=by omega):win s a j<4294967296:=Nat.lt_of_lt_of_le (agd s a j) (Nat.pow_le_pow_right (n:=2) (by omega) hj)
def ahV (s:Bytes)(a:Int):Int:=bif ((s.length:Int) !=16)|| !dF a 0 96 then-1 else((win s a.toNat 32:Nat):Int)
theorem ag4 (s:Bytes)(a:Int):vh s a=some (ahV s a):=by
 unfold vh ahV;rw[dw];cases hs:(s.length:Int) !=16;case true=>rfl
 cases ha:dF a 0 96;rfl;have h1:=aX.1 ha;have h2:s.length=16:=by simp at hs;omega
 obtain⟨a,rfl⟩:=az h1.1;simp only[af,ae,ak,bG,aA];refine fW (λi=>(((win s a i:Nat):Int),((a+i:Nat):Int))) 32 (by omega) (λi nx hi=>?_) (λnx=>?_);have hw:=YK s a i;have hb:=QW s (a+i);simp only[qt];rw[al (n:=(a:Int)+32),mh,ah,kl,ZD s (a+i),ae,al (n:=((a+i:Nat):Int)+1)];have e1:au (((win s a i:Nat):Int)*2^(nk 1))=((2^1*win s a i:Nat):Int):=by have:(2:Int)^(nk 1)=2:=rfl;rw[this,al];omega
 rw[e1,Gx _ _ _];rw[show(((a+i:Nat):Int)+1)=((a+(i+1):Nat):Int) by omega];rfl;simp only[qt];rw[al (n:=(a:Int)+32),du];rfl
def FJ (s v:Bytes):Nat->Nat
 |0=>0
 |i+1=>if Wi v i=1 then FJ s v i^^^win s i 32 else FJ s v i
theorem Mq (s v:Bytes):∀i,FJ s v i<4294967296
 |0=>by simp[FJ]
 |i+1=>by have:=Mq s v i;rw[FJ];split;exact Dl this (YK s i 32);exact this
def sL (s v:Bytes):Int:=bif ((s.length:Int) !=16)||decide ((v.length:Int)>12) then-1 else((FJ s v (8*v.length):Nat):Int)
theorem aex (s v:Bytes):vd s v=some (sL s v):=by
 unfold vd sL;cases hs:(s.length:Int) !=16;case true=>rfl
 cases hv:decide ((v.length:Int)>12);case true=>rfl
 have h2:s.length=16:=by simp at hs;omega
 have h3:v.length<=12:=by simp at hv;omega
 simp only[af,ae,bG];refine fW (λi=>(((FJ s v i:Nat):Int),(i:Int))) (8*v.length) (by omega) (λi nx hi=>?_) (λnx=>?_);have hw:=YK s i 32;have hh:=Mq s v i;have hb:=QW v i;have eW:ahV s (i:Int)=((win s i 32:Nat):Int):=by unfold ahV;rw[hs,aX.2 (show(0:Int)<=(i:Int)/\(i:Int)<=96 by omega)];rfl
 simp only[qq];rw[al (n:=8*(v.length:Int)),mh,ah,ZD v i,ae,ag4,ae,eW,age _ _ (by omega) (by omega),al (n:=(i:Int)+1),iU (Nat.lt_trans (Dl hh hw) (by omega)),FJ];by_cases h1:Wi v i=1;rw[h1,aF rfl];rfl;rw[aH h1,show(((Wi v i:Nat):Int)==1)=false from by simp;omega];rfl;simp only[qq];rw[al (n:=8*(v.length:Int)),du];rfl
def oK (f:AB):Bytes:=((dT f.2.1++dT f.2.2.1)++aU f.2.2.2.1)++aU f.2.2.2.2
theorem PB (f:AB):(oK f).length<=12:=by have:=eQ f.2.1;have:=eQ f.2.2.1;have:=bN f.2.2.2.1;have:=bN f.2.2.2.2;simp only[oK,aj];omega
theorem Xu (f:AB):vf f=some (oK f):=by have:=eQ f.2.1;have:=eQ f.2.2.1;have:=bN f.2.2.2.1;have:=bN f.2.2.2.2;simp only[vf,Ah,lK,ae];rw[bg,bg (by simp only[aj];omega),bg (by simp only[aj];omega)];rfl
theorem Hv (s:Bytes)(f:AB):sR s f=some (sL s (oK f)):=by simp only[sR,Xu,aex,ae]
def CE (s:mT)(f:AB):Int:=bif ((s.2.length:Int)==0)||decide (sL s.1 (oK f)<0) then-1 else tmod (sL s.1 (oK f)) (s.2.length:Int)
theorem aa1 (s:mT)(f:AB):yP s f=some (CE s f):=by
 unfold yP CE;rw[Hv,ae];cases h0:(s.2.length:Int)==0;case true=>rfl
 cases decide (sL s.1 (oK f)<0);case true=>rfl
 simp only[af,ae,bG];rw[aH (by simpa using h0)]
theorem Pn (s:mT)(f:AB)(h:¬CE s f<0):∃n:Nat,CE s f=(n:Int)/\n<s.2.length:=by
 unfold CE at h⊢;cases hc:((s.2.length:Int)==0)||decide (sL s.1 (oK f)<0)with
 |true=>rw[hc]at h;simp at h
 |false=>
  rw[hc]at h;simp only[cj,cu,cP]at hc;simp only[af]at h⊢;have h1:0<=sL s.1 (oK f):=by omega
  rw[dr h1]at h⊢;have:=fH (sL s.1 (oK f)) (show(0:Int)<s.2.length by omega);obtain⟨n,hn⟩:=az (show 0<=sL s.1 (oK f)%(s.2.length:Int) by omega);exact⟨n,hn,by omega⟩
def Lq (s:mT)(q:Int)(f:AB):Int:=bif !qG s q||decide (CE s f<0) then-1 else s.2.getD (CE s f).toNat 0
theorem Uj (s:mT)(q:Int)(f:AB)(h:s.2.length<=10^9):rM s q f=some (Lq s q f):=by
 unfold rM Lq;rw[aa1,ae,MN s q h,ae];cases qG s q;rfl;have uN:=Pn s f;cases hd:decide (CE s f<0);case true=>rfl
 obtain⟨n,hn,hl⟩:=uN (fI hd);simp only[ak,af,ae,bG,hn,bS hl,aA,de hl]
theorem QG (t:ay Slot)(f:AB)(h:∀j,j<8->pN (gU t j) f=false):∀n k,walk t f n k= -1
 |0,_=>rfl
 |n+1,k=>by unfold walk;rw[h _ (Fw f k),QG t f h n (k+1)];split<;>rfl
theorem JX (f:AB):∀(t:ay Slot)(m:Int),(∀s∈t,pN s f=false)->yg f t m= -1
 |[],_,_=>rfl
 |s::r,m,h=>by unfold yg;rw[h s (by simp)];exact JX f r (m+1) (λx hx=>h x (by simp[hx]))
theorem W3 (t:ay Slot)(f:AB)(h:pn t=true):yg f t 0=walk t f 8 0:=by simp only[pn,ab,bm,aL,cy]at h;obtain⟨h8,hs⟩:=h;by_cases hex:∃j,j<t.length/\pN (gU t j) f=true;obtain⟨j,hj,hu,e⟩:=DZ f t 0 hex;have:=hs j (by omega);simp only[om,ab,cH,aN,bm]at this;simp only[pN,ab,bm,aE]at hu;rcases this.2 with g|g;rw[hu.1]at g;simp at g;rw[hu.2]at g;rw[show((0:Int))=((0:Nat):Int) from rfl,e,g];omega;have hn:∀j,j<t.length->pN (gU t j) f=false:=λj hj=>Bool.eq_false_iff.2 λhu=>hex ⟨j,hj,hu⟩;rw[QG t f (λj hj=>hn j (by omega)),JX];intro s yj;obtain⟨j,hj,rfl⟩:=fX yj;have:=hn j hj;rwa[wN hj]at this
def findF (t:ay Slot)(f:AB):Int:=bif pn t then walk t f 8 0 else-1
theorem RU (t:ay Slot)(f:AB)(h:t.length<=10^9):xf t f=some (findF t f):=by unfold xf findF;rw[PR,ae];cases ht:pn t;rfl;simp only[ak,af,ah,Ui t f h,ae,W3 t f ht]
theorem aaf (t:ay Slot)(f:AB):∀n k,walk t f n k= -1\/∃m:Nat,walk t f n k=(m:Int)/\m<8
 |0,_=> .inl rfl
 |n+1,k=>by unfold walk;split;exact .inl rfl;split;exact .inr ⟨_,rfl,Fw f k⟩;exact aaf t f n (k+1)
theorem Tu (t:ay Slot)(f:AB)(h:findF t f>=0):∃m:Nat,findF t f=(m:Int)/\m<t.length:=by
 unfold findF at h⊢;cases ht:pn t with
 |false=>rw[ht]at h;simp at h
 |true=>
  rw[ht]at h;simp only[ah]at h⊢;have h8:t.length=8:=by simp only[pn,ab,bm]at ht;exact ht.1
  rcases aaf t f 8 0 with g|⟨m,g,hm⟩;omega;exact⟨m,g,by omega⟩
def hasB (l:dB)(v:Int):Bool:=l.any (·==v)
theorem agU (l:dB)(v:Int)(h:l.length<=10^9):uy l v=some (hasB l v):=by
 unfold uy hasB;rw[Lz (hit:=some true) (fin:=some false) (λx:Int=>x==v) l (by omega) (λi hi nx=>?hs) (λnx=>?hf)]
 case hs=>
  simp only[vx]
  rw[mh,bS hi,al];rfl
 case hf=>
  simp only[vx]
  rw[du];rfl
 cases l.any (λx=>x==v)<;>rfl
theorem VC (l:ay α)(j:Nat)(h:j<=l.length):sub l (j:Int) (l.length:Int)=some (l.drop j):=by unfold sub;rw[zip];simp
def sH (f:Filter)(p:aQ):Bool:=rz f&&(((p.1==f.1)||((p.1==281474976710655)||f.2.1))&&((p.2.2.1== -1)||hasB f.2.2 p.2.2.1))
theorem T8 (f:Filter)(p:aQ)(h:f.2.2.length<=10^9):yM f p=some (sH f p):=by simp only[yM,MG f h,agU f.2.2 _ h,ae,sH];cases rz f<;>cases p.1==f.1<;>cases p.1==281474976710655<;>cases f.2.1<;>cases p.2.2.1== -1<;>rfl
def preB (a b n:Int):Bool:=fdiv a (2^(min (Int.toNat (au (32-n))) (IntKind.bits .i64)))==fdiv b (2^(min (Int.toNat (au (32-n))) (IntKind.bits .i64)))
theorem ack {r:km}(h:Bm r=true):0<=r.2.2.2.1/\r.2.2.2.1<=32:=by rw[<-aX];unfold Bm at h;simp only[mN,eU,ae,cA]at h;cases hp:dF r.2.2.2.1 0 32 with|true=>rfl|false=>rw[hp]at h;revert h;cases dF r.1 0 1000<;>cases r.2.1 !=0<;>cases r.2.1 !=6<;>cases r.2.1 !=17<;>cases dF r.2.2.1 0 4294967295<;>simp
def adi (r:km)(p:aQ):Bool:=preB r.2.2.1 p.2.2.2.2.2.2.1 r.2.2.2.1&&(dF p.2.2.2.2.2.2.2.2.2.2.1 r.2.2.2.2.1 r.2.2.2.2.2.1&&((r.2.2.2.2.2.2.1== -2)||(r.2.2.2.2.2.2.1==p.2.2.1)))
def CX (r:km)(p:aQ):Bool:=Bm r&&(cD p&&(((r.2.1==0)||(r.2.1==p.2.2.2.2.2.2.2.2.1))&&adi r p))
theorem agX (a b n:Int)(h0:0<=n)(h1:n<=32):pB a b n=some (preB a b n):=by unfold pB preB;rw[aH (by rw[al (n:=32-n)];omega),aH (by rw[al (n:=32-n)];omega)]
theorem aa6 (r:km)(p:aQ):rJ r p=some (CX r p):=by unfold rJ CX;rw[aeG,ae];cases hr:Bm r;rfl;have hp:=ack hr;simp only[pS,agX _ _ _ hp.1 hp.2,dw,ae,adi];cases cD p<;>cases r.2.1==0<;>cases r.2.1==p.2.2.2.2.2.2.2.2.1<;>cases preB r.2.2.1 p.2.2.2.2.2.2.1 r.2.2.2.1<;>cases dF p.2.2.2.2.2.2.2.2.2.2.1 r.2.2.2.2.1 r.2.2.2.2.2.1<;>cases r.2.2.2.2.2.2.1== -2<;>rfl
def Kq:km:=(0,0,0,0,0,0,0,0,0)
def uP (l:ay km)(p:aQ):Nat->Int
 |0=> -1
 |i+1=>bif CX (l.getD i Kq) p&&(decide (uP l p i<0)||decide ((l.getD i Kq).1<(l.getD (uP l p i).toNat Kq).1)) then(i:Int) else uP l p i
theorem LD (l:ay km)(p:aQ):∀i,uP l p i= -1\/∃n:Nat,uP l p i=(n:Int)/\n<i
 |0=> .inl rfl
 |i+1=>by rw[uP];cases CX (l.getD i Kq) p&&(decide (uP l p i<0)||decide ((l.getD i Kq).1<(l.getD (uP l p i).toNat Kq).1))with|true=>exact .inr ⟨i,rfl,by omega⟩|false=>rcases LD l p i with h|⟨n,h,hn⟩;exact .inl h;exact .inr ⟨n,h,by omega⟩
theorem aan (l:ay km)(p:aQ)(i:Nat)(hi:i<l.length)(nx:Int×Int->aC R): (aa (cond (CX l[i] p) (cond (decide (uP l p i<0)) (some true) (aa (idx l (uP l p i)) λx4=>some (decide (l[i].1<x4.1)))) (some false)) λq5=>cond q5 (nx ((i:Int),((i+1:Nat):Int))) (nx (uP l p i,((i+1:Nat):Int))))=nx (uP l p (i+1),((i+1:Nat):Int)):=by
 rw[uP,de hi];cases CX l[i] p;rfl;rcases LD l p i with h|⟨n,h,hn⟩;rw[h];rfl;have hl:n<l.length:=by omega
 rw[h,ar (show¬(n:Int)<0 by omega),bS hl];simp only[ah,af,ae,aA,de hl,bF,cd];cases decide (l[i].1<l[n].1)<;>rfl
def BW (l:ay km)(p:aQ):Int:=bif yn l then uP l p l.length else-1
theorem Tv (l:ay km)(p:aQ)(h:BW l p>=0):∃n:Nat,BW l p=(n:Int)/\n<l.length:=by unfold BW at h⊢;cases hr:yn l with|false=>rw[hr]at h;simp at h|true=>rw[hr]at h;simp only[ah]at h⊢;rcases LD l p l.length with g|g;omega;exact g
theorem aa4 (l:ay km)(p:aQ)(h:l.length<=10^9):xg l p=some (BW l p):=by unfold xg BW;rw[PL l h,ae];cases yn l;rfl;simp only[ak,af,ah];refine fW (λi=>(uP l p i,(i:Int))) l.length (by omega) (λi nx hi=>?_) (λnx=>?_);simp only[rD];rw[mh,bS hi,al (n:=(i:Int)+1)];simp only[ah,ae,aa6];exact aan l p i hi nx;simp only[rD];rw[du];rfl
def dm (p:aQ):AB:=(p.2.2.2.2.2.2.2.2.1,p.2.2.2.2.2.2.1,p.2.2.2.2.2.2.2.1,p.2.2.2.2.2.2.2.2.2.1,p.2.2.2.2.2.2.2.2.2.2.1)
theorem MH (p:aQ):uw p=some (dm p):=rfl
theorem afD (p:aQ):EH p=some (dm p):=rfl
def alZ:Slot:=(0,(0,0,0,0,0),0)
def iy (s:cV)(q:Int)(p:aQ):Int:=
 bif !gA s q|| !cD p then-1 else
 bif decide (BW s.1 p>=0) then(bif (s.1.getD (BW s.1 p).toNat Kq).2.2.2.2.2.2.2.1==1 then-1 else(s.1.getD (BW s.1 p).toNat Kq).2.2.2.2.2.2.2.2) else
 bif decide (findF s.2.1 (dm p)>=0) then(s.2.1.getD (findF s.2.1 (dm p)).toNat alZ).2.2 else Lq s.2.2 q (dm p)
theorem abe (s:cV)(q:Int)(p:aQ)(h1:s.1.length<=10^9)(h2:s.2.1.length<=10^9)(h3:s.2.2.2.length<=10^9):rN s q p=some (iy s q p):=by
 unfold rN iy;rw[HB s q h1 h2 h3,ae,pS,ae];cases gA s q;rfl;cases cD p;rfl;simp only[ak,af,ae,bG,aa4 s.1 p h1,MH,RU s.2.1 _ h2,Uj s.2.2 q _ h3];cases hd:decide (BW s.1 p>=0)with
 |true=>obtain⟨n,hn,hl⟩:=Tv s.1 p (bw hd);simp only[ah,hn,bS hl,ae,aA,de hl];cases s.1[n].2.2.2.2.2.2.2.1==1<;>rfl
 |false=>
  simp only[af];cases Mr:decide (findF s.2.1 (dm p)>=0)with
  |true=>obtain⟨n,hn,hl⟩:=Tu s.2.1 (dm p) (bw Mr);simp only[ah,hn,bS hl,ae,aA,de hl]
  |false=>rfl
def RZ (d:Ip):Bool:=dF d.1 0 255&&(dF d.2.2.1 0 255&&(dF d.2.2.2.1 0 255&&(dF d.2.1 0 65535&&(dF d.2.2.2.2.1 0 4294967295&&(dF d.2.2.2.2.2.1 0 4294967295&&decide ((d.2.2.2.2.2.2.length:Int)<=380))))))
theorem Vv (d:Ip):Fs d=some (RZ d):=by simp only[Fs,eU,ae,cA,cF,RZ]
theorem aeA (d:Ip):I5 d=some (RZ d):=Vv d
def HK (d:Ip):Bytes:=((((((bs2 69 (gF d.1)++aU (20+(d.2.2.2.2.2.2.length:Int)))++aU d.2.1)++aU 16384)++bs2 (gF d.2.2.1) (gF d.2.2.2.1))++aU 0)++dT d.2.2.2.2.1)++dT d.2.2.2.2.2.1
theorem MS (d:Ip):(HK d).length<=20:=by have:=bN (20+(d.2.2.2.2.2.2.length:Int));have:=bN d.2.1;have:=bN 16384;have:=bN 0;have:=eQ d.2.2.2.2.1;have:=eQ d.2.2.2.2.2.1;simp only[HK,aj,QY];omega
def yl (d:Ip):Bytes:=vJ (HK d) 10 (aU (KO (HK d)))
theorem Yt (d:Ip):xz d=some (bif RZ d then(yl d,true) else([],false)):=by
 unfold xz;rw[Vv,ae];cases hd:RZ d;rfl;have hn:(d.2.2.2.2.2.2.length:Int)<=380:=by simp only[RZ,ab,aE]at hd;omega
 have:=bN (20+(d.2.2.2.2.2.2.length:Int));have:=bN d.2.1;have:=bN 16384;have:=bN 0;have:=eQ d.2.2.2.2.1;have:=eQ d.2.2.2.2.2.1;have hl:=MS d;have e:∀x y,(aO [x,y]).length=2:=λ_ _=>rfl;rw[al (n:=20+(d.2.2.2.2.2.2.length:Int))];simp only[na,oY,ae,ak,af,ah];rw[bg (by simp only[aj,e];omega),bg (by simp only[aj,e];omega),bg (by simp only[aj,e];omega),bg (by simp only[aj,e];omega),bg (by simp only[aj,e];omega),bg (by simp only[aj,e];omega),bg (by simp only[aj,e];omega)];have hp:((((((aO [69,gF d.1]++aU (20+(d.2.2.2.2.2.2.length:Int)))++aU d.2.1)++aU 16384)++aO [gF d.2.2.1,gF d.2.2.2.1])++aU 0)++dT d.2.2.2.2.1)++dT d.2.2.2.2.2.1=HK d:=rfl;rw[hp,Sq _ (by omega),ae,Ii _ _ _];rfl
theorem Xv (d:Ip):xk d=some (bif RZ d then(yl d,true) else([],false)):=by
 unfold xk;rw[aeA,ae];cases hd:RZ d;rfl;have hn:(d.2.2.2.2.2.2.length:Int)<=380:=by simp only[RZ,ab,aE]at hd;omega
 have:=bN (20+(d.2.2.2.2.2.2.length:Int));have:=bN d.2.1;have:=bN 16384;have:=bN 0;have:=eQ d.2.2.2.2.1;have:=eQ d.2.2.2.2.2.1;have hl:=MS d;have hw:=bN (KO (HK d));have e:∀x y,(aO [x,y]).length=2:=λ_ _=>rfl;rw[al (n:=20+(d.2.2.2.2.2.2.length:Int))];simp only[lK,Ah,ae,ak,af,ah];rw[bg (by simp only[aj,e];omega),bg (by simp only[aj,e];omega),bg (by simp only[aj,e];omega),bg (by simp only[aj,e];omega),bg (by simp only[aj,e];omega),bg (by simp only[aj,e];omega),bg (by simp only[aj,e];omega)];have hp:((((((aO [69,gF d.1]++aU (20+(d.2.2.2.2.2.2.length:Int)))++aU d.2.1)++aU 16384)++aO [gF d.2.2.1,gF d.2.2.2.1])++aU 0)++dT d.2.2.2.2.1)++dT d.2.2.2.2.2.1=HK d:=rfl;rw[hp,Lk _ (by omega),ae,CL _ _ _];rfl
def OB (d:Ip):Bytes×Bool:=bif RZ d then(yl d++d.2.2.2.2.2.2,true) else([],false)
theorem I7 (d:Ip):(yl d).length<=20:=by unfold yl;rw[xX];exact MS d
theorem afE (d:Ip):vM d=some (OB d):=by
 unfold vM OB;rw[Yt,ae];cases hd:RZ d;rfl;have hn:(d.2.2.2.2.2.2.length:Int)<=380:=by simp only[RZ,ab,aE]at hd;omega
 have:=I7 d;simp only[ah,ak,af];rw[bg]
theorem aez (d:Ip):uZ d=some (OB d):=by
 unfold uZ OB;rw[Xv,ae];cases hd:RZ d;rfl;have hn:(d.2.2.2.2.2.2.length:Int)<=380:=by simp only[RZ,ab,aE]at hd;omega
 have:=I7 d;simp only[ah,ak,af];rw[bg]
def wD (n:Nat):Bytes:=aO (List.replicate n (0:Int))
theorem uH (n:Nat):(wD n).length=n:=by simp[wD,aO]
theorem NH (n:Nat)(h:n<=10^9:=by omega):ju (n:Int) 0=some (wD n):=by unfold ju;rw[zip,bg (by rw[aA];omega),aA];refine fW (λi=>(List.replicate n (0:Int),(i:Int))) n (by omega) (λi nx hi=>?_) (λnx=>?_);simp only[pE];rw[mh,bS (by simpa using hi),al];simp only[ah,ae,aA,List.set_replicate_self];rfl;simp only[pE];rw[du];rfl
theorem agY (n:Nat)(h:n<=10^9):uz 0 (n:Int)=some (wD n):=by unfold uz;rw[zip,bg (by rw[aA];omega),aA];refine fW (λi=>(List.replicate n (0:Int),(i:Int))) n (by omega) (λi nx hi=>?_) (λnx=>?_);simp only[vz];rw[aq (by simp;omega),bS (by simpa using hi),al];simp only[ah,ae,aA,List.set_replicate_self];rfl;simp only[vz];rw[ar (by simp)];rfl
def pad (s:Bytes):Bytes:=if s.length<46 then s++wD (46-s.length) else s
theorem Lm (s:Bytes):(pad s).length=max 46 s.length:=by unfold pad;split;simp only[aj,uH];omega;omega
theorem ahH (s:Bytes)(h:s.length<=10^9):yW s=some (pad s):=by unfold yW pad;by_cases hc:s.length<46;rw[mh,aF hc,al,show(46:Int)-(s.length:Int)=((46-s.length:Nat):Int) by omega,NH _];simp only[ah,ae];rw[bg (by rw[uH];omega)];rw[du,aH hc];rfl
theorem agW (s:Bytes)(h:s.length<=10^9):yQ s=some (pad s):=by unfold yQ pad;by_cases hc:s.length<46;rw[du,aF hc,al,show(46:Int)-(s.length:Int)=((46-s.length:Nat):Int) by omega,agY _ (by omega)];simp only[af,ae];rw[bg (by rw[uH];omega)];rw[mh,aH hc];rfl
def pt (e:Lx):Bool:=dF e.1 0 281474976710655&&(dF e.2.1 0 281474976710655&&(dF e.2.2.1 (-1) 4095&&(dF e.2.2.2.1 1536 65535&&((e.2.2.2.1 !=33024)&&dF (e.2.2.2.2.length:Int) 46 400))))
theorem JE (e:Lx):wO e=some (pt e):=by simp only[wO,eU,ae,cA,cF,pt]
theorem PI (e:Lx):Ai e=some (pt e):=JE e
def Gt (a:Int):Bytes:=(iS a).getD []
theorem Bo (a:Int):iS a=some (Gt a)/\(Gt a).length<=6:=by
 have h:∃x,iS a=some x/\x.length<=6:=by unfold iS;rw[kl];simp only[na,oY,ae];have h1:=bN (fdiv a (2^(nk 32)));have h2:=eQ (au (toNat (ia a&&&ia 4294967295)));rw[bg];exact⟨_,rfl,by simp only[aj];omega⟩
 obtain⟨x,hx,hl⟩:=h;unfold Gt;rw[hx];exact⟨rfl,hl⟩
theorem agV (a:Int):xq a=some (Gt a):=(Bo a).1
def Dv (e:Lx):Bytes:=(bif decide (e.2.2.1>=0) then(((Gt e.1++Gt e.2.1)++aU 33024)++aU e.2.2.1) else Gt e.1++Gt e.2.1)++aU e.2.2.2.1++e.2.2.2.2
theorem adY (e:Lx):(Dv e).length<=18+e.2.2.2.2.length:=by have:=(Bo e.1).2;have:=(Bo e.2.1).2;have:=bN 33024;have:=bN e.2.2.1;have:=bN e.2.2.2.1;unfold Dv;cases decide (e.2.2.1>=0)<;>simp only[ah,af,aj]<;>omega
def Rr (e:Lx):Bytes×Bool:=bif pt e then(Dv e,true) else([],false)
theorem ahG (e:Lx):xv e=some (Rr e):=by
 unfold xv Rr;rw[JE,ae];cases he:pt e;rfl;have hn:(e.2.2.2.2.length:Int)<=400:=by simp only[pt,ab,aX]at he;omega
 have:=(Bo e.1).2;have:=(Bo e.2.1).2;have:=bN 33024;have:=bN e.2.2.1;have:=bN e.2.2.2.1;simp only[(Bo _).1,na,ae,ak,af,ah,Dv];rw[bg];cases decide (e.2.2.1>=0)with|true=>simp only[ah];rw[bg (by simp only[aj];omega),bg (by simp only[aj];omega),bg (by simp only[aj];omega),bg (by simp only[aj];omega)]|false=>simp only[af];rw[bg (by simp only[aj];omega),bg (by simp only[aj];omega)]
theorem agT (e:Lx):xc e=some (Rr e):=by
 unfold xc Rr;rw[PI,ae];cases he:pt e;rfl;have hn:(e.2.2.2.2.length:Int)<=400:=by simp only[pt,ab,aX]at he;omega
 have:=(Bo e.1).2;have:=(Bo e.2.1).2;have:=bN 33024;have:=bN e.2.2.1;have:=bN e.2.2.2.1;simp only[agV,lK,ae,ak,af,ah,Dv];rw[bg];cases decide (e.2.2.1>=0)with|true=>simp only[ah];rw[bg,bg (by simp only[aj];omega),bg (by simp only[aj];omega),bg (by simp only[aj];omega)];simp only[aD]|false=>simp only[af];rw[bg (by simp only[aj];omega),bg (by simp only[aj];omega)]
def K3 (p:aQ):Bytes×Bool:=yo p.2.2.2.2.2.2.1 p.2.2.2.2.2.2.2.1 p.2.2.2.2.2.2.2.2
def PU (p:aQ):Bytes×Bool:=OB (p.2.2.2.1,p.2.2.2.2.1,p.2.2.2.2.2.1,p.2.2.2.2.2.2.2.2.1,p.2.2.2.2.2.2.1,p.2.2.2.2.2.2.2.1,(K3 p).1)
def adZ (p:aQ):Bytes×Bool:=Rr (p.1,p.2.1,p.2.2.1,2048,pad (PU p).1)
def cQ (p:aQ):Bytes×Bool:=bif cD p then adZ p else([],false)
theorem MR (p:aQ):(PU p).1.length<=360:=by have h1:=Z0 p.2.2.2.2.2.2.1 p.2.2.2.2.2.2.2.1 p.2.2.2.2.2.2.2.2;unfold PU OB;cases RZ (p.2.2.2.1,p.2.2.2.2.1,p.2.2.2.2.2.1,p.2.2.2.2.2.2.2.2.1,p.2.2.2.2.2.2.1,p.2.2.2.2.2.2.2.1,(K3 p).1)with|false=>exact cq _|true=>have h2:=I7 (p.2.2.2.1,p.2.2.2.2.1,p.2.2.2.2.2.1,p.2.2.2.2.2.2.2.2.1,p.2.2.2.2.2.2.1,p.2.2.2.2.2.2.2.1,(K3 p).1);have h3:(K3 p).1.length<=340:=h1;simp only[ah,aj];omega
theorem acz (p:aQ):tP p=some (cQ p):=by have hl:=MR p;unfold tP cQ;simp only[JH,EF,afE,ae];rw[show(OB (p.2.2.2.1,p.2.2.2.2.1,p.2.2.2.2.2.1,p.2.2.2.2.2.2.2.2.1,p.2.2.2.2.2.2.1,p.2.2.2.2.2.2.2.1,(yo p.2.2.2.2.2.2.1 p.2.2.2.2.2.2.2.1 p.2.2.2.2.2.2.2.2).1))=PU p from rfl,ahH _ (by omega),ae,ahG];cases cD p<;>rfl
theorem Fg (p:aQ):iQ p=some (cQ p):=by have hl:=MR p;unfold iQ cQ;simp only[pS,Ek,aez,ae];rw[show(OB (p.2.2.2.1,p.2.2.2.2.1,p.2.2.2.2.2.1,p.2.2.2.2.2.2.2.2.1,p.2.2.2.2.2.2.1,p.2.2.2.2.2.2.2.1,(yo p.2.2.2.2.2.2.1 p.2.2.2.2.2.2.2.1 p.2.2.2.2.2.2.2.2).1))=PU p from rfl,agW _ (by omega),ae,agT];cases cD p<;>rfl
theorem Ff (h:cD p=true):(cQ p).2=true:=by
 have hl:=MR p;have hh:nN p=true:=by simp only[cD,ab]at h;exact h.1
 have hp:=Lm (PU p).1;unfold cQ adZ Rr;rw[h,ah];have:pt (p.1,p.2.1,p.2.2.1,2048,pad (PU p).1)=true:=by simp only[nN,ab]at hh;simp only[pt,ab];refine⟨hh.1,hh.2.1,hh.2.2.1,by decide,by decide,aX.2 ?_⟩;omega
 rw[this];rfl
theorem nO (p:aQ):(cQ p).1.length<=378:=by have hl:=MR p;have hp:=Lm (PU p).1;unfold cQ adZ Rr;cases cD p with|false=>exact cq _|true=>cases pt (p.1,p.2.1,p.2.2.1,2048,pad (PU p).1)with|false=>exact cq _|true=>have:=adY (p.1,p.2.1,p.2.2.1,2048,pad (PU p).1);simp only[ah]at this⊢;omega
def fcs (c:Int):Bytes:=aO [gF c,gF (fdiv c (2^(nk 8))),gF (fdiv c (2^(nk 16))),gF (fdiv c (2^(nk 24)))]
def Bs (s:Bytes):Bytes:=s++fcs (adj s)
theorem agF (c:Int):(fcs c).length=4:=rfl
theorem Z2 (s:Bytes)(h:s.length<=10^9):vU s=some (Bs s):=by unfold vU;rw[ahD s h,ae,kl,kl,kl];exact bg (by show s.length+4<=_;omega)
theorem ZF (s:Bytes)(h:s.length<=10^9):vr s=some (Bs s):=by unfold vr;rw[agR s h,ae,kl,kl,kl];exact bg (by show s.length+4<=_;omega)
def fZ (p:aQ):Bool:=cD p&&decide ((p.2.2.2.2.2.2.2.2.2.2.2.2.2.2.2.length:Int)<=128)
theorem NJ (p:aQ):tr p=some (fZ p):=by simp only[tr,JH,ae,cA,cF,fZ]
theorem CK (p:aQ):mU p=some (fZ p):=by simp only[mU,pS,ae,cA,cF,fZ]
def zY (p:aQ):Bytes×Bool:=bif fZ p then(Bs (cQ p).1,true) else([],false)
theorem acy (p:aQ):tO p=some (zY p):=by have hl:=nO p;simp only[tO,NJ,acz,Z2 _ (show(cQ p).1.length<=10^9 by omega),ae,zY];cases fZ p<;>rfl
theorem aa5 (p:aQ):tA p=some (zY p):=by
 have hl:=nO p;simp only[tA,CK,Fg,ZF _ (show(cQ p).1.length<=10^9 by omega),ae,zY];cases hp:fZ p with
 |false=>rfl
 |true=>
  have:cD p=true:=by simp only[fZ,ab]at hp;exact hp.1
  rw[Ff this];rfl
theorem Py (p:aQ):(zY p).1.length<=382:=by have hl:=nO p;unfold zY;cases fZ p with|false=>exact cq _|true=>simp only[ah,Bs,aj,agF];omega
def Yb (p:aQ)(z:Int)(k:Nat):aQ:=
 (p.1,p.2.1,p.2.2.1,p.2.2.2.1,tmod (au (p.2.2.2.2.1+(k:Int))) 65536,p.2.2.2.2.2.1,p.2.2.2.2.2.2.1,p.2.2.2.2.2.2.2.1,p.2.2.2.2.2.2.2.2.1,p.2.2.2.2.2.2.2.2.2.1,p.2.2.2.2.2.2.2.2.2.2.1,
   tmod (au (p.2.2.2.2.2.2.2.2.2.2.2.1+((k:Int)*z))) 4294967296,p.2.2.2.2.2.2.2.2.2.2.2.2.1,
   (bif decide (((k:Int)+1)*z<(p.2.2.2.2.2.2.2.2.2.2.2.2.2.2.2.length:Int)) then au (toNat (ia p.2.2.2.2.2.2.2.2.2.2.2.2.2.1&&&~~~ ia 9)) else p.2.2.2.2.2.2.2.2.2.2.2.2.2.1),
   p.2.2.2.2.2.2.2.2.2.2.2.2.2.2.1,(p.2.2.2.2.2.2.2.2.2.2.2.2.2.2.2.take (min ((k+1)*z.toNat) p.2.2.2.2.2.2.2.2.2.2.2.2.2.2.2.length)).drop (k*z.toNat))
def tL (n z:Nat):Nat:=(n+z-1)/z
def GG (p:aQ)(z:Int):ay aQ:=bif cD p&&dF z 1 128 then
    (bif (p.2.2.2.2.2.2.2.2.1 !=6)||decide ((p.2.2.2.2.2.2.2.2.2.2.2.2.2.2.2.length:Int)<=z) then [p] else(range (tL p.2.2.2.2.2.2.2.2.2.2.2.2.2.2.2.length z.toNat)).map (Yb p z)) else []
theorem Qi {z k:Nat}(hz:0<z:=by omega):k<tL n z↔k*z<n:=by unfold tL;rw[Nat.lt_div_iff_mul_lt hz];omega
theorem Dd (h:cD p=true):p.2.2.2.2.2.2.2.2.2.2.2.2.2.2.2.length<=320:=by
 have hh:nN p=true:=by simp only[cD,ab]at h;exact h.1
 exact Cr (uX hh)
theorem acG {b:Bytes}{k z:Nat}(hk:k*z<b.length)(hb:b.length<=320):sub b ((k*z:Nat):Int) ((min ((k+1)*z) b.length:Nat):Int)=some ((b.take (min ((k+1)*z) b.length)).drop (k*z)):=by have:k*z<=(k+1)*z:=cO _ (by omega);unfold sub;rw[zip,aA,aA]
theorem abd (p:aQ)(z:Int):CQ p z=some (GG p z):=by
 unfold CQ GG;simp only[pS,dw,ae];cases hs:cD p;rfl;cases hz:dF z 1 128;rfl;have hz':=aX.1 hz;have hb:=Dd hs;simp only[ak,af,cY,ah,ae,cA,cT];cases hq:(p.2.2.2.2.2.2.2.2.1 !=6)||decide ((p.2.2.2.2.2.2.2.2.2.2.2.2.2.2.2.length:Int)<=z)with
 |true=>rfl
 |false=>
  simp only[af];obtain⟨m,rfl⟩:=az (show 0<=z by omega);have hN:∀k,k<tL p.2.2.2.2.2.2.2.2.2.2.2.2.2.2.2.length m↔k*m<p.2.2.2.2.2.2.2.2.2.2.2.2.2.2.2.length:=λk=>Qi;have Hk:tL p.2.2.2.2.2.2.2.2.2.2.2.2.2.2.2.length m<=320:=by rcases bW 320 (tL p.2.2.2.2.2.2.2.2.2.2.2.2.2.2.2.length m)with h|h;have:=(hN 320).1 h;have:320*1<=320*m:=Nat.mul_le_mul_left _ (by omega);omega;exact h
  refine fW (λk=>((range k).map (Yb p (m:Int)),(k:Int))) (tL p.2.2.2.2.2.2.2.2.2.2.2.2.2.2.2.length m) (by omega) (λk nx hk=>?_) (λnx=>?_);have hkm:=(hN k).1 hk;have hk1:(k+1)*m=k*m+m:=by rw[cW,fY]
  have e1:(k:Int)*(m:Int)=((k*m:Nat):Int):=by push_cast;rfl
  have e2:((k:Int)+1)*(m:Int)=(((k+1)*m:Nat):Int):=by push_cast;rfl
  have qc:=acG hkm hb;simp only[xn];rw[al (n:=(k:Int)+1),e1,e2,iU (n:=k*m),iU (n:=(k+1)*m),mh,ah];rw[List.range_succ,cp,List.map_singleton];simp only[Yb,e1,e2,aA];by_cases hc:(((k+1)*m:Nat):Int)<(p.2.2.2.2.2.2.2.2.2.2.2.2.2.2.2.length:Int);rw[aq hc];rw[show min ((k+1)*m) p.2.2.2.2.2.2.2.2.2.2.2.2.2.2.2.length=(k+1)*m by omega]at qc⊢;simp only[ah];rw[qc,ae,kl,kl,bg (by simp;omega)];rfl;rw[ar hc];rw[show min ((k+1)*m) p.2.2.2.2.2.2.2.2.2.2.2.2.2.2.2.length=p.2.2.2.2.2.2.2.2.2.2.2.2.2.2.2.length by omega]at qc⊢;simp only[af];rw[qc,ae,kl,kl,bg (by simp;omega)];rfl;have hkm:¬tL p.2.2.2.2.2.2.2.2.2.2.2.2.2.2.2.length m*m<p.2.2.2.2.2.2.2.2.2.2.2.2.2.2.2.length:=λh=>absurd ((hN _).2 h) (Nat.lt_irrefl _);have hub:tL p.2.2.2.2.2.2.2.2.2.2.2.2.2.2.2.length m*m<=320*128:=Nat.mul_le_mul Hk (by omega);have e1:((tL p.2.2.2.2.2.2.2.2.2.2.2.2.2.2.2.length m:Nat):Int)*(m:Int)=((tL p.2.2.2.2.2.2.2.2.2.2.2.2.2.2.2.length m*m:Nat):Int):=by push_cast;rfl
  simp only[xn];rw[e1,iU,du];rfl
theorem NO (p:aQ)(z:Int):(GG p z).length<=320:=by unfold GG;cases hs:cD p&&dF z 1 128;exact cq _;simp only[ab,aX]at hs;have hb:=Dd hs.1;cases (p.2.2.2.2.2.2.2.2.1 !=6)||decide ((p.2.2.2.2.2.2.2.2.2.2.2.2.2.2.2.length:Int)<=z)with|true=>simp only[ah,bB];omega|false=>simp only[ah,af,cI,List.length_range];rcases bW 320 (tL p.2.2.2.2.2.2.2.2.2.2.2.2.2.2.2.length z.toNat)with h|h;have:=(Qi).1 h;have:320*1<=320*z.toNat:=Nat.mul_le_mul_left _ (by omega);omega;exact h
def QS (acc:cg)(p:aQ):cg:=bif (zY p).2 then acc++[(zY p).1] else acc
theorem SW (acc:cg)(p:aQ):(QS acc p).length<=acc.length+1:=by unfold QS;cases (zY p).2<;>simp
def Lf (l:ay aQ):cg:=l.foldl QS []
theorem J0:∀(l:ay aQ)(acc:cg),(l.foldl QS acc).length<=acc.length+l.length
 |[],acc=>by simp
 |p::l,acc=>by have:=J0 l (QS acc p);have:=SW acc p;simp only[List.foldl_cons,aS];omega
theorem FI:∀(l:ay aQ)(acc:cg),(∀x∈acc,x.length<=382)->∀x∈l.foldl QS acc,x.length<=382
 |[],acc,h=>h
 |p::l,acc,h=>by rw[List.foldl_cons];refine FI l _ (λx hx=>?_);unfold QS at hx;cases hf:(zY p).2 with|false=>rw[hf]at hx;exact h x hx|true=>rw[hf]at hx;simp only[ah,ax,bn]at hx;rcases hx with hx|hx;exact h x hx;rw[hx];exact Py p
theorem Xr (l:ay aQ)(h:l.length<=10^9):xh l=some (Lf l):=by
 unfold xh Lf;have:=H8 (T:=nR (λ(y3:cg) (_:Int)=>some y3) l (l.length:Int)) l (λ(s:cg) i=>(s,(i:Int))) (λi s=>s.length<=i) (λp s=> .ok (QS s p)) (λs=>some s) (by omega) (λi hi s nx hI=>?hs) (λi hi s s' hI hg=>?hn) (λs nx hI=>?hf) [] (by simp)
 case hs=>
  simp only[nR]
  rw[mh,bS hi,al (n:=(i:Int)+1)]
  simp only[ah,ae,aa5,QS]
  rw[bg (by simp;omega)]
  cases (zY l[i]).2<;>rfl
 case hn=>cases hg;have:=SW s l[i];omega
 case hf=>
  simp only[nR]
  rw[du];rfl
 rw[Lo]at this;exact this
def Vm (p:aQ)(z:Int):cg:=Lf (GG p z)
theorem aeJ (p:aQ)(z:Int):tF p z=some (Vm p z):=by have:=NO p z;simp only[tF,abd,Xr _ (show(GG p z).length<=10^9 by omega),ae];rfl
theorem acs (p:aQ)(z:Int):(Vm p z).length<=320/\∀x∈Vm p z,x.length<=382:=by have:=NO p z;have:=J0 (GG p z) [];exact⟨by unfold Vm Lf;simp only[dv]at this;omega,FI _ [] (by simp)⟩
theorem D6 (h0:0<=a:=by omega)(h:a+2<=(s.length:Int):=by omega):0<=cl s a/\cl s a<=65535:=by have h1:=fB s a.toNat;have h2:=fB s (a.toNat+1);unfold cl fz;rw[aq ⟨h0,h⟩];simp only[ah];omega
theorem B0 (h0:0<=a:=by omega)(h:a+4<=(s.length:Int):=by omega):0<=fP s a/\fP s a<=4294967295:=by have h1:=fB s a.toNat;have h2:=fB s (a.toNat+1);have h3:=fB s (a.toNat+2);have h4:=fB s (a.toNat+3);unfold fP fz;rw[aq ⟨h0,h⟩];simp only[ah];omega
theorem aeR {x y:Int}(hx:0<=x/\x<=65535)(hy:0<=y/\y<=4294967295):au (toNat (ia (au (x*2^(nk 32)))|||ia y))=x*4294967296+y:=by have e:(2:Int)^(nk 32)=4294967296:=rfl;obtain⟨x,rfl⟩:=az hx.1;obtain⟨y,rfl⟩:=az hy.1;rw[e,al (n:=(x:Int)*4294967296),show(x:Int)*4294967296=((2^32*x:Nat):Int) by omega,Gx x 32 y];omega
theorem ZM {x y:Int}(hx:0<=x/\x<=65535)(hy:0<=y/\y<=4294967295):au (au (x*2^(nk 32))+y)=x*4294967296+y:=by have e:(2:Int)^(nk 32)=4294967296:=rfl;rw[e,al (n:=x*4294967296),al]
theorem zx {l:ay α}{n:Int}(h0:0<=n:=by omega)(h1:n<=(l.length:Int):=by omega):sub l 0 n=some (l.take n.toNat):=by unfold sub;rw[zip];simp
theorem wg {l:ay α}(k:Nat)(h:k<=l.length)(ha:a=(k:Int)):sub l a (l.length:Int)=some (l.drop k):=by unfold sub;rw[zip];subst ha;simp
theorem SA {l:ay α}(k:Nat){n:Int}(ha:a=(k:Int))(h0:a<=n:=by omega)(h1:n<=(l.length:Int):=by omega):sub l a n=some ((l.take n.toNat).drop k):=by unfold sub;rw[zip];subst ha;simp
def yf (s:Bytes):Bytes×Bool:=bif decide ((s.length:Int)<4) then([],false) else bif Bs (s.take ((s.length:Int)-4).toNat)==s then(s.take ((s.length:Int)-4).toNat,true) else([],false)
theorem Yr (s:Bytes)(h:s.length<=10^9):xw s=some (yf s):=by unfold xw yf;rw[al (n:=(s.length:Int)-4)];by_cases h4:(s.length:Int)<4;rw[aq h4];rfl;rw[ar h4,zx];simp only[af,ae,Z2 _ (show(s.take ((s.length:Int)-4).toNat).length<=10^9 by rw[aY];omega)];cases Bs (s.take ((s.length:Int)-4).toNat)==s<;>rfl
theorem Xo (s:Bytes)(h:s.length<=10^9):xd s=some (yf s):=by unfold xd yf;rw[al (n:=(s.length:Int)-4)];by_cases h4:(s.length:Int)<4;rw[aq (show(s.length:Int)-4<0 by omega),aq h4];rfl;rw[ar (show¬(s.length:Int)-4<0 by omega),ar h4,zx];simp only[af,ae,ZF _ (show(s.take ((s.length:Int)-4).toNat).length<=10^9 by rw[aY];omega)];cases Bs (s.take ((s.length:Int)-4).toNat)==s<;>rfl
def adX:Lx:=(0,0,0,0,([]:Bytes))
def yC (s:Bytes)(a:Int):Int:=cl s a*4294967296+fP s (a+2)
def DV (s:Bytes):Lx:=(yC s 0,yC s 6,cl s 14,cl s 16,s.drop 18)
def uT (s:Bytes):Lx:=(yC s 0,yC s 6, -1,cl s 12,s.drop 14)
def gb (s:Bytes):Lx×Bool:=bif decide ((s.length:Int)<18) then(adX,false) else
 bif cl s 12==33024 then(bif pt (DV s) then(DV s,true) else(adX,false)) else bif pt (uT s) then(uT s,true) else(adX,false)
theorem Ss (s:Bytes)(h:s.length<=10^9):xA s=some (gb s):=by unfold xA gb;by_cases h8:(s.length:Int)<18;rw[aq h8];rfl;rw[ar h8];simp only[af,Cs s _ h,JG s _ h,ae];rw[kl,kl,wg (l:=s) 14 (by omega) (show(14:Int)=((14:Nat):Int) from rfl),ae,wg (l:=s) 18 (by omega) (show(18:Int)=((18:Nat):Int) from rfl)];rw[ZM (D6 (s:=s) (a:=0)) (B0 (s:=s) (a:=2)),ZM (D6 (s:=s) (a:=6)) (B0 (s:=s) (a:=8))];simp only[ae,JE];rw[show((cl s 0*4294967296+fP s 2,cl s 6*4294967296+fP s 8,cl s 14,cl s 16,s.drop 18):Lx)=DV s from rfl,show((cl s 0*4294967296+fP s 2,cl s 6*4294967296+fP s 8, -1,cl s 12,s.drop 14):Lx)=uT s from rfl];cases cl s 12==33024<;>cases pt (DV s)<;>cases pt (uT s)<;>rfl
theorem Hx (s:Bytes)(h:s.length<=10^9):sU s=some (gb s):=by
 unfold sU gb;by_cases h4:(s.length:Int)<14;rw[aq h4,aq (show(s.length:Int)<18 by omega)];rfl;rw[ar h4];simp only[af,wH s _ h,zJ s _ h,ae];rw[kl,kl,wg (l:=s) 14 (by omega) (show(14:Int)=((14:Nat):Int) from rfl),ae];rw[aeR (D6 (s:=s) (a:=0)) (B0 (s:=s) (a:=2)),aeR (D6 (s:=s) (a:=6)) (B0 (s:=s) (a:=8))];simp only[ae,PI];rw[show((cl s 0*4294967296+fP s 2,cl s 6*4294967296+fP s 8, -1,cl s 12,s.drop 14):Lx)=uT s from rfl];by_cases h8:(s.length:Int)<18;have hB:pt (uT s)=false:=by
  unfold pt uT;have:dF ((s.drop 14).length:Int) 46 400=false:=by rw[Bool.eq_false_iff,ne_eq,aX,aP];omega
  simp only[this,ee]
 rw[aq h8,ar (show¬(s.length:Int)>=18 by omega),hB];cases cl s 12==33024<;>rfl;rw[ar h8,aq (show(s.length:Int)>=18 by omega),wg (l:=s) 18 (by omega) (show(18:Int)=((18:Nat):Int) from rfl)];simp only[ae];rw[show((cl s 0*4294967296+fP s 2,cl s 6*4294967296+fP s 8,cl s 14,cl s 16,s.drop 18):Lx)=DV s from rfl];cases cl s 12==33024<;>cases pt (DV s)<;>cases pt (uT s)<;>rfl
def ip0:Ip:=(0,0,0,0,0,0,([]:Bytes))
def BG (s:Bytes):Ip:=((bO s 1:Int),cl s 4,(bO s 8:Int),(bO s 9:Int),fP s 12,fP s 16,(s.take (cl s 2).toNat).drop 20)
def ky (s:Bytes):Ip×Bool:=bif decide ((s.length:Int)<20)||(decide (cl s 2<20)||decide (cl s 2>(s.length:Int))) then(ip0,false) else
 bif (OB (BG s)).2&&((OB (BG s)).1==s.take (cl s 2).toNat) then(BG s,true) else(ip0,false)
theorem Vw (s:Bytes)(h:s.length<=10^9):yX s=some (ky s):=by
 unfold yX ky;simp only[Cs s _ h,JG s _ h,ae];by_cases h1:(s.length:Int)<20;rw[aq h1];rfl;by_cases h2:cl s 2<20;rw[ar h1,aq h2];rfl;by_cases h3:cl s 2>(s.length:Int);rw[ar h1,ar h2,aq h3];rfl;rw[ar h1,ar h2,ar h3];have b1:=ns (s[1]'(by omega));have b8:=ns (s[8]'(by omega));have b9:=ns (s[9]'(by omega));have i1:idx s 1=some (s[1]'(by omega)):=bS (i:=1) (by omega);have i8:idx s 8=some (s[8]'(by omega)):=bS (i:=8) (by omega);have i9:idx s 9=some (s[9]'(by omega)):=bS (i:=9) (by omega);simp only[af,ae,bG,i1,i8,i9];rw[SA (l:=s) 20 (show(20:Int)=((20:Nat):Int) from rfl),zx,iU (n:=(s[1]'(by omega)).toNat),iU (n:=(s[8]'(by omega)).toNat),iU (n:=(s[9]'(by omega)).toNat)];have e:(((s[1]'(by omega)).toNat:Int),cl s 4,((s[8]'(by omega)).toNat:Int),((s[9]'(by omega)).toNat:Int),fP s 12,fP s 16,(s.take (cl s 2).toNat).drop 20)=BG s:=by simp only[BG,bO,de (show 1<s.length by omega),de (show 8<s.length by omega),de (show 9<s.length by omega)]
 simp only[ae,e,afE];cases (OB (BG s)).2<;>cases (OB (BG s)).1==s.take (cl s 2).toNat<;>rfl
theorem Uf (s:Bytes)(h:s.length<=10^9):yR s=some (ky s):=by
 unfold yR ky;simp only[wH s _ h,zJ s _ h,ae];by_cases h1:(s.length:Int)<20;rw[aq h1];rfl;by_cases h2:cl s 2<20;rw[ar h1,aq h2];rfl;by_cases h3:cl s 2>(s.length:Int);rw[ar h1,ar h2,aq h3];rfl;rw[ar h1,ar h2,ar h3];have b1:=ns (s[1]'(by omega));have b8:=ns (s[8]'(by omega));have b9:=ns (s[9]'(by omega));have i1:idx s 1=some (s[1]'(by omega)):=bS (i:=1) (by omega);have i8:idx s 8=some (s[8]'(by omega)):=bS (i:=8) (by omega);have i9:idx s 9=some (s[9]'(by omega)):=bS (i:=9) (by omega);simp only[af,ae,bG,i1,i8,i9];rw[SA (l:=s) 20 (show(20:Int)=((20:Nat):Int) from rfl),zx,iU (n:=(s[1]'(by omega)).toNat),iU (n:=(s[8]'(by omega)).toNat),iU (n:=(s[9]'(by omega)).toNat)];have e:(((s[1]'(by omega)).toNat:Int),cl s 4,((s[8]'(by omega)).toNat:Int),((s[9]'(by omega)).toNat:Int),fP s 12,fP s 16,(s.take (cl s 2).toNat).drop 20)=BG s:=by simp only[BG,bO,de (show 1<s.length by omega),de (show 8<s.length by omega),de (show 9<s.length by omega)]
 simp only[ae,e,aez];cases (OB (BG s)).2<;>cases (OB (BG s)).1==s.take (cl s 2).toNat<;>rfl
def akj:eY:=(0,0,0,0,0,0,0,([]:Bytes))
def JC (k:Int)(s:Bytes):eY:=(k,cl s 0,cl s 2,fP s 4,fP s 8,(bO s 13:Int),cl s 14,s.drop 20)
def NB (k:Int)(s:Bytes):eY:=(k,cl s 0,cl s 2,0,0,0,0,s.drop 8)
def mJ (a b k:Int)(s:Bytes):eY×Bool:=
 bif (k==6)&&decide ((s.length:Int)>=20) then(bif (yo a b (JC k s)).2&&((yo a b (JC k s)).1==s) then(JC k s,true) else(akj,false)) else
 bif (k==17)&&decide ((s.length:Int)>=8) then(bif (yo a b (NB k s)).2&&((yo a b (NB k s)).1==s) then(NB k s,true) else(akj,false)) else(akj,false)
theorem St (a b k:Int)(s:Bytes)(h:s.length<=10^9):qF a b k s=some (mJ a b k s):=by
 unfold qF mJ;simp only[Cs s _ h,JG s _ h,ae];rw[show(aa (cond (k==6) (some (decide ((s.length:Int)>=20))) (some false)):(Bool->aC (eY×Bool))->aC (eY×Bool))=λK=>K ((k==6)&&decide ((s.length:Int)>=20)) from by funext K;cases k==6<;>rfl];rw[show(aa (cond (k==17) (some (decide ((s.length:Int)>=8))) (some false)):(Bool->aC (eY×Bool))->aC (eY×Bool))=λK=>K ((k==17)&&decide ((s.length:Int)>=8)) from by funext K;cases k==17<;>rfl];simp only;cases h1:(k==6)&&decide ((s.length:Int)>=20)with
 |true=>
  simp only[ab,aE]at h1;have bb:=ns (s[13]'(by omega));have i:idx s 13=some (s[13]'(by omega)):=bS (i:=13) (by omega);have e:(k,cl s 0,cl s 2,fP s 4,fP s 8,((s[13]'(by omega)).toNat:Int),cl s 14,s.drop 20)=JC k s:=by simp only[JC,bO,de (show 13<s.length by omega)]
  simp only[ah,i,ae];rw[wg (l:=s) 20 (by omega) (show(20:Int)=((20:Nat):Int) from rfl),iU (n:=(s[13]'(by omega)).toNat)];simp only[ae,e,EF];cases (yo a b (JC k s)).2<;>cases (yo a b (JC k s)).1==s<;>rfl
 |false=>simp only[af];cases h2:(k==17)&&decide ((s.length:Int)>=8)with|false=>rfl|true=>simp only[ab,aE]at h2;rw[wg (l:=s) 8 (by omega) (show(8:Int)=((8:Nat):Int) from rfl)];simp only[ah,ae,show((k,cl s 0,cl s 2,0,0,0,0,s.drop 8):eY)=NB k s from rfl,EF];cases (yo a b (NB k s)).2<;>cases (yo a b (NB k s)).1==s<;>rfl
theorem RV (a b k:Int)(s:Bytes)(h:s.length<=10^9):qu a b k s=some (mJ a b k s):=by
 unfold qu mJ;simp only[wH s _ h,zJ s _ h,ae];rw[show(aa (cond (k==6) (some (decide ((s.length:Int)>=20))) (some false)):(Bool->aC (eY×Bool))->aC (eY×Bool))=λK=>K ((k==6)&&decide ((s.length:Int)>=20)) from by funext K;cases k==6<;>rfl];rw[show(aa (cond (k==17) (some (decide ((s.length:Int)>=8))) (some false)):(Bool->aC (eY×Bool))->aC (eY×Bool))=λK=>K ((k==17)&&decide ((s.length:Int)>=8)) from by funext K;cases k==17<;>rfl];simp only;cases h1:(k==6)&&decide ((s.length:Int)>=20)with
 |true=>
  simp only[ab,aE]at h1;have bb:=ns (s[13]'(by omega));have i:idx s 13=some (s[13]'(by omega)):=bS (i:=13) (by omega);have e:(k,cl s 0,cl s 2,fP s 4,fP s 8,((s[13]'(by omega)).toNat:Int),cl s 14,s.drop 20)=JC k s:=by simp only[JC,bO,de (show 13<s.length by omega)]
  simp only[ah,i,ae];rw[wg (l:=s) 20 (by omega) (show(20:Int)=((20:Nat):Int) from rfl),iU (n:=(s[13]'(by omega)).toNat)];simp only[ae,e,Ek];cases (yo a b (JC k s)).2<;>cases (yo a b (JC k s)).1==s<;>rfl
 |false=>simp only[af];cases h2:(k==17)&&decide ((s.length:Int)>=8)with|false=>rfl|true=>simp only[ab,aE]at h2;rw[wg (l:=s) 8 (by omega) (show(8:Int)=((8:Nat):Int) from rfl)];simp only[ah,ae,show((k,cl s 0,cl s 2,0,0,0,0,s.drop 8):eY)=NB k s from rfl,Ek];cases (yo a b (NB k s)).2<;>cases (yo a b (NB k s)).1==s<;>rfl
def pk0:aQ:=(0,0,0,0,0,0,0,0,0,0,0,0,0,0,0,([]:Bytes))
def jE (s:Bytes):aQ×Int:=
 let e:=gb s
 bif !e.2||(e.1.2.2.2.1 !=2048) then(pk0,2) else
 let i:=ky e.1.2.2.2.2
 bif !i.2 then(pk0,3) else
 let g:=mJ i.1.2.2.2.2.1 i.1.2.2.2.2.2.1 i.1.2.2.2.1 i.1.2.2.2.2.2.2
 bif !g.2 then(pk0,4) else
 bif !cD (e.1.1,e.1.2.1,e.1.2.2.1,i.1.1,i.1.2.1,i.1.2.2.1,i.1.2.2.2.2.1,i.1.2.2.2.2.2.1,g.1) then(pk0,5) else
 ((e.1.1,e.1.2.1,e.1.2.2.1,i.1.1,i.1.2.1,i.1.2.2.1,i.1.2.2.2.2.1,i.1.2.2.2.2.2.1,g.1),0)
theorem C0 (s:Bytes):(gb s).1.2.2.2.2.length<=s.length:=by
 unfold gb;cases decide ((s.length:Int)<18);case true=>simp[adX]
 cases cl s 12==33024<;>cases pt (DV s)<;>cases pt (uT s)<;>simp[adX,DV,uT]
theorem Kl (s:Bytes):(ky s).1.2.2.2.2.2.2.length<=s.length:=by
 unfold ky;cases decide ((s.length:Int)<20)||(decide (cl s 2<20)||decide (cl s 2>(s.length:Int)));case true=>simp[ip0]
 cases (OB (BG s)).2&&((OB (BG s)).1==s.take (cl s 2).toNat)with|false=>simp[ip0]|true=>simp[BG];omega
theorem acC (s:Bytes)(h:s.length<=10^9):vS s=some (jE s):=by
 have h1:=C0 s;unfold vS jE;rw[Ss s h,ae];generalize gb s=e at h1⊢;have h2:=Kl e.1.2.2.2.2;simp only;cases e.2;rfl;cases e.1.2.2.2.1 !=2048;case true=>rfl
 simp only[ak,af,ae,bG,Vw _ (show e.1.2.2.2.2.length<=10^9 by omega)];generalize ky e.1.2.2.2.2=i at h2⊢;cases i.2;rfl;simp only[ak,af,ae,St _ _ _ _ (show i.1.2.2.2.2.2.2.length<=10^9 by omega)];generalize mJ i.1.2.2.2.2.1 i.1.2.2.2.2.2.1 i.1.2.2.2.1 i.1.2.2.2.2.2.2=g;cases g.2;rfl;simp only[ak,af,ae,JH];cases cD (e.1.1,e.1.2.1,e.1.2.2.1,i.1.1,i.1.2.1,i.1.2.2.1,i.1.2.2.2.2.1,i.1.2.2.2.2.2.1,g.1)<;>rfl
theorem Fh (s:Bytes)(h:s.length<=10^9):jr s=some (jE s):=by
 have h1:=C0 s;unfold jr jE;rw[Hx s h,ae];generalize gb s=e at h1⊢;have h2:=Kl e.1.2.2.2.2;simp only;cases e.2;rfl;cases e.1.2.2.2.1 !=2048;case true=>rfl
 simp only[ak,af,ae,bG,Uf _ (show e.1.2.2.2.2.length<=10^9 by omega)];generalize ky e.1.2.2.2.2=i at h2⊢;cases i.2;rfl;simp only[ak,af,ae,RV _ _ _ _ (show i.1.2.2.2.2.2.2.length<=10^9 by omega)];generalize mJ i.1.2.2.2.2.1 i.1.2.2.2.2.2.1 i.1.2.2.2.1 i.1.2.2.2.2.2.2=g;cases g.2;rfl;simp only[ak,af,ae,pS];cases cD (e.1.1,e.1.2.1,e.1.2.2.1,i.1.1,i.1.2.1,i.1.2.2.1,i.1.2.2.2.2.1,i.1.2.2.2.2.2.1,g.1)<;>rfl
def gR (s:Bytes):aQ×Int:=
 let c:=yf s
 bif !c.2 then(pk0,1) else
 let r:=jE c.1
 bif r.2 !=0 then(pk0,r.2) else
 bif !fZ r.1 then(pk0,5) else(r.1,0)
theorem LR (s:Bytes):(yf s).1.length<=s.length:=by
 unfold yf;cases decide ((s.length:Int)<4);case true=>simp
 cases Bs (s.take ((s.length:Int)-4).toNat)==s with|false=>simp|true=>simp;omega
theorem acB (s:Bytes)(h:s.length<=10^9):vR s=some (gR s):=by
 have h1:=LR s;unfold vR gR;rw[Yr s h,ae];generalize yf s=c at h1⊢;simp only;cases c.2;rfl;simp only[ak,af,ae,acC _ (show c.1.length<=10^9 by omega)];generalize jE c.1=r;cases r.2 !=0;case true=>rfl
 simp only[af,ae,NJ];cases fZ r.1<;>rfl
theorem aa9 (s:Bytes)(h:s.length<=10^9):vm s=some (gR s):=by
 have h1:=LR s;unfold vm gR;rw[Xo s h,ae];generalize yf s=c at h1⊢;simp only;cases c.2;rfl;simp only[ak,af,ae,Fh _ (show c.1.length<=10^9 by omega)];generalize jE c.1=r;cases r.2 !=0;case true=>rfl
 simp only[af,ae,CK];cases fZ r.1<;>rfl
end
end Go.Pu
