import Derived.Test.YtbebkmajekhclaaGreatDnData
import Derived.Test.YtbebkmajekhclaaGreatPure
namespace Go.Pu
open Go.Dn
open List (range)
open BitVec (toNat)
open Int (fdiv tmod)
set_option linter.unusedSimpArgs false
set_option linter.unusedVariables false
noncomputable section
variable {s:Bytes} {h:Host} {a v:Int} {f:Int->ay Int} {m:bJ} {i n:Nat} {p:aJ} {R X α σ:Type} {l:bP}
/- Plain laws of the partial operations and of loops. -/
theorem al {n:Int}(h1: -9223372036854775808<=n:=by omega)(h2:n<=9223372036854775807:=by omega):ar n=n:=by simp only[ar,gO,IntKind.wrap,IntKind.bits,IntKind.signed];simp;omega
@[simp] theorem ab (a:α)(k:α->ay R):aa (some a) k=k a:=rfl
@[simp] theorem anJ (k:α->ay R):aa none k=none:=rfl
@[simp] theorem E3 (c:Bool)(x y:α)(k:α->ay R):aa (cond c (some x) (some y)) k=k (cond c x y):=by cases c<;>rfl
theorem br (c:Bool)(x y:α):cond c (some x) (some y)=some (cond c x y):=by cases c<;>rfl
theorem aO {k:ay R}(h:n<=1073741824:=by omega):room n k=k:=by simp[room,h]
theorem Ej (xs:aw α)(i:Nat):idx xs (i:Int)=xs[i]?:=rfl
theorem bj {xs:aw α}(h:i<xs.length):idx xs (i:Int)=some xs[i]:=by rw[Ej];exact ak h
def upK (step:Nat->σ->(σ->ay R)->ay R)(fin:σ->ay R)(N:Nat):Nat->Nat->σ->ay R
 |0,_,s=>fin s
 |n+1,i,s=>step i s (λs'=>upK step fin N n (i+1) s')
theorem JX {T:(X->ay R)->X->ay R}(N:Nat)(e:σ->Nat->X)(step:Nat->σ->(σ->ay R)->ay R)(fin:σ->ay R)(hs:∀i s nx,i<N->T nx (e s i)=step i s (λs'=>nx (e s' (i+1))))(hf:∀s nx,T nx (e s N)=fin s): ∀n i s,i<=N->N-i<n->bc T n (e s i)=upK step fin N (N-i) i s:=by
 intro n;induction n with
 |zero=>intro i s _ h;omega
 |succ n ih=>
  intro i s hi hn;rw[bc];rcases cn i N with gF|BQ;rw[hs i s _ gF,show N-i=(N-(i+1))+1 by omega,upK];congr 1;funext s';exact ih (i+1) s' (by omega) (by omega);have:i=N:=by omega
  subst this;rw[hf,jg,upK]
def wj (step:α->σ->(σ->ay R)->ay R)(fin:σ->ay R):aw α->σ->ay R
 |[],s=>fin s
 |x::xs,s=>step x s (wj step fin xs)
theorem xV {T:(X->ay R)->X->ay R}(xs:aw α)(e:σ->Nat->X)(step:α->σ->(σ->ay R)->ay R)(fin:σ->ay R)(hs:∀i (h:i<xs.length) s nx,T nx (e s i)=step xs[i] s (λs'=>nx (e s' (i+1))))(hf:∀s nx,T nx (e s xs.length)=fin s): ∀n i s,i<=xs.length->xs.length-i<n->bc T n (e s i)=wj step fin (xs.drop i) s:=by
 intro n;induction n with
 |zero=>intro i s _ h;omega
 |succ n ih=>
  intro i s hi hn;rw[bc];rcases cn i xs.length with gF|BQ;rw[hs i gF s _,ca gF,wj];congr 1;funext s';exact ih (i+1) s' (by omega) (by omega);have:i=xs.length:=by omega
  subst this;rw[hf,ig,wj]
def Rt:(t:CT)->t.D->Nat
 | .int _,_=>0
 | .bool,_=>0
 | .str,s=>s.length
 | .sl e,xs=>xs.length+(xs.map (Rt e)).sum
 | .pair a b,x=>Rt a x.1+Rt b x.2
def dh (n:Nat):(t:CT)->t.D->Prop
 | .int _,_=>True
 | .bool,_=>True
 | .str,s=>s.length<=n
 | .sl e,xs=>xs.length<=n/\∀x∈xs,dh n e x
 | .pair a b,x=>dh n a x.1/\dh n b x.2
theorem IA (f:α->Nat):∀(xs:aw α)(x:α),x∈xs->f x<=(xs.map f).sum
 |y::ys,x,h=>by rcases bM.1 h with rfl|h;simp;have:=IA f ys x h;simp;omega
theorem Ky:∀{t:CT}{x:t.D},Rt t x<=n->dh n t x
 | .int _,_,_=>trivial
 | .bool,_,_=>trivial
 | .str,_,h=>h
 | .sl e,xs,h=>by simp only[Rt]at h;exact⟨by omega,λx hx=>Ky (by have:=IA (Rt e) xs x hx;omega)⟩
 | .pair a b,x,h=>by simp only[Rt]at h;exact⟨Ky (by omega),Ky (by omega)⟩
theorem dh.mono {m:Nat}(h:n<=m:=by omega):∀{t:CT}{x:t.D},dh n t x->dh m t x
 | .int _,_,_=>trivial
 | .bool,_,_=>trivial
 | .str,_,k=>bq k h
 | .sl _,_,k=>⟨bq k.1 h,λx hx=>dh.mono h (k.2 x hx)⟩
 | .pair _ _,_,k=>⟨dh.mono h k.1,dh.mono h k.2⟩
def ag8:(t:CT)->t.D->Prop
 | .int k,n=>k.min<=n/\n<=k.max
 | .bool,_=>True
 | .str,s=>s.length<=9223372036854775807
 | .sl e,xs=>xs.length<=9223372036854775807/\∀x∈xs,ag8 e x
 | .pair a b,x=>ag8 a x.1/\ag8 b x.2
def lP (l n:Int):Int:=if n<=l then l-n else-1
def NS (f:α->Int->ay Int)(k0:Int->Int->ay R)(k1:Int->Int->Int->ay R)(v0:aw α)(nx:Int×Int->ay R)(x:Int×Int):ay R:=
 cond (decide (x.2<((List.length v0:Int)))) (
  aa (idx v0 x.2) λx1=>
  aa (f x1 x.1) λr2=>
  cond (decide (r2<0)) (
   k1 r2 (-1) x.2) (
   nx (r2,ar (x.2+1)))) (
  k0 x.1 x.2)
noncomputable def VB (f:α->Int->ay Int)(a0:aw α)(a1:Int):ay Int:=
 cond (decide ((ar (a1-((List.length a0:Int))))<0)) (
  some (-1)) (
  bc (NS f (λy3 _=>some y3) (λ_ y6 _=>some y6) a0) fuel (ar (a1-((List.length a0:Int))),0))
theorem acQ {f:α->Int->ay Int}{s:α->Nat}{a:aw α}{l:Int}(h0:0<=l)(h1:l<=1048576)(hm:a.length<=9223372036854775807)(hf:∀x∈a,∀l:Int,0<=l->l<=1048576->∃r,f x l=some r/\((s x:Int)<=l->r=l-s x)/\(¬(s x:Int)<=l->r<0)):VB f a l=some (lP l ((a.length+(a.map s).sum:Nat):Int)):=by
 unfold VB;have Df:=eo;rw[al];rcases Int.lt_or_le (l-a.length) 0 with avA|ae2;rw[au avA];simp only[ah,lP];rw[nX];rw[cz];simp only[af];have key:=xV (T:=NS f (λy3 _=>some y3) (λ_ y6 _=>some y6) a) a (λ(q:Int) i=>(q,(i:Int))) (λx q k=>aa (f x q) λr=>cond (decide (r<0)) (some (-1)) (k r)) (λq=>some q) (λi hi q nx=>by simp only[NS];rw[iU];simp only[ah,bj hi,ab];rw[al];rfl) (λq nx=>by simp only[NS];rw[cz];rfl) fuel 0 (l-a.length) (by omega) (by omega);have e:((0:Nat):Int)=0:=rfl;rw[e,ez]at key;rw[key];have main:∀(b:aw α)(q:Int),0<=q->q<=1048576->(∀x∈b,x∈a)->wj (λx q k=>aa (f x q) λr=>cond (decide (r<0)) (some (-1)) (k r)) (λq=>some q) b q=some (lP q ((b.map s).sum:Nat)):=by intro b;induction b with|nil=>intro q hq _ _;simp[wj,lP,hq]|cons x b ih=>intro q hq hq2 hb;obtain⟨r,hr,hr1,Q2⟩:=hf x (hb x (by simp)) q hq hq2;rw[wj,hr,ab];by_cases hle:(s x:Int)<=q;have:=hr1 hle;subst this;rw[cz];simp only[af];rw[ih _ (by omega) (by omega) (λy hy=>hb y (by simp[hy]))];simp only[lP,da,fi];congr 1;split<;>split<;>omega;rw[au (Q2 hle)];simp only[ah,lP,da,fi];rw[nX]
 rw[main a _ (by omega) (by omega) (λx h=>h)];simp only[lP];congr 1;split<;>split<;>omega
def C8 (f:Int->ay Int)(n:Nat):Prop:=∀l:Int,0<=l->l<=1048576->f l=some (lP l n)
theorem C8.nil:C8 (λl=>some l) 0:=λl h0 _=>by simp[lP,h0]
theorem C8.len {m:Nat}(hn:n<=9223372036854775807){k:Int->ay Int}(h:C8 k m): C8 (λl=>cond (decide (ar (l-(n:Int))<0)) (some (-1)) (k (ar (l-(n:Int))))) (n+m):=by intro l h0 h1;simp only;rw[al];by_cases hl:l-(n:Int)<0;rw[au hl];simp only[ah,lP];rw[nX];rw[aq hl];simp only[af];rw[h _ (by omega) (by omega)];simp only[lP];congr 1;split<;>split<;>omega
theorem C8.sub {k:Int->ay Int}{m:Nat}(hf:C8 f n)(h:C8 k m):C8 (λl=>aa (f l) λr=>cond (decide (r<0)) (some (-1)) (k r)) (n+m):=by
 intro l h0 h1;simp only;rw[hf l h0 h1,ab];by_cases hl:(n:Int)<=l;have e:lP l n=l-n:=by simp[lP,hl]
 rw[e,cz];simp only[af];rw[h _ (by omega) (by omega)];simp only[lP];congr 1;split<;>split<;>omega;have e:lP l n= -1:=by simp[lP,hl]
 rw[e];simp only[lP];rw[nX];rfl
theorem C8.cast {m:Nat}(h:C8 f n)(e:n=m):C8 f m:=e▸h
theorem C8.list {f:α->Int->ay Int}{s:α->Nat}{a:aw α}(hm:a.length<=9223372036854775807)(hf:∀x∈a,C8 (f x) (s x)):C8 (VB f a) (a.length+(a.map s).sum):=λ_ h0 h1=>acQ h0 h1 hm (λx hx l h0 h1=>⟨_,hf x hx l h0 h1,λh=>by simp[lP,h],λh=>by simp[lP,h]⟩)
theorem C8.flat (hn:n<=9223372036854775807):C8 (λl=>cond (decide (ar (l-(n:Int))<0)) (some (-1)) (some (ar (l-(n:Int))))) n:=(C8.len (n:=n) hn C8.nil).cast (by omega)
theorem C8.use (hf:C8 f n){l:Int}(h0:0<=l)(h1:l<=1048576){k:Int->ay Bool}(hk:(n:Int)<=l->k (l-n)=some true): (aa (f l) λr=>cond (decide (r<0)) (some true) (k r))=some true:=by
 rw[hf l h0 h1,ab];by_cases hl:(n:Int)<=l;have e:lP l n=l-n:=by simp[lP,hl]
 rw[e,cz];exact hk hl;have e:lP l n= -1:=by simp[lP,hl]
 rw[e];rfl
theorem I4 {T:(Int->ay R)->Int->ay R}{fin hit:ay R}(p:α->Bool)(a:aw α)(h:a.length<=1000000000000)(hs:∀i (hi:i<a.length) nx,T nx (i:Int)=cond (p a[i]) hit (nx ((i+1:Nat):Int)))(hf:∀nx,T nx (a.length:Int)=fin): bc T fuel 0=cond (a.any p) hit fin:=by
 have Df:=eo;have key:∀n i,i<=a.length->a.length-i<n->bc T n (i:Int)=cond ((a.drop i).any p) hit fin:=by
  intro n;induction n with
  |zero=>intro i _ h;omega
  |succ n ih=>
   intro i hi hn;rw[bc];rcases cn i a.length with gF|BQ;rw[hs i gF,ca gF,List.any_cons];cases hq:p a[i]with|true=>rfl|false=>exact ih (i+1) (by omega) (by omega)
   have:i=a.length:=by omega
   subst this;rw[hf,ig];rfl
 exact key fuel 0 (by omega) (by omega)
theorem iK {T:(Int->ay R)->Int->ay R}{fin hit:ay R}(p:Nat->Bool)(N:Nat)(h:N<=1000000000000)(hs:∀i nx,i<N->T nx (i:Int)=cond (!(p i)) hit (nx ((i+1:Nat):Int)))(hf:∀nx,T nx (N:Int)=fin): bc T fuel 0=cond ((range N).all p) fin hit:=by
 have Df:=eo;have key:∀n i,i<=N->N-i<n->bc T n (i:Int)=cond ((List.range' i (N-i)).all p) fin hit:=by
  intro n;induction n with
  |zero=>intro i _ h;omega
  |succ n ih=>
   intro i hi hn;rw[bc];rcases cn i N with gF|BQ;rw[hs i _ gF,show N-i=(N-(i+1))+1 by omega,List.range'_succ,bX];cases hq:p i with|false=>rfl|true=>exact ih (i+1) (by omega) (by omega)
   have:i=N:=by omega
   subst this;rw[hf,jg];rfl
 have:=key fuel 0 (by omega) (by omega);rw[Nat.sub_zero,<-List.range_eq_range']at this;exact this
theorem qC {T:(Int->ay R)->Int->ay R}{fin hit:ay R}(p:α->Bool)(a:aw α)(h:a.length<=1000000000000)(hs:∀i (hi:i<a.length) nx,T nx (i:Int)=cond (!(p a[i])) hit (nx ((i+1:Nat):Int)))(hf:∀nx,T nx (a.length:Int)=fin): bc T fuel 0=cond (a.all p) fin hit:=by
 have:=I4 (T:=T) (fin:=fin) (hit:=hit) (λx=> !(p x)) a h hs hf;rw[this];have e:a.any (λx=> !(p x))= !(a.all p):=by rw[cq];simp
 rw[e];cases a.all p<;>rfl
theorem fold_iter {T:(X->ay R)->X->ay R}(xs:aw α)(e:σ->Nat->X)(g:σ->α->σ)(fin:σ->ay R)(h:xs.length<=1000000000000)(hs:∀i (hi:i<xs.length) s nx,T nx (e s i)=nx (e (g s xs[i]) (i+1)))(hf:∀s nx,T nx (e s xs.length)=fin s)(s:σ): bc T fuel (e s 0)=fin (xs.foldl g s):=by have Df:=eo;have key:=xV (T:=T) xs e (λx s k=>k (g s x)) fin hs hf fuel 0 s (by omega) (by omega);rw[key,ez];clear key hs hf h;induction xs generalizing s with|nil=>rfl|cons x xs ih=>rw[wj,dp];exact ih _
theorem KN {T:(X->ay R)->X->ay R}{fin hit:ay R}(e:Nat->X)(p:Nat->Bool)(N:Nat)(h:N<=1000000000000)(hs:∀i nx,i<N->(∀j,j<i->p j=true)->T nx (e i)=cond (!(p i)) hit (nx (e (i+1))))(hf:(∀j,j<N->p j=true)->∀nx,T nx (e N)=fin): bc T fuel (e 0)=cond ((range N).all p) fin hit:=by
 have Df:=eo;have key:∀n i,i<=N->N-i<n->(∀j,j<i->p j=true)->bc T n (e i)=cond ((List.range' i (N-i)).all p) fin hit:=by
  intro n;induction n with
  |zero=>intro i _ h;omega
  |succ n ih=>
   intro i hi hn hp;rw[bc];rcases cn i N with gF|BQ;rw[hs i _ gF hp,show N-i=(N-(i+1))+1 by omega,List.range'_succ,bX];cases hq:p i with|false=>rfl|true=>refine ih (i+1) (by omega) (by omega) λj hj=>?_;by_cases hji:j=i;rw[hji];exact hq;exact hp j (by omega)
   have:i=N:=by omega
   subst this;rw[hf hp,jg];rfl
 have:=key fuel 0 (by omega) (by omega) (λj hj=>absurd hj (by omega));rw[Nat.sub_zero,<-List.range_eq_range']at this;exact this
theorem GO {T:(Int->ay R)->Int->ay R}{fin:ay R}{hit:Int->ay R}(p:α->Bool)(a:aw α)(h:a.length<=1000000000000)(hs:∀i (hi:i<a.length) nx,T nx (i:Int)=cond (p a[i]) (hit (i:Int)) (nx ((i+1:Nat):Int)))(hf:∀nx,T nx (a.length:Int)=fin): bc T fuel 0=(match a.findIdx? p with|some i=>hit (i:Int)|none=>fin):=by
 have Df:=eo;have key:∀n i,i<=a.length->a.length-i<n->bc T n (i:Int)=(match (a.drop i).findIdx? p with|some j=>hit ((i+j:Nat):Int)|none=>fin):=by
  intro n;induction n with
  |zero=>intro i _ h;omega
  |succ n ih=>
   intro i hi hn;rw[bc];rcases cn i a.length with gF|BQ;rw[hs i gF,ca gF,List.findIdx?_cons];cases hq:p a[i]with|true=>rfl|false=>have:=ih (i+1) (by omega) (by omega);simp only[af];refine this.trans ?_;cases (a.drop (i+1)).findIdx? p with|none=>rfl|some j=>simp only[dE,bm,cv];congr 2;omega
   have:i=a.length:=by omega
   subst this;rw[hf,ig];rfl
 have:=key fuel 0 (by omega) (by omega);refine this.trans ?_;rw[ez];cases a.findIdx? p with|none=>rfl|some j=>simp only[cx]
theorem cF (a b:Bool):(bif a then b else false)=(a&&b):=by cases a<;>rfl
theorem cT (a b:Bool):(bif a then true else b)=(a||b):=by cases a<;>rfl
theorem cN (a b:Bool):(bif a then false else b)=(!a&&b):=by cases a<;>rfl
def Dq (g:α->σ->Except (ay R) σ)(fin:σ->ay R):aw α->σ->ay R
 |[],s=>fin s
 |x::xs,s=>match g x s with| .error r=>r| .ok s'=>Dq g fin xs s'
theorem uz {T:(X->ay R)->X->ay R}(xs:aw α)(e:σ->Nat->X)(Inv:Nat->σ->Prop)(g:α->σ->Except (ay R) σ)(fin:σ->ay R)(h:xs.length<=1000000000000)(hs:∀i (hi:i<xs.length) s nx,Inv i s->T nx (e s i)=match g xs[i] s with| .error r=>r| .ok s'=>nx (e s' (i+1)))(hn:∀i (hi:i<xs.length) s s',Inv i s->g xs[i] s=.ok s'->Inv (i+1) s')(hf:∀s nx,Inv xs.length s->T nx (e s xs.length)=fin s)(s:σ)(h0:Inv 0 s): bc T fuel (e s 0)=Dq g fin xs s:=by
 have key:∀n i s,i<=xs.length->xs.length-i<n->Inv i s->bc T n (e s i)=Dq g fin (xs.drop i) s:=by
  intro n;induction n with
  |zero=>intro i s _ h;omega
  |succ n ih=>
   intro i s hi DH hI;rw[bc];rcases cn i xs.length with gF|BQ;rw[hs i gF s _ hI,ca gF,Dq];cases hg:g xs[i] s with|error r=>rfl|ok s'=>exact ih (i+1) s' (by omega) (by omega) (hn i gF s s' hI hg)
   have:i=xs.length:=by omega
   subst this;rw[hf s _ hI,ig,Dq]
 have Df:=eo;have:=key fuel 0 s (by omega) (by omega) h0;rwa[ez]at this
theorem Hb (f:σ->α->σ)(fin:σ->ay R):∀(xs:aw α)(s:σ),Dq (λx s=> .ok (f s x)) fin xs s=fin (xs.foldl f s)
 |[],_=>rfl
 |x::xs,s=>by rw[Dq];exact Hb f fin xs (f s x)
theorem dC {T:(X->ay R)->X->ay R}{fin:ay R}(e:Nat->X)(N:Nat)(h:N<=1000000000000)(hs:∀i nx,i<N->T nx (e i)=nx (e (i+1)))(hf:∀nx,T nx (e N)=fin):bc T fuel (e 0)=fin:=by rw[KN (hit:=fin) (fin:=fin) e (λ_=>true) N h (λi nx hi _=>by rw[hs i nx hi];rfl) (λ_ nx=>hf nx)];cases (range N).all (λ_=>true)<;>rfl
theorem lS {l:aw α}{k:ay R}(h:l.length<=10^9:=by omega):room (List.length ([]:aw α)+l.length) k=k:=aO (by simp only[ed];omega)
def cS (a lo hi:Int):Bool:=decide (lo<=a)&&decide (a<=hi)
theorem aX {lo hi:Int}:cS a lo hi=true↔lo<=a/\a<=hi:=by simp[cS]
theorem dq (a b c:Int):aU a b c=some (cS a b c):=by simp only[aU,br,ab,cS];cases h:decide (a>=b)<;>rfl
theorem cl (a b c:Int):aA a b c=some (cS a b c):=dq a b c
theorem cH {l:aw α}(h:i<l.length)(d:α):l.getD i d=l[i]:=by rw[bK,ak h];rfl
def QB (l:bP)(i:Nat):Bool:=cS (l.getD i 0) 0 4095&& !(decide (0<i)&&decide (l.getD i 0<=l.getD (i-1) 0))
def eV (f:Filter):Bool:=(range f.2.2.length).all (QB f.2.2)&&(cS f.1 0 281474976710654&&decide ((f.2.2.length:Int)<=8))
theorem Cg (f:Filter)(h:f.2.2.length<=10^9):nt f=some (eV f):=by
 unfold nt;rw[iK (hit:=some false) (fin:=some (cS f.1 0 281474976710654&&decide ((f.2.2.length:Int)<=8))) (QB f.2.2) f.2.2.length (by omega) (λi nx hi=>?hs) (λnx=>?hf)]
 case hs=>
  simp only[tf]
  rw[iU,bj hi,al (n:=(i:Int)+1)]
  simp only[ah,ab,dq,QB,cH hi]
  by_cases h0:0<i
  ·have e:ar ((i:Int)-1)=((i-1:Nat):Int):=by rw[al];omega
   have hp:i-1<f.2.2.length:=by omega
   rw[e,bj hp,au (show(i:Int)>0 by omega),au h0,cH hp]
   simp only[ah,ab,bl]
   cases cS f.2.2[i] 0 4095<;>cases decide (f.2.2[i]<=f.2.2[i-1])<;>rfl
  ·rw[aq (show¬(i:Int)>0 by omega),aq h0]
   simp only[af,dQ]
   cases cS f.2.2[i] 0 4095<;>rfl
 case hf=>
  simp only[tf]
  rw[cz]
  simp only[af,dq,ab,E3,br]
  cases cS f.1 0 281474976710654<;>rfl
 unfold eV;cases (range f.2.2.length).all (QB f.2.2)<;>rfl
theorem rQ (f:Filter)(h:f.2.2.length<=10^9):iy f=some (eV f):=by
 unfold iy;rw[iK (hit:=some false) (fin:=some (cS f.1 0 281474976710654&&decide ((f.2.2.length:Int)<=8))) (QB f.2.2) f.2.2.length (by omega) (λi nx hi=>?hs) (λnx=>?hf)]
 case hs=>
  simp only[sF]
  rw[iU,bj hi,al (n:=(i:Int)+1)]
  simp only[ah,ab,cl,QB,cH hi]
  by_cases h0:0<i
  ·have e:ar ((i:Int)-1)=((i-1:Nat):Int):=by rw[al];omega
   have hp:i-1<f.2.2.length:=by omega
   rw[e,bj hp,au (show(i:Int)>0 by omega),au h0,cH hp]
   simp only[ah,ab,bl,ge_iff_le]
   cases cS f.2.2[i] 0 4095<;>cases decide (f.2.2[i]<=f.2.2[i-1])<;>rfl
  ·rw[aq (show¬(i:Int)>0 by omega),aq h0]
   simp only[af,dQ]
   cases cS f.2.2[i] 0 4095<;>rfl
 case hf=>
  simp only[sF]
  rw[cz]
  simp only[af,cl,ab,E3,br]
  cases cS f.1 0 281474976710654<;>rfl
 unfold eV;cases (range f.2.2.length).all (QB f.2.2)<;>rfl
def CX (r:mi):Bool:=(ni r).getD false
theorem YZ (r:mi):ni r=some (CX r):=by
 have:∃b,ni r=some b:=by simp only[ni,dq,ab,br];exact⟨_,rfl⟩
 obtain⟨b,hb⟩:=this;simp[CX,hb]
theorem aiZ (r:mi):CP r=some (CX r):=YZ r
theorem YG {r:mi}(h:CX r=true):r.2.2.2.2.2.2.2.1=0\/r.2.2.2.2.2.2.2.2=0:=by
 by_cases h0:r.2.2.2.2.2.2.2.1=0;exact .inl h0;by_cases h1:r.2.2.2.2.2.2.2.2=0;exact .inr h1;exfalso;have e0:(r.2.2.2.2.2.2.2.1==0)=false:=by simp[h0]
 have e1:(r.2.2.2.2.2.2.2.2==0)=false:=by simp[h1]
 revert h;unfold CX;simp only[ni,dq,ab,br,e0,e1,af,ga];have z:∀c:Bool,(bif c then false else false)=false:=by intro c;cases c<;>rfl
 simp only[z];intro h;cases h
def Ah (l:aw mi):Bool:=l.all CX&&decide ((l.length:Int)<=12)
theorem S8 (l:aw mi)(h:l.length<=10^9):AW l=some (Ah l):=by
 unfold AW;rw[qC (hit:=some false) (fin:=some (decide ((l.length:Int)<=12))) CX l (by omega) (λi hi nx=>?hs) (λnx=>?hf)]
 case hs=>
  simp only[vk]
  rw[iU,bj hi,al]
  simp only[ah,ab,YZ];rfl
 case hf=>
  simp only[vk]
  rw[cz];rfl
 unfold Ah;cases l.all CX<;>rfl
theorem So (l:aw mi)(h:l.length<=10^9):AI l=some (Ah l):=by rw[<-S8 l h];rfl
theorem auW (x:Int):((BitVec.ofInt 64 x&&&BitVec.ofInt 64 7).toNat:Int)=x%8:=by
 have h7:(BitVec.ofInt 64 7).toNat=2^3-1:=by decide
 rw[BitVec.toNat_and,h7,Nat.and_two_pow_sub_one_eq_mod];simp only[BitVec.toNat_ofInt];omega
theorem apZ (x:Int):((ie x&&&ie 7).toNat:Int)=x%8:=auW x
theorem alP (x:Int):jk x 8=some (x%8):=by unfold jk;rw[nX,Int.tmod_eq_emod];split;rw[cz];simp;rw[au (by simp;omega),al (by simp;omega) (by simp;omega)];simp
def Hy (f:kG):Int:=(f.1%8+f.2.1%8+f.2.2.1%8+f.2.2.2.1%8+f.2.2.2.2%8)%8
theorem Xf (f:kG):0<=Hy f/\Hy f<8:=by unfold Hy;omega
theorem akD {n:Int}(h:0<=n:=by omega):tmod n 8=n%8:=dG h
theorem ajX (f:kG):yT f=some (Hy f):=by
 unfold yT;generalize hL:[f.1,f.2.1,f.2.2.1,f.2.2.2.1,f.2.2.2.2]=L;have hlen:L.length=5:=by rw[<-hL];rfl
 have Df:=eo;have key:=xV (R:=Int) (T:=oK (λ(y2:Int) (y3:Int)=>if 8=0 then none else(some (tmod y2 8))) L) L (λ(s:Int) i=>(s,(i:Int))) (λx s k=>k (ar (s+ar (x%8)))) (λs=>some (tmod s 8)) (λi hi s nx=>by simp only[oK];rw[iU,bj hi,al (n:=(i:Int)+1)];simp only[ah,ab];rw[apZ L[i]];rfl) (λs nx=>by simp only[oK];rw[cz];rfl) fuel 0 0 (by omega) (by omega);refine key.trans ?_;rw[<-hL];simp only[ez,wj];rw[al (n:=f.1%8),al (n:=f.2.1%8),al (n:=f.2.2.1%8),al (n:=f.2.2.2.1%8),al (n:=f.2.2.2.2%8)];rw[al (n:=0+f.1%8),al (n:=0+f.1%8+_),al (n:=0+f.1%8+_+_),al (n:=0+f.1%8+_+_+_),al (n:=0+f.1%8+_+_+_+_)];rw[akD,Hy,Int.zero_add]
theorem aiP (f:kG):yC f=some (Hy f):=by
 unfold yC;generalize hL:[f.1,f.2.1,f.2.2.1,f.2.2.2.1,f.2.2.2.2]=L;have hlen:L.length=5:=by rw[<-hL];rfl
 have Df:=eo;have key:=xV (R:=Int) (T:=oq (λ(y2:Int) (y3:Int)=>if 8=0 then none else(some (tmod y2 8))) L (L.length:Int)) L (λ(s:Int) i=>(s,(i:Int))) (λx s k=>k (ar (s+(x%8)))) (λs=>some (tmod s 8)) (λi hi s nx=>by simp only[oq];rw[iU,bj hi,al (n:=(i:Int)+1)];simp only[ah,ab,alP];rfl) (λs nx=>by simp only[oq];rw[cz];rfl) fuel 0 0 (by omega) (by omega);refine key.trans ?_;rw[<-hL];simp only[ez,wj];rw[al (n:=0+f.1%8),al (n:=0+f.1%8+_),al (n:=0+f.1%8+_+_),al (n:=0+f.1%8+_+_+_),al (n:=0+f.1%8+_+_+_+_)];rw[akD,Hy,Int.zero_add]
def gJ (t:aw Slot)(i:Nat):Slot:=t.getD i (0,(0,0,0,0,0),0)
theorem yf {t:aw Slot}(h:i<t.length):gJ t i=t[i]:=cH h _
def me (f:kG)(k:Nat):Nat:=((Hy f).toNat+k)%8
theorem KG (f:kG)(k:Nat):me f k<8:=Nat.mod_lt _ (by omega)
theorem Zy (f:kG)(k:Nat)(h:k<8):tmod (ar (Hy f+(k:Int))) 8=(me f k:Int):=by have:=Xf f;rw[al,akD,me];omega
def qz (s:Slot)(f:kG):Bool:=(s.1==1)&&decide (s.2.1=f)
theorem NF (p q:kG):((p.1==q.1)&&((p.2.1==q.2.1)&&((p.2.2.1==q.2.2.1)&&((p.2.2.2.1==q.2.2.2.1)&&((p.2.2.2.2==q.2.2.2.2)&&true)))))=decide (p=q):=by obtain⟨a,b,c,d,e⟩:=p;obtain⟨a',b',c',d',e'⟩:=q;rw[cq];simp
def walk (t:aw Slot)(f:kG):Nat->Nat->Int
 |0,_=> -1
 |n+1,k=>if(gJ t (me f k)).1=0 then-1 else if qz (gJ t (me f k)) f then(me f k:Int) else walk t f n (k+1)
theorem ajV (t:aw Slot)(f:kG)(ht:t.length=8):Bd t f=some (walk t f 8 0):=by
 unfold Bd;have Df:=eo
 have key:=JX (R:=Int) (T:=qw (λ(y6:Int)=>some (-1)) (λ(y7:Int) (y8:Int)=>some y7) 0 t f) 8 (λ(_:Unit) i=>(i:Int))
  (λi s k=>if(gJ t (me f i)).1=0 then some (-1) else if qz (gJ t (me f i)) f then some (me f i:Int) else k s) (λ_=>some (-1))
  (λi s nx hi=>by
   have hw:me f i<t.length:=by have:=KG f i;omega
   simp only[qw,ajX];rw[iU,al (n:=(i:Int)+1)];simp only[ah,ab,Zy f i hi,bj hw,yf hw,NF,qz,br,ab];rw[nX];by_cases h0:t[me f i].1=0;simp[h0];have e0:(t[me f i].1==0)=false:=by simp[h0]
   rw[e0,aG h0];cases (t[me f i].1==1)<;>cases decide (t[me f i].2.1=f)<;>rfl)
  (λs nx=>by simp only[qw];rfl)
  fuel 0 () (by omega) (by omega)
 refine key.trans ?_;have main:∀n i,upK (R:=Int) (λi (s:Unit) k=>if(gJ t (me f i)).1=0 then some (-1) else if qz (gJ t (me f i)) f then some (me f i:Int) else k s) (λ_=>some (-1)) 8 n i ()=some (walk t f n i):=by intro n;induction n with|zero=>intro i;rfl|succ n ih=>intro i;rw[upK,walk];split;rfl;split;rfl;exact ih (i+1)
 exact main 8 0
def Aa (f:kG):aw Slot->Int->Int
 |[],_=> -1
 |s::r,i=>if qz s f then i else Aa f r (i+1)
theorem XD (t:aw Slot)(f:kG)(h:t.length<=10^9):zH t f=some (Aa f t 0):=by
 unfold zH;have Df:=eo;have key:∀n i,i<=t.length->t.length-i<n->bc (xa (λ(y3:Int)=>some (-1)) (λ(y4:Int) (y5:Int)=>some y4) 0 t ((List.length t:Int)) f) n (i:Int)=some (Aa f (t.drop i) i):=by
  intro n;induction n with
  |zero=>intro i _ h;omega
  |succ n ih=>
   intro i hi hn;rw[bc];simp only[xa];rcases cn i t.length with gF|BQ;rw[iU,bj gF,ca gF,Aa,al];simp only[ah,ab,NF,br];have e:(bif t[i].1==1 then decide (t[i].2.1=f) else false)=qz t[i] f:=by unfold qz;cases (t[i].1==1)<;>rfl
   rw[e];cases qz t[i] f with|true=>rfl|false=>exact ih (i+1) (by omega) (by omega)
   have:i=t.length:=by omega
   subst this;rw[cz,ig];rfl
 exact key fuel 0 (by omega) (by omega)
theorem alw (f:kG):Es f=some ((range 8).map λk=>(me f k:Int)):=by unfold Es;have Df:=eo;have key:=JX (R:=bP) (T:=uw (λ(y2:bP) (y3:Int)=>some y2) f) 8 (λ(_:Unit) i=>((range i).map (λk=>(me f k:Int)),(i:Int))) (λ_ s k=>k s) (λ_=>some ((range 8).map λk=>(me f k:Int))) (λi s nx hi=>by simp only[uw,aiP];rw[iU,al (n:=(i:Int)+1)];simp only[ah,ab,Zy f i hi];rw[nX,aO (by simp;omega),gP,ee];rfl) (λs nx=>by simp only[uw];rfl) fuel 0 () (by omega) (by omega);exact key
def clear (t:aw Slot)(f:kG)(i:Nat):Nat->Nat->Bool
 |0,_=>true
 |n+1,k=>if me f k=i then true else if(gJ t (me f k)).1=0 then false else clear t f i n (k+1)
theorem ae9 (k0:Int->ay R)(k1:Bool->Int->ay R)(hit fin:ay R)(h0:∀x,k0 x=fin)(h1:∀x,k1 false x=hit)(v2:Bool)(i:Nat)(Tm:aw Slot)(Tn Zu:Int)(t:aw Slot)(f:kG)(ht:t.length=8): bc (lr k0 k1 v2 (i:Int) Tm Tn Zu ((range 8).map λk=>(me f k:Int)) (((range 8).map λk=>(me f k:Int)).length:Int) t) fuel 0=cond (clear t f i 8 0) fin hit:=by
 have Df:=eo;have hl:((range 8).map λk=>(me f k:Int)).length=8:=by simp
 have key:=JX (R:=R) (T:=lr k0 k1 v2 (i:Int) Tm Tn Zu ((range 8).map λk=>(me f k:Int)) (((range 8).map λk=>(me f k:Int)).length:Int) t) 8 (λ(_:Unit) i=>(i:Int))
  (λk s c=>if me f k=i then fin else if(gJ t (me f k)).1=0 then hit else c s) (λ_=>fin)
  (λk s nx hk=>by
   have hw:me f k<t.length:=by have:=KG f k;omega
   simp only[lr];rw[iU,bj (show k<((range 8).map λk=>(me f k:Int)).length by omega),al (n:=(k:Int)+1)];simp only[ah,ab,List.getElem_map,List.getElem_range,bj hw,yf hw,h0,h1];by_cases e1:me f k=i;subst e1;simp;have:((me f k:Int)==(i:Int))=false:=by simp;omega
   rw[this,aG e1];by_cases e2:t[me f k].1=0;simp[e2];have:(t[me f k].1==0)=false:=by simp[e2]
   rw[this,aG e2];rfl)
  (λs nx=>by simp only[lr];rw[cz];exact h0 _)
  fuel 0 () (by omega) (by omega)
 refine key.trans ?_;have main:∀n k,upK (R:=R) (λk (s:Unit) c=>if me f k=i then fin else if(gJ t (me f k)).1=0 then hit else c s) (λ_=>fin) 8 n k ()=cond (clear t f i n k) fin hit:=by intro n;induction n with|zero=>intro k;rfl|succ n ih=>intro k;rw[upK,clear];split;rfl;split;rfl;exact ih (k+1)
 exact main 8 0
def WJ:kG:=(0,0,0,0,0)
theorem WK (p:kG):((p.1==0)&&((p.2.1==0)&&((p.2.2.1==0)&&((p.2.2.2.1==0)&&((p.2.2.2.2==0)&&true)))))=decide (p=WJ):=NF p WJ
def S2 (s:Slot):Bool:=cS s.1 0 2&&cS s.2.2 0 3&&((s.1==1)||(s.2.2==0)&&decide (s.2.1=WJ))
def oH (t:aw Slot)(i:Nat):Bool:=S2 (gJ t i)&&(!((gJ t i).1==1)||(walk t (gJ t i).2.1 8 0==(i:Int)))
def vP (t:aw Slot)(i:Nat):Bool:=S2 (gJ t i)&&(!((gJ t i).1==1)||(Aa (gJ t i).2.1 t 0==(i:Int))&&clear t (gJ t i).2.1 i 8 0)
def tT (t:aw Slot):Bool:=(t.length==8)&&(range 8).all (oH t)
theorem agH (t:aw Slot):AX t=some (tT t):=by
 unfold AX tT;by_cases ht:t.length=8
 ·have e:((t.length:Int) !=8)=false:=by rw[ht];rfl
  have e2:(t.length==8)=true:=by rw[ht];rfl
  rw[e,e2];simp only[af,bl];rw[iK (hit:=some false) (fin:=some true) (oH t) 8 (by omega) (λi nx hi=>?hs) (λnx=>?hf)]
  case hs=>
   have hl:i<t.length:=by omega
   simp only[vm]
   rw[iU,bj hl,al]
   simp only[ah,ab,dq,br,WK,ajV t _ ht,oH,yf hl,S2,bne]
   cases cS t[i].1 0 2<;>cases cS t[i].2.2 0 3<;>cases (t[i].1==1)<;>cases (t[i].2.2==0)<;>cases decide (t[i].2.1=WJ)<;>first|rfl|(cases (walk t t[i].2.1 8 0==(i:Int))<;>rfl)
  case hf=>
   simp only[vm]
   rw[cz];rfl
  cases (range 8).all (oH t)<;>rfl
 have e:((t.length:Int) !=8)=true:=by simp;omega
 have e2:(t.length==8)=false:=by simp[ht]
 rw[e,e2];rfl
theorem abz (t:aw Slot):sS t=some ((t.length==8)&&(range 8).all (vP t)):=by
 unfold sS;by_cases ht:t.length=8
 ·have e:((t.length:Int) !=8)=false:=by rw[ht];rfl
  have e2:(t.length==8)=true:=by rw[ht];rfl
  rw[e,e2];simp only[af,bl];rw[iK (hit:=some false) (fin:=some true) (vP t) 8 (by omega) (λi nx hi=>?hs) (λnx=>?hf)]
  case hs=>
   have hl:i<t.length:=by omega
   simp only[uT]
   rw[iU,bj hl,al]
   simp only[ah,ab,cl,br,WK,XD t _ (show t.length<=10^9 by omega),alw,vP,yf hl,S2,bne]
   rw[ae9 (λ_=>nx ((i:Int)+1)) (λ(y:Bool) (_:Int)=>some y) (some false) (nx ((i:Int)+1)) (λ_=>rfl) (λ_=>rfl) _ _ _ _ _ _ _ ht]
   cases cS t[i].1 0 2<;>cases cS t[i].2.2 0 3<;>cases (t[i].1==1)<;>cases (t[i].2.2==0)<;>cases decide (t[i].2.1=WJ)<;>first|rfl|(cases (Aa t[i].2.1 t 0==(i:Int))<;>first|rfl|(cases clear t t[i].2.1 i 8 0<;>rfl))
  case hf=>
   simp only[uT]
   rw[cz];rfl
  cases (range 8).all (vP t)<;>rfl
 have e:((t.length:Int) !=8)=true:=by simp;omega
 have e2:(t.length==8)=false:=by simp[ht]
 rw[e,e2];rfl
theorem Tq (t:aw Slot)(f:kG)(i:Nat):∀n k,walk t f n k=(i:Int)->qz (gJ t i) f=true/\clear t f i n k=true/\∃j,j<n/\me f (k+j)=i
 |0,k,h=>by unfold walk at h;omega
 |n+1,k,h=>by
  unfold walk at h;unfold clear;by_cases h0:(gJ t (me f k)).1=0;rw[aH h0]at h;omega;rw[aG h0]at h;by_cases h1:qz (gJ t (me f k)) f=true;rw[aH h1]at h;have:me f k=i:=by omega
  subst this;exact⟨h1,by simp,0,by omega,rfl⟩;rw[aG h1]at h;obtain⟨a,b,j,hj,e⟩:=Tq t f i n (k+1) h;refine⟨a,?_,j+1,by omega,by rw[<-e];congr 1;omega⟩;rw[aG h0,b];split<;>rfl
theorem aek (t:aw Slot)(f:kG)(i:Nat)(hu:qz (gJ t i) f=true)(amQ:∀j,j<8->qz (gJ t j) f=true->j=i):∀n k,clear t f i n k=true->(∃j,j<n/\me f (k+j)=i)->walk t f n k=(i:Int)
 |0,k,_,h=>by obtain⟨j,hj,_⟩:=h;omega
 |n+1,k,hc,⟨j,hj,e⟩=>by unfold walk;unfold clear at hc;by_cases h1:me f k=i;rw[h1,aG,aH hu];intro h0;unfold qz at hu;rw[h0]at hu;simp at hu;rw[aG h1]at hc;by_cases h0:(gJ t (me f k)).1=0;rw[aH h0]at hc;cases hc;rw[aG h0]at hc;rw[aG h0,aG (λUD=>h1 (amQ _ (KG f k) UD))];refine aek t f i hu amQ n (k+1) hc ?_;cases j with|zero=>exact absurd e h1|succ j=>exact⟨j,by omega,by rw[<-e];congr 1;omega⟩
theorem amh (f:kG)(i:Nat)(hi:i<8):∃j,j<8/\me f (0+j)=i:=by have:=Xf f;refine⟨(i+8-(Hy f).toNat)%8,by omega,?_⟩;unfold me;omega
theorem FG (f:kG):∀(t:aw Slot)(m:Nat),(∃j,j<t.length/\qz (gJ t j) f=true)->∃j,j<t.length/\qz (gJ t j) f=true/\Aa f t m=((m+j:Nat):Int)
 |[],_,h=>by obtain⟨j,hj,_⟩:=h;simp at hj
 |s::r,m,⟨j,hj,e⟩=>by
  unfold Aa;by_cases hs:qz s f=true;rw[aH hs];exact⟨0,by simp,by simpa[gJ]using hs,by simp⟩;rw[aG hs];cases j with
  |zero=>exact absurd (by simpa[gJ]using e) hs
  |succ j=>
   obtain⟨j',h1,h2,h3⟩:=FG f r (m+1) ⟨j,by simpa using hj,by simpa[gJ]using e⟩;refine⟨j'+1,by simpa using h1,by simpa[gJ]using h2,?_⟩;have:((m:Int)+1)=((m+1:Nat):Int):=by omega
   rw[this,h3];congr 1;omega
theorem acA (t:aw Slot)(ht:t.length=8):(range 8).all (vP t)=(range 8).all (oH t):=by
 rw[cq,aD,aD];simp only[bD];constructor;intro h i hi;have hI:=h i hi;unfold vP at hI;unfold oH;simp only[ae,cQ,aK,aZ]at hI⊢;refine⟨hI.1,?_⟩;rcases hI.2 with h1|⟨h1,h2⟩;exact .inl h1;by_cases hu:((gJ t i).1==1)=true;right;have UD:qz (gJ t i) (gJ t i).2.1=true:=by unfold qz;rw[hu];simp
 refine aek t _ i UD (λj hj huj=>?_) 8 0 h2 (amh _ i hi);have hJ:=h j hj;unfold vP at hJ;unfold qz at huj;simp only[ae,aF]at huj;simp only[ae,cQ,aK,aZ]at hJ;rcases hJ.2 with h3|⟨h3,_⟩;rw[huj.1]at h3;cases h3;rw[huj.2]at h3;omega;exact .inl (by simpa using hu);intro h i hi;have hI:=h i hi;unfold oH at hI;unfold vP;simp only[ae,cQ,aK,aZ]at hI⊢;refine⟨hI.1,?_⟩;rcases hI.2 with h1|h1;exact .inl h1;right;obtain⟨hu,hc,_⟩:=Tq t _ i 8 0 h1;refine⟨?_,hc⟩;obtain⟨j,hj,huj,e⟩:=FG (gJ t i).2.1 t 0 ⟨i,by omega,hu⟩;have hJ:=h j (by omega);unfold oH at hJ;unfold qz at huj;simp only[ae,aF]at huj;simp only[ae,cQ,aK,aZ]at hJ;rcases hJ.2 with h3|h3;rw[huj.1]at h3;cases h3;rw[huj.2,h1]at h3;have e':Aa (gJ t i).2.1 t 0=((0+j:Nat):Int):=e;rw[e'];omega
theorem Ss (t:aw Slot):sS t=some (tT t):=by
 rw[abz,tT];by_cases ht:t.length=8;rw[acA t ht];have e2:(t.length==8)=false:=by simp[ht]
 rw[e2];rfl
def adX (n:Int):Bool:=(n==1)||(n==2)||(n==4)||(n==8)||(n==16)
theorem abJ (n:Int):Bb n=some (adX n):=by simp only[Bb,br,ab,adX];cases (n==1)<;>cases (n==2)<;>cases (n==4)<;>cases (n==8)<;>rfl
def tB (s:tL)(q:Int):Bool:=cS q 1 4&&((s.1.length:Int)==16)&&adX s.2.length&&s.2.all λx=>cS x 0 (q-1)
theorem Qg (s:tL)(q:Int)(h:s.2.length<=10^9):yX s q=some (tB s q):=by
 unfold yX tB;simp only[dq,abJ,ab,br,bne];by_cases hq:cS q 1 4=true
 ·rw[qC (hit:=some false) (fin:=some true) (λx=>cS x 0 (q-1)) s.2 (by omega) (λi hi nx=>?hs) (λnx=>?hf)]
  case hs=>
   rw[aX]at hq
   simp only[tn]
   rw[iU,bj hi,al (n:=(i:Int)+1),al (n:=q-1)]
   simp only[ah,ab,dq];rfl
  case hf=>
   simp only[tn]
   rw[cz];rfl
  rw[hq];cases ((s.1.length:Int)==16)<;>cases adX s.2.length<;>cases s.2.all (λx=>cS x 0 (q-1))<;>rfl
 have hq':cS q 1 4=false:=by simpa using hq
 rw[hq'];rfl
theorem Pe (s:tL)(q:Int)(h:s.2.length<=10^9):yI s q=some (tB s q):=by rw[<-Qg s q h];rfl
def eK (s:df)(q:Int):Bool:=Ah s.1&&tT s.2.1&&tB s.2.2 q&&s.1.all (λr=> !(decide (r.2.2.2.2.2.2.2.2>=q)))&&s.2.1.all (λx=> !(decide (x.2.2>=q)))
theorem EG (s:df)(q:Int)(h1:s.1.length<=10^9)(h2:s.2.1.length<=10^9)(h3:s.2.2.2.length<=10^9):qq s q=some (eK s q):=by
 unfold qq eK;simp only[S8 _ h1,agH,Qg _ _ h3,ab,br];rw[qC (hit:=some false) (fin:=cond (s.2.1.all (λx=> !(decide (x.2.2>=q)))) (some true) (some false)) (λr:mi=> !(decide (r.2.2.2.2.2.2.2.2>=q))) s.1 (by omega) (λi hi nx=>?hs) (λnx=>?hf)]
 case hs=>
  simp only[pR]
  rw[iU,bj hi,al]
  simp only[ah,ab,fu];rfl
 case hf=>
  simp only[pR]
  rw[cz]
  simp only[af]
  rw[qC (hit:=some false) (fin:=some true) (λx:Slot=> !(decide (x.2.2>=q))) s.2.1 (by omega) (λi hi nx=>?hs) (λnx=>?hf)]
  case hs=>
   simp only[pS]
   rw[iU,bj hi,al]
   simp only[ah,ab,fu];rfl
  case hf=>
   simp only[pS]
   rw[cz];rfl
 cases Ah s.1<;>cases tT s.2.1<;>cases tB s.2.2 q<;>cases s.1.all (λr=> !(decide (r.2.2.2.2.2.2.2.2>=q)))<;>cases s.2.1.all (λx=> !(decide (x.2.2>=q)))<;>rfl
theorem JM (s:df)(q:Int)(h1:s.1.length<=10^9)(h2:s.2.1.length<=10^9)(h3:s.2.2.2.length<=10^9):qh s q=some (eK s q):=by
 unfold qh eK;simp only[So _ h1,Ss,Pe _ _ h3,ab,br];rw[qC (hit:=some false) (fin:=cond (s.2.1.all (λx=> !((x.1==1)&&decide (x.2.2>=q)))) (some true) (some false)) (λr:mi=> !((r.2.2.2.2.2.2.2.1==0)&&decide (r.2.2.2.2.2.2.2.2>=q))) s.1 (by omega) (λi hi nx=>?hs) (λnx=>?hf)]
 case hs=>
  simp only[pF]
  rw[iU,bj hi,al]
  simp only[ah,ab,fu,br]
  cases (s.1[i].2.2.2.2.2.2.2.1==0)<;>rfl
 case hf=>
  simp only[pF]
  rw[cz]
  simp only[af]
  rw[qC (hit:=some false) (fin:=some true) (λx:Slot=> !((x.1==1)&&decide (x.2.2>=q))) s.2.1 (by omega) (λi hi nx=>?hs) (λnx=>?hf)]
  case hs=>
   simp only[nL]
   rw[iU,bj hi,al]
   simp only[ah,ab,fu,br]
   cases (s.2.1[i].1==1)<;>rfl
  case hf=>
   simp only[nL]
   rw[cz];rfl
 cases hr:Ah s.1 with
 |false=>rfl
 |true=>
  cases ht:tT s.2.1 with
  |false=>rfl
  |true=>
   cases hs:tB s.2.2 q with
   |false=>rfl
   |true=>
    have hq:1<=q:=by unfold tB at hs;simp only[ae,aX]at hs;exact hs.1.1.1.1
    have e1:s.1.all (λr=> !((r.2.2.2.2.2.2.2.1==0)&&decide (r.2.2.2.2.2.2.2.2>=q)))=s.1.all (λr=> !(decide (r.2.2.2.2.2.2.2.2>=q))):=by unfold Ah at hr;simp only[ae,aD]at hr;rw[cq,aD,aD];refine forall_congr' λr=>forall_congr' λhm=>?_;rcases YG (hr.1 r hm)with h0|h0;rw[h0];simp;rw[h0];simp only[aq (show¬(0:Int)>=q by omega),ft]
    have e2:s.2.1.all (λx=> !((x.1==1)&&decide (x.2.2>=q)))=s.2.1.all (λx=> !(decide (x.2.2>=q))):=by unfold tT at ht;simp only[ae,aD,bD,aZ]at ht;rw[cq,aD,aD];refine forall_congr' λx=>forall_congr' λhm=>?_;obtain⟨i,hi,rfl⟩:=List.mem_iff_getElem.1 hm;have hsl:=ht.2 i (by omega);unfold oH S2 at hsl;rw[yf hi]at hsl;simp only[ae,cQ,aZ]at hsl;rcases hsl.1.2 with h0|⟨h0,_⟩;rw[h0];simp;rw[h0];simp only[aq (show¬(0:Int)>=q by omega),ft]
    rw[e1,e2];cases s.1.all (λr=> !(decide (r.2.2.2.2.2.2.2.2>=q)))<;>cases s.2.1.all (λx=> !(decide (x.2.2>=q)))<;>rfl
theorem jt (h:n<9223372036854775808:=by omega):ar (n:Int)=(n:Int):=al
theorem KH (h:n<4294967296:=by omega):IntKind.wrap .u32 (n:Int)=(n:Int):=by simp only[ar,gO,IntKind.wrap,IntKind.bits,IntKind.signed];simp;omega
theorem uJ (b:UInt8):b.toNat<256:=b.toNat_lt
def cj (v:Int):Bytes:=(dH v).getD []
theorem pO (v:Int):dH v=some (cj v):=by
 unfold cj;have:∃x,dH v=some x:=by simp only[dH,dq,ab];cases cS v 0 65535<;>exact⟨_,rfl⟩
 obtain⟨x,hx⟩:=this;rw[hx];rfl
theorem lH (v:Int):cw v=some (cj v):=pO v
theorem IQ (v:Int):(cj v).length=bif cS v 0 65535 then 2 else 0:=by have h:=pO v;simp only[dH,dq,ab]at h;cases hb:cS v 0 65535<;>rw[hb]at h<;>(rw[<-cc h];rfl)
theorem bQ (v:Int):(cj v).length<=2:=by rw[IQ];cases cS v 0 65535<;>simp
def gu (v:Int):Bytes:=(fP v).getD []
theorem nr (v:Int):fP v=some (gu v):=by
 unfold gu;have:∃x,fP v=some x:=by simp only[fP,dq,ab];cases cS v 0 4294967295<;>exact⟨_,rfl⟩
 obtain⟨x,hx⟩:=this;rw[hx];rfl
theorem vC (v:Int):fZ v=some (gu v):=nr v
theorem QD (v:Int):(gu v).length=bif cS v 0 4294967295 then 4 else 0:=by have h:=nr v;simp only[fP,dq,ab]at h;cases hb:cS v 0 4294967295<;>rw[hb]at h<;>(rw[<-cc h];rfl)
theorem dT (v:Int):(gu v).length<=4:=by rw[QD];cases cS v 0 4294967295<;>simp
def bV (s:Bytes)(i:Nat):Nat:=(s.getD i 0).toNat
theorem eD (s:Bytes)(i:Nat):bV s i<256:=uJ _
theorem mO (h:i<s.length:=by omega):∃x,idx s (i:Int)=some x/\x.toNat=bV s i:=⟨s[i],bj h,by rw[bV,cH h]⟩
def fA (s:Bytes)(a n:Int):Bool:=decide (0<=a/\a+n<=(s.length:Int))
theorem Gs (s:Bytes)(a n:Int)(h:s.length<=10^9)(hn:0<=n:=by omega):oQ s a n=some (fA s a n):=by
 unfold oQ fA;by_cases h0:0<=a;by_cases h1:a<=(s.length:Int)
 rw[au (show a>=0 from h0),au h1,al];simp only[ah,ab];congr 1;rw[decide_eq_decide];omega;rw[au (show a>=0 from h0),aq h1,aq (show¬(0<=a/\a+n<=(s.length:Int)) by omega)];rfl;rw[aq (show¬a>=0 from h0),aq (show¬(0<=a/\a+n<=(s.length:Int)) by omega)];rfl
def dc (s:Bytes)(a:Int):Int:=bif fA s a 2 then((bV s a.toNat*256+bV s (a.toNat+1):Nat):Int) else-1
def eM (s:Bytes)(a:Int):Int:=bif fA s a 4 then(((bV s a.toNat*256+bV s (a.toNat+1))*65536+(bV s (a.toNat+2)*256+bV s (a.toNat+3)):Nat):Int) else-1
theorem S6 (s:Bytes)(a:Int)(h:s.length<=10^9):Ci s a=some (dc s a):=by unfold Ci dc;rw[Gs s a 2 h,ab];cases hw:fA s a 2 with|false=>rfl|true=>simp only[fA,aF]at hw;obtain⟨n,rfl⟩:=aQ hw.1;obtain⟨x,hx,ex⟩:=mO (s:=s) (i:=n);obtain⟨y,hy,ey⟩:=mO (s:=s) (i:=n+1);have hxl:=eD s n;have hyl:=eD s (n+1);rw[al (n:=(n:Int)+1),hx,show(n:Int)+1=((n+1:Nat):Int) by omega,hy];simp only[aj,af,ab,ax,ah];rw[nX,ex,ey,jt,jt];have e8:tU 8=8:=rfl;rw[e8,al (n:=((bV s n:Nat):Int)*2^8),al];congr 1;all_goals omega
theorem agB (s:Bytes)(a:Int)(h:s.length<=10^9):yg s a=some (eM s a):=by
 unfold yg eM;rw[Gs s a 4 h,ab];cases hw:fA s a 4 with
 |false=>rfl
 |true=>
  simp only[fA,aF]at hw;obtain⟨n,rfl⟩:=aQ hw.1;have w1:fA s (n:Int) 2=true:=by simp only[fA,aF];omega
  have w2:fA s ((n:Int)+2) 2=true:=by simp only[fA,aF];omega
  have b0:=eD s n;have b1:=eD s (n+1);have b2:=eD s (n+2);have b3:=eD s (n+3);rw[al (n:=(n:Int)+2),S6 s _ h,S6 s _ h];simp only[aj,af,ab,ah,dc,w1,w2,ax];rw[nX,show((n:Int)+2).toNat=n+2 by omega,show n+2+1=n+3 by omega];have e8:tU 16=16:=rfl;rw[e8,al (n:=((bV s n*256+bV s (n+1):Nat):Int)*2^16),al];congr 1;all_goals omega
theorem av2 (a b:Nat)(ha:a<9223372036854775808)(hb:b<9223372036854775808):toNat (ie (a:Int)|||ie (b:Int))=a|||b:=by show(BitVec.ofInt 64 (a:Int)|||BitVec.ofInt 64 (b:Int)).toNat=_;rw[dS,dS,BitVec.toNat_or,eu,eu,eH (by omega),eH (by omega)]
theorem amr (a b:Nat)(ha:a<9223372036854775808:=by omega)(hb:b<9223372036854775808:=by omega):toNat (ie (a:Int)&&&ie (b:Int))=a&&&b:=by show(BitVec.ofInt 64 (a:Int)&&&BitVec.ofInt 64 (b:Int)).toNat=_;rw[dS,dS,BitVec.toNat_and,eu,eu,eH (by omega),eH (by omega)]
theorem akP (a b:Nat)(ha:a<9223372036854775808)(hb:b<9223372036854775808):toNat (ie (a:Int)^^^ie (b:Int))=a^^^b:=by show(BitVec.ofInt 64 (a:Int)^^^BitVec.ofInt 64 (b:Int)).toNat=_;rw[dS,dS,BitVec.toNat_xor,eu,eu,eH (by omega),eH (by omega)]
theorem apY (a b:Nat)(ha:a<4294967296)(hb:b<4294967296):toNat (BitVec.ofInt (IntKind.bits .u32) (a:Int)&&&BitVec.ofInt (IntKind.bits .u32) (b:Int))=a&&&b:=by show(BitVec.ofInt 32 (a:Int)&&&BitVec.ofInt 32 (b:Int)).toNat=_;rw[dS,dS,BitVec.toNat_and,eu,eu,eH (by omega),eH (by omega)]
theorem anj (a b:Nat)(ha:a<4294967296)(hb:b<4294967296):toNat (BitVec.ofInt (IntKind.bits .u32) (a:Int)^^^BitVec.ofInt (IntKind.bits .u32) (b:Int))=a^^^b:=by show(BitVec.ofInt 32 (a:Int)^^^BitVec.ofInt 32 (b:Int)).toNat=_;rw[dS,dS,BitVec.toNat_xor,eu,eu,eH (by omega),eH (by omega)]
theorem IC (x k y:Nat)(hy:y<2^k:=by omega)(h:2^k*x+y<9223372036854775808:=by omega):ar (toNat (ie ((2^k*x:Nat):Int)|||ie (y:Int)):Int)=((2^k*x+y:Nat):Int):=by rw[av2 _ _ (by omega) (by omega),<-Nat.two_pow_add_eq_or_of_lt hy];exact jt h
theorem M5 (s:Bytes)(a n:Int):(cond (decide (a<0)) (some true) (some (decide (a>(s.length:Int)-n))))=some (!fA s a n):=by cases hw:fA s a n with|true=>simp only[fA,aF]at hw;rw[aq (show¬a<0 by omega),aq (show¬a>(s.length:Int)-n by omega)];rfl|false=>simp only[fA,cY]at hw;by_cases h0:a<0;rw[au h0];rfl;rw[aq h0,au (show a>(s.length:Int)-n by omega)];rfl
theorem xQ (s:Bytes)(a:Int)(h:s.length<=10^9):fN s a=some (dc s a):=by unfold fN dc;rw[al (n:=(s.length:Int)-2)];rw[M5,ab];cases hw:fA s a 2 with|false=>rfl|true=>simp only[fA,aF]at hw;obtain⟨n,rfl⟩:=aQ hw.1;obtain⟨x,hx,ex⟩:=mO (s:=s) (i:=n);obtain⟨y,hy,ey⟩:=mO (s:=s) (i:=n+1);have hxl:=eD s n;have hyl:=eD s (n+1);rw[al (n:=(n:Int)+1),hx,show(n:Int)+1=((n+1:Nat):Int) by omega,hy];simp only[aj,af,ah,ab,ax];rw[nX,ex,ey,jt (n:=bV s n),jt (n:=bV s (n+1))];have e8:tU 8=8:=rfl;rw[e8,show((bV s n:Nat):Int)*2^8=((2^8*bV s n:Nat):Int) by omega,jt (n:=2^8*bV s n),IC (bV s n) 8 (bV s (n+1))];congr 1;all_goals omega
theorem xR (s:Bytes)(a:Int)(h:s.length<=10^9):im s a=some (eM s a):=by
 unfold im eM;rw[al (n:=(s.length:Int)-4)];rw[M5,ab];cases hw:fA s a 4 with
 |false=>rfl
 |true=>
  simp only[fA,aF]at hw;obtain⟨n,rfl⟩:=aQ hw.1;obtain⟨x0,h0,e0⟩:=mO (s:=s) (i:=n);obtain⟨x1,h1,e1⟩:=mO (s:=s) (i:=n+1);obtain⟨x2,h2,e2⟩:=mO (s:=s) (i:=n+2);obtain⟨x3,h3,e3⟩:=mO (s:=s) (i:=n+3);have b0:=eD s n;have b1:=eD s (n+1);have b2:=eD s (n+2);have b3:=eD s (n+3)
  rw[al (n:=(n:Int)+1),al (n:=(n:Int)+2),al (n:=(n:Int)+3),h0,show(n:Int)+1=((n+1:Nat):Int) by omega,h1,
   show(n:Int)+2=((n+2:Nat):Int) by omega,h2,show(n:Int)+3=((n+3:Nat):Int) by omega,h3]
  simp only[aj,af,ah,ab,ax];rw[nX,nX,nX,e0,e1,e2,e3];generalize bV s n=p0 at*;generalize bV s (n+1)=p1 at*;generalize bV s (n+2)=p2 at*;generalize bV s (n+3)=p3 at*;have f24:tU 24=24:=rfl;have f16:tU 16=16:=rfl;have f8:tU 8=8:=rfl
  rw[jt (n:=p0),jt (n:=p1),jt (n:=p2),jt (n:=p3),f24,f16,f8,
   show((p0:Nat):Int)*2^24=((2^24*p0:Nat):Int) by omega,show((p1:Nat):Int)*2^16=((2^16*p1:Nat):Int) by omega,show((p2:Nat):Int)*2^8=((2^8*p2:Nat):Int) by omega,
   jt (n:=2^24*p0),jt (n:=2^16*p1),jt (n:=2^8*p2),IC p0 24 (2^16*p1),
   show 2^24*p0+2^16*p1=2^16*(2^8*p0+p1) by omega,IC _ 16 (2^8*p2),
   show 2^16*(2^8*p0+p1)+2^8*p2=2^8*(2^8*(2^8*p0+p1)+p2) by omega,IC _ 8 p3]
  congr 1;all_goals omega
def H9 (c:Nat):Nat:=if c%2=1 then(c/2)^^^3988292384 else c/2
def vY:Nat->Nat->Nat
 |0,c=>c
 |n+1,c=>H9 (vY n c)
def auX (c:Nat)(s:Bytes):Nat:=s.foldl (λc b=>vY 8 (c^^^b.toNat)) c
def L5 (s:Bytes):Int:=4294967295-(auX 4294967295 s:Int)
theorem EX {a b:Nat}(ha:a<4294967296:=by omega)(hb:b<4294967296:=by omega):a^^^b<4294967296:=Nat.xor_lt_two_pow (n:=32) ha hb
theorem aeD {c:Nat}(h:c<4294967296):H9 c<4294967296:=by unfold H9;split;exact EX;omega
theorem Jc {c:Nat}(h:c<4294967296):∀n,vY n c<4294967296
 |0=>h
 |n+1=>aeD (Jc h n)
theorem ajQ (k0:Int->Int->ay R)(k:Int->ay R)(hk:∀x y,k0 x y=k x)(v0:Bytes)(v4:Int)(c:Nat)(h:c<4294967296):bc (qK k0 v0 v4) fuel ((c:Int),0)=k (vY 8 c:Int):=by
 have Df:=eo
 have key:=JX (T:=qK k0 v0 v4) 8 (λ(_:Unit) i=>((vY i c:Int),(i:Int))) (λ_ s nx=>nx s) (λ_=>k (vY 8 c:Int))
  (λi s nx hi=>by
   have hc:=Jc h i;simp only[qK];have a1:=amr (vY i c) 1;have x1:=akP (vY i c/2) 3988292384 (by omega) (by omega);simp only[Int.natCast_one]at a1
   rw[iU,ah,a1,Nat.and_one_is_mod,
    show tU 1=1 from rfl,show fdiv ((vY i c:Nat):Int) (2^1)=((vY i c/2:Nat):Int) from by rw[Int.fdiv_eq_ediv_of_nonneg _ (by omega)];rfl,
    show(3988292384:Int)=((3988292384:Nat):Int) from rfl,x1,
    jt (n:=vY i c%2),jt (n:=(vY i c/2)^^^3988292384) (by have:=EX (a:=vY i c/2) (b:=3988292384);omega),nX,nX,al (n:=(i:Int)+1)]
   show _=nx ((H9 (vY i c):Int),((i+1:Nat):Int));unfold H9;by_cases hp:vY i c%2=1;rw[hp,aH rfl];rfl;have h0:vY i c%2=0:=by omega
   rw[h0,nX];rfl)
  (λs nx=>by simp only[qK];rw[cz,af,hk])
  fuel 0 () (by omega) (by omega)
 refine key.trans ?_;rfl
theorem aiM (k0:Int->Int->ay R)(k:Int->ay R)(hk:∀x y,k0 x y=k x)(v0:Bytes)(v4:Int)(c:Nat)(h:c<4294967296):bc (qF k0 v0 v4) fuel ((c:Int),0)=k (vY 8 c:Int):=by
 have Df:=eo
 have key:=JX (T:=qF k0 v0 v4) 8 (λ(_:Unit) i=>((vY i c:Int),(i:Int))) (λ_ s nx=>nx s) (λ_=>k (vY 8 c:Int))
  (λi s nx hi=>by
   have hc:=Jc h i;simp only[qF];have a1:=apY (vY i c) 1 (by omega) (by omega);have x1:=anj (vY i c/2) 3988292384 (by omega) (by omega);simp only[Int.natCast_one]at a1
   rw[iU,ah,a1,Nat.and_one_is_mod,
    show min (Int.toNat 1) (IntKind.bits .u32)=1 from rfl,show fdiv ((vY i c:Nat):Int) (2^1)=((vY i c/2:Nat):Int) from by rw[Int.fdiv_eq_ediv_of_nonneg _ (by omega)];rfl,
    show(3988292384:Int)=((3988292384:Nat):Int) from rfl,x1,
    KH (n:=vY i c%2),KH (n:=(vY i c/2)^^^3988292384) (EX),nX,al (n:=(i:Int)+1)]
   show _=nx ((H9 (vY i c):Int),((i+1:Nat):Int));unfold H9;by_cases hp:vY i c%2=1;rw[hp,aH rfl];rfl;have h0:vY i c%2=0:=by omega
   rw[h0,nX];rfl)
  (λs nx=>by simp only[qF];rw[cz,af,hk])
  fuel 0 () (by omega) (by omega)
 refine key.trans ?_;rfl
theorem adZ (s:Bytes)(h:s.length<=10^9):Ch s=some (L5 s):=by
 unfold Ch;have:=uz (T:=uB (λ(y4:Int) (_:Int)=>some (ar (4294967295-y4))) s) s (λ(c:Nat) i=>((c:Int),(i:Int))) (λ_ c=>c<4294967296) (λb c=> .ok (vY 8 (c^^^b.toNat))) (λc=>some (4294967295-(c:Int))) (by omega) (λi hi c nx hI=>?hs) (λi hi c c' hI hg=>?hn) (λc nx hI=>?hf) 4294967295 (by omega)
 case hs=>
  have hb:=uJ s[i]
  simp only[uB]
  rw[iU,bj hi,ah,ab,jt (n:=s[i].toNat),akP c s[i].toNat (by omega) (by omega)]
  have hx:=EX hI (show s[i].toNat<4294967296 by omega)
  rw[jt,ajQ _ (λy=>nx (y,(i:Int)+1)) (λx y=>by rw[al]) _ _ _ hx];rfl
 case hn=>
  cases hg
  exact Jc (EX hI (by have:=uJ s[i];omega)) 8
 case hf=>
  simp only[uB]
  rw[cz,af,al]
 rw[Hb]at this;exact this
theorem not_xor (c:Nat)(h:c<4294967296):toNat (BitVec.ofInt (IntKind.bits .u32) (IntKind.max .u32)^^^BitVec.ofInt (IntKind.bits .u32) (c:Int))=4294967295-c:=by show(BitVec.ofInt 32 4294967295^^^BitVec.ofInt 32 (c:Int)).toNat=_;rw[show BitVec.ofInt 32 4294967295=BitVec.allOnes 32 by decide,dS,BitVec.allOnes_xor,BitVec.toNat_not,eu,eH (show c<2^32 by omega)]
theorem adv (s:Bytes)(h:s.length<=10^9):BU s=some (L5 s):=by
 unfold BU;have:=uz (T:=ug (λ(y4:Int) (_:Int)=>some (ar (IntKind.wrap .u32 (toNat (BitVec.ofInt (IntKind.bits .u32) (IntKind.max .u32)^^^BitVec.ofInt (IntKind.bits .u32) y4))))) s) s (λ(c:Nat) i=>((c:Int),(i:Int))) (λ_ c=>c<4294967296) (λb c=> .ok (vY 8 (c^^^b.toNat))) (λc=>some (4294967295-(c:Int))) (by omega) (λi hi c nx hI=>?hs) (λi hi c c' hI hg=>?hn) (λc nx hI=>?hf) 4294967295 (by omega)
 case hs=>
  have hb:=uJ s[i]
  simp only[ug]
  rw[iU,bj hi,ah,ab,KH (n:=s[i].toNat),anj c s[i].toNat (by omega) (by omega)]
  have hx:=EX hI (show s[i].toNat<4294967296 by omega)
  rw[KH hx,aiM _ (λy=>nx (y,(i:Int)+1)) (λx y=>by rw[al]) _ _ _ hx];rfl
 case hn=>
  cases hg
  exact Jc (EX hI (by have:=uJ s[i];omega)) 8
 case hf=>
  simp only[ug]
  rw[cz,af,not_xor c hI,KH,jt]
  congr 1
  all_goals omega
 rw[Hb]at this;exact this
def hasB (l:bP)(v:Int):Bool:=l.any (·==v)
theorem W4:hasB l v=true↔v∈l:=by simp only[hasB,List.any_eq_true,aZ];constructor;rintro⟨x,hx,rfl⟩;exact hx;intro h;exact⟨v,h,rfl⟩
theorem ad0 (l:bP)(v:Int)(h:l.length<=10^9):zS l v=some (hasB l v):=by
 unfold zS hasB;rw[I4 (hit:=some true) (fin:=some false) (λx:Int=>x==v) l (by omega) (λi hi nx=>?hs) (λnx=>?hf)]
 case hs=>
  simp only[xv]
  rw[iU,bj hi,al];rfl
 case hf=>
  simp only[xv]
  rw[cz];rfl
 cases l.any (λx=>x==v)<;>rfl
theorem Az (l:bP)(v:Int)(h:l.length<=10^9):gH l v=some (hasB l v):=by
 unfold gH hasB;rw[I4 (hit:=some true) (fin:=some false) (λx:Int=>x==v) l (by omega) (λi hi nx=>?hs) (λnx=>?hf)]
 case hs=>
  simp only[wW]
  rw[iU,bj hi,al];rfl
 case hf=>
  simp only[wW]
  rw[cz];rfl
 cases l.any (λx=>x==v)<;>rfl
def ins (v:Int):bP->bP
 |[]=>[v]
 |x::l=>bif decide (v<x) then v::x::l else x::ins v l
theorem US (v:Int):∀l,(ins v l).length=l.length+1
 |[]=>rfl
 |x::l=>by rw[ins];cases decide (v<x)with|true=>rfl|false=>simp only[af,ba,US v l]
theorem adG (v x:Int):∀l,x∈ins v l↔x=v\/x∈l
 |[]=>by simp[ins]
 |y::l=>by rw[ins];cases decide (v<y)with|true=>simp|false=>simp only[af,bM,adG v x l];constructor<;>(rintro(h|h|h)<;>simp[h])
theorem ai2 (v:Int):∀l:bP,v∉l->l.take (l.findIdx (λx=> !decide (x<v)))++[v]++l.drop (l.findIdx (λx=> !decide (x<v)))=ins v l
 |[],_=>rfl
 |x::l,h=>by rw[ins,List.findIdx_cons];have hx:v≠x:=λe=>h (by simp[e]);have hl:v∉l:=λe=>h (by simp[e]);by_cases c:x<v;rw[au c,aq (show¬v<x by omega)];have:=ai2 v l hl;simpa using this;rw[aq c,au (show v<x by omega)];rfl
def xL (l:bP)(v:Int):bP:=bif hasB l v then l else ins v l
theorem I2 (l:bP)(v:Int):(xL l v).length<=l.length+1:=by unfold xL;cases hasB l v with|true=>simp|false=>simp only[af,US];omega
theorem ajf {x:Int}(h:x∈l):x∈xL l v:=by unfold xL;cases hasB l v with|true=>exact h|false=>exact(adG v x l).2 (.inr h)
theorem aes (h:v∈l):xL l v=l:=by unfold xL;rw[W4.2 h];rfl
theorem D7:∀(vs l:bP),(vs.foldl xL l).length<=l.length+vs.length
 |[],l=>by simp
 |v::vs,l=>by have:=D7 vs (xL l v);have:=I2 l v;simp only[dp,ba];omega
theorem Lr:∀(vs:bP){l:bP}{x:Int},x∈l->x∈vs.foldl xL l
 |[],_,_,h=>h
 |v::vs,l,x,h=>Lr vs (l:=xL l v) (ajf h)
theorem aie (p:α->Bool)(k:Int->ay R)(l:aw α):(match l.findIdx? p with|some i=>k (i:Int)|none=>k (l.length:Int))=k (l.findIdx p:Int):=by cases h:l.findIdx? p with|none=>rw[List.findIdx?_eq_none_iff_findIdx_eq]at h;rw[h]|some i=>rw[List.findIdx?_eq_some_iff_findIdx_eq]at h;rw[h.2]
theorem Zi (l:aw α)(j:Nat)(h:j<=l.length):sub l 0 (j:Int)=some (l.take j):=by unfold sub;rw[zip];simp
theorem Kx (l:aw α)(j:Nat)(h:j<=l.length):sub l (j:Int) (l.length:Int)=some (l.drop j):=by unfold sub;rw[zip];simp
theorem Tb (a vs:bP)(h:a.length+vs.length<=10^9):uH a vs=some (vs.foldl xL a):=by
 unfold uH;rw[aO (by simp only[ed];omega)];rw[ch];have:=uz (T:=oV (λ(Bx:bP) (_:Int)=>some Bx) vs) vs (λ(s:bP) i=>(s,(i:Int))) (λi s=>s.length<=a.length+i) (λv s=> .ok (xL s v)) (λs=>some s) (by omega) (λi hi s nx hI=>?hs) (λi hi s s' hI hg=>?hn) (λs nx hI=>?hf) a (by simp)
 case hs=>
  simp only[oV]
  rw[iU,bj hi,al (n:=(i:Int)+1)]
  simp only[ah,ab,ad0 s vs[i] (by omega)]
  unfold xL
  cases hh:hasB s vs[i]with
  |true=>rfl
  |false=>
   have hm:vs[i]∉s:=λe=>by rw[W4.2 e]at hh;cases hh
   simp only[af]
   rw[GO (hit:=λy6=>aa (sub s 0 y6) λx7=>room (List.length ([]:bP)+List.length x7) (room (List.length (([]:bP)++x7)+List.length ([vs[i]])) (aa (sub s y6 (s.length:Int)) λx9=>room (List.length ((([]:bP)++x7)++([vs[i]]))+List.length x9) (nx (((([]:bP)++x7)++([vs[i]]))++x9,(i:Int)+1)))))
    (fin:=aa (sub s 0 (s.length:Int)) λx7=>room (List.length ([]:bP)+List.length x7) (room (List.length (([]:bP)++x7)+List.length ([vs[i]])) (aa (sub s (s.length:Int) (s.length:Int)) λx9=>room (List.length ((([]:bP)++x7)++([vs[i]]))+List.length x9) (nx (((([]:bP)++x7)++([vs[i]]))++x9,(i:Int)+1)))))
    (λx=> !decide (x<vs[i])) s (by omega) (λj hj nx'=>?Xi) (λnx'=>?Ax)]
   case Xi=>
    simp only[tA]
    rw[iU,bj hj,bj hi,al (n:=(j:Int)+1)]
    simp only[ah,ab]
    cases decide (s[j]<vs[i])<;>rfl
   case Ax=>
    simp only[tA]
    rw[cz];rfl
   refine Eq.trans (aie (λx=> !decide (x<vs[i])) (λy6=>aa (sub s 0 y6) λx7=>room (List.length ([]:bP)+List.length x7) (room (List.length (([]:bP)++x7)+List.length ([vs[i]])) (aa (sub s y6 (s.length:Int)) λx9=>room (List.length ((([]:bP)++x7)++([vs[i]]))+List.length x9) (nx (((([]:bP)++x7)++([vs[i]]))++x9,(i:Int)+1))))) s) ?_
   have hle:s.findIdx (λx=> !decide (x<vs[i]))<=s.length:=List.findIdx_le_length
   have e:=ai2 vs[i] s hm
   generalize s.findIdx (λx=> !decide (x<vs[i]))=j at*
   rw[Zi s j hle,Kx s j hle]
   simp only[ab,ch]
   rw[aO (by simp;omega),aO (by simp;omega),aO (by simp;omega),e];rfl
 case hn=>
  cases hg
  have:=I2 s vs[i]
  omega
 case hf=>
  simp only[oV]
  rw[cz];rfl
 rw[Hb]at this;exact this
theorem UH (l:bP)(v:Int)(h:l.length<=10^9):kv l v=some (ins v l):=by
 unfold kv
 have hgo:∀(l:bP)(acc:bP)(d:Bool),acc.length+l.length+(bif d then 0 else 1)<=1073741824->
  wj (λ(x:Int) (s:bP×Bool) (k:bP×Bool->ay bP)=>cond (cond (!s.2) (decide (v<x)) false) (room (List.length s.1+List.length ([v])) (room (List.length (s.1++([v]))+List.length ([x])) (k ((s.1++([v]))++([x]),true)))) (room (List.length s.1+List.length ([x])) (k (s.1++([x]),s.2))))
   (λs=>cond (!s.2) (room (List.length s.1+List.length ([v])) (some (s.1++([v])))) (some s.1)) l (acc,d)=some (acc++bif d then l else ins v l):=by
  intro l
  induction l with
  |nil=>
   intro acc d hl
   rw[wj]
   simp only[ed]at hl
   cases d with
   |true=>simp
   |false=>
    simp only[bw,ah,af]at hl⊢
    rw[aO (by simp;omega)];rfl
  |cons x l ih=>
   intro acc d hl
   simp only[ba]at hl
   rw[wj]
   cases d with
   |true=>
    simp only[aj,af,ah]at hl⊢
    rw[aO (by simp;omega),ih _ _ (by simp;omega)]
    simp
   |false=>
    simp only[bw,ah,af]at hl⊢
    rw[ins]
    cases decide (v<x)with
    |true=>
     simp only[ah]
     rw[aO (by simp;omega),aO (by simp;omega)]
     rw[ih _ _ (by simp;omega)];simp
    |false=>
     simp only[af]
     rw[aO (by simp;omega),ih _ _ (by simp;omega)]
     simp
 have Df:=eo;have key:=xV (T:=lN (λ(y3:bP) (y4:Bool) (_:Int)=>cond (!y4) (room (List.length y3+List.length ([v])) (some (y3++([v])))) (some y3)) v l (l.length:Int)) l (λ(s:bP×Bool) i=>(s.1,s.2,(i:Int))) (λ(x:Int) (s:bP×Bool) (k:bP×Bool->ay bP)=>cond (cond (!s.2) (decide (v<x)) false) (room (List.length s.1+List.length ([v])) (room (List.length (s.1++([v]))+List.length ([x])) (k ((s.1++([v]))++([x]),true)))) (room (List.length s.1+List.length ([x])) (k (s.1++([x]),s.2)))) (λs=>cond (!s.2) (room (List.length s.1+List.length ([v])) (some (s.1++([v])))) (some s.1)) (λi hi s nx=>by simp only[lN];rw[iU,bj hi,al (n:=(i:Int)+1)];simp only[ah,ab,br];rfl) (λs nx=>by simp only[lN];rw[cz];rfl) fuel 0 (([]:bP),false) (by omega) (by omega);rw[ez,hgo l [] false (by simp;omega)]at key;exact key
def mh:Port:=(0,[],0,false)
def NM (p:Port):Bool:=eV (p.1,false,p.2.1)&&hasB p.2.1 p.2.2.1
def Ka (l:aw Port)(i:Nat):Bool:=NM (l.getD i mh)&&(range i).all (λj=> !((j !=0)&&((l.getD j mh).1==(l.getD i mh).1)))
def iS (l:aw Port):Bool:=cS (l.length:Int) 1 8&&(range l.length).all (Ka l)
theorem aci (i:Nat)(q:Nat->Bool):(range (i-1)).all (λj=> !(q (j+1)))=(range i).all (λj=> !((j !=0)&&q j)):=by
 rw[cq,aD,aD];simp only[bD];constructor;intro h j hj;cases j with|zero=>rfl|succ j=>have:=h j (by omega);simpa using this
 intro h j hj;have:=h (j+1) (by omega);simpa using this
theorem agE (l:aw Port)(h:l.length<=10^9)(hv:∀p∈l,p.2.1.length<=10^9):xp l=some (iS l):=by
 unfold xp iS;rw[iK (hit:=some false) (fin:=some true) (Ka l) l.length (by omega) (λi nx hi=>?hs) (λnx=>?hf)]
 case hs=>
  have hvi:=hv _ (aI hi)
  simp only[vi]
  rw[iU,bj hi,al]
  simp only[ah,ab,Cg (l[i].1,false,l[i].2.1) hvi,ad0 _ _ hvi]
  have e1:(1:Int)=(((0:Nat)+1:Nat):Int):=rfl
  rw[e1,KN (hit:=some false) (fin:=nx ((i:Int)+1)) (λj=>((j+1:Nat):Int)) (λj=> !((l.getD (j+1) mh).1==l[i].1)) (i-1) (by omega) (λj nx' hj hp=>?Xi) (λhp nx'=>?Ax)]
  case Xi=>
   have hjl:j+1<l.length:=by omega
   simp only[vj]
   rw[iU,bj hjl,bj hi,al]
   simp only[ah,ab,cH hjl,fu];rfl
  case Ax=>
   simp only[vj]
   rw[cz];rfl
  rw[aci i (λj=>(l.getD j mh).1==l[i].1)]
  simp only[Ka,NM,cH hi]
  cases eV (l[i].1,false,l[i].2.1)<;>cases hasB l[i].2.1 l[i].2.2.1<;>cases (range i).all (λj=> !((j !=0)&&((l.getD j mh).1==l[i].1)))<;>rfl
 case hf=>
  simp only[vi]
  rw[cz];rfl
 simp only[dq,ab];cases cS (l.length:Int) 1 8<;>cases (range l.length).all (Ka l)<;>rfl
def Ed (p:Nat->Bool):fE->Int
 |[]=> -1
 |j::r=>bif p j then(j:Int) else Ed p r
theorem WE (p:Nat->Bool):∀n s i,s<=i->i<s+n->p i=true->(Ed p (List.range' s n)==(i:Int))=(List.range' s (i-s)).all (λj=> !(p j))
 |0,s,i,h1,h2,_=>by omega
 |n+1,s,i,h1,h2,hp=>by
  rw[List.range'_succ,Ed];rcases cn s i with gF|BQ;obtain⟨k,hk⟩:∃k,i-s=k+1:=⟨i-s-1,by omega⟩
  rw[hk,List.range'_succ,bX];cases hps:p s with
  |true=>
   simp only[ah,aj,dQ];have:¬(s:Int)=(i:Int):=by omega
   simpa using this
  |false=>simp only[af,bw,bl];rw[WE p n (s+1) i (by omega) (by omega) hp,show i-(s+1)=k by omega]
  have:s=i:=by omega
  subst this;rw[hp,jg];simp
theorem P1 (p:Nat->Bool)(hit:Nat->ay R)(fin:ay R)(k:Int->ay R)(h1:∀j:Nat,hit j=k (j:Int))(h2:fin=k (-1)):∀l:fE,Dq (λ(j:Nat) (s:Unit)=>bif p j then .error (hit j) else .ok ()) (λ_=>fin) l ()=k (Ed p l)
 |[]=>h2
 |j::l=>by rw[Dq,Ed];cases p j with|true=>exact h1 j|false=>exact P1 p hit fin k h1 h2 l
theorem XH (l:aw Port)(a:Int)(h:l.length<=10^9):uu l a=some (Ed (λj=>(j !=0)&&((l.getD j mh).1==a)) (List.range' 0 l.length)):=by
 unfold uu;have:=uz (T:=oy (λ(_:Int)=>some (-1)) (λ(y4:Int) (_:Int)=>some y4) a 0 l (l.length:Int)) (List.range' 0 l.length) (λ(_:Unit) i=>(i:Int)) (λ_ _=>True) (λ(j:Nat) (s:Unit)=>bif (j !=0)&&((l.getD j mh).1==a) then .error (some (j:Int)) else .ok ()) (λ_=>some (-1)) (by simp;omega) (λi hi s nx _=>?hs) (λ_ _ _ _ _ _=>trivial) (λs nx _=>?hf) () trivial
 case hs=>
  have NJ:i<l.length:=by simpa using hi
  have e:(List.range' 0 l.length)[i]=i:=by simp
  rw[e]
  simp only[oy]
  rw[iU,bj NJ,al]
  simp only[ah,ab,cH NJ,br,cF]
  have e2:((i:Int) !=0)=(i !=0):=by rw[cq];simp
  rw[e2]
  cases (i !=0)&&(l[i].1==a)<;>rfl
 case hf=>
  simp only[oy]
  rw[aq (by simp)];rfl
 rw[P1 (λj=>(j !=0)&&((l.getD j mh).1==a)) _ _ (λx=>some x) (λ_=>rfl) rfl]at this;exact this
theorem G3 (l:aw Port)(h:l.length<=10^9)(hv:∀p∈l,p.2.1.length<=10^9):mV l=some (iS l):=by
 unfold mV iS;rw[iK (hit:=some false) (fin:=some true) (Ka l) l.length (by omega) (λi nx hi=>?hs) (λnx=>?hf)]
 case hs=>
  have hvi:=hv _ (aI hi)
  simp only[uQ]
  rw[iU,bj hi,al]
  simp only[ah,ab,Dj,rQ (l[i].1,false,l[i].2.1) hvi,Az _ _ hvi,XH l _ h,br,bne]
  have e2:((i:Int)==0)=(i==0):=by rw[cq];simp
  rw[e2]
  simp only[Ka,NM,cH hi]
  cases h0:i==0 with
  |true=>
   have:i=0:=by simpa using h0
   subst this
   cases eV (l[0].1,false,l[0].2.1)<;>cases hasB l[0].2.1 l[0].2.2.1<;>rfl
  |false=>
   have DK:(i !=0)=true:=by simp only[bne,h0,bw]
   have fa:=WE (λj=>(j !=0)&&((l.getD j mh).1==l[i].1)) l.length 0 i (by omega) (by omega) (by simp only[DK,cH hi,bl,beq_self_eq_true])
   rw[Nat.sub_zero,<-List.range_eq_range' (n:=i)]at fa
   simp only[bne]at fa⊢
   rw[fa]
   cases eV (l[i].1,false,l[i].2.1)<;>cases hasB l[i].2.1 l[i].2.2.1<;>cases (range i).all (λj=> !((!(j==0))&&((l.getD j mh).1==l[i].1)))<;>rfl
 case hf=>
  simp only[uQ]
  rw[cz];rfl
 simp only[cl,ab];cases cS (l.length:Int) 1 8<;>cases (range l.length).all (Ka l)<;>rfl
def jE (m:bJ):Bool:=eV m.1&&(cS m.2.1 0 1000000000000&&cS m.2.2.2 0 1000000000000)
theorem ajY (m:bJ)(h:m.1.2.2.length<=10^9):xl m=some (jE m):=by simp only[xl,Cg _ h,dq,ab,br,cF,jE]
theorem Xw (m:bJ)(h:m.1.2.2.length<=10^9):rU m=some (jE m):=by simp only[rU,rQ _ h,cl,ab,br,cF,jE]
theorem BX (h:jE m=true):m.1.2.2.length<=8:=by unfold jE eV at h;simp only[ae,aF]at h;omega
def Va (m:bJ):Port:=(m.1.1,m.1.2.2.foldl xL [0],0,true)
def Ff (s:bP×aw Port)(m:bJ):bP×aw Port:=(m.1.2.2.foldl xL s.1,s.2++[Va m])
def mc (ms:aw bJ):aw Port:=(0,(ms.foldl Ff ([0],[])).1,0,false)::(ms.foldl Ff ([0],[])).2
def du (ms:aw bJ):aw Port×Bool:=bif cS (ms.length:Int) 1 3&&(ms.all jE&&iS (mc ms)) then(mc ms,true) else([],false)
theorem P0 (p:α->Bool)(f:σ->α->σ)(r:ay R)(fin:σ->ay R):∀(l:aw α)(s:σ),Dq (λx s=>bif p x then .ok (f s x) else .error r) fin l s=bif l.all p then fin (l.foldl f s) else r
 |[],s=>rfl
 |x::l,s=>by rw[Dq,bX,dp];cases p x with|false=>rfl|true=>simp only[ah,bl];exact P0 p f r fin l (f s x)
def VR (i:Nat)(s:bP×aw Port):Prop:=s.1.length<=1+9*i/\s.2.length=i/\∀p∈s.2,p.2.1.length<=9
theorem VR.port {s:bP×aw Port}(h:VR i s)(hm:jE m=true)(U:bP)(hU:U.length<=s.1.length+9:=by omega):VR (i+1) (U,s.2++[Va m]):=by have hl:=BX hm;have:=D7 m.1.2.2 [0];refine⟨?_,?_,?_⟩;have:=h.1;simp only;omega;have:=h.2.1;simp;omega;intro p hp;rcases az.1 hp with hp|hp;exact h.2.2 p hp;simp only[bF]at hp;subst hp;simp only[Va,bf]at this⊢;omega
theorem Gb {s:bP×aw Port}(h:VR i s)(hi:i<=3:=by omega):((0,s.1,0,false)::s.2:aw Port).length<=10^9/\∀p∈((0,s.1,0,false)::s.2:aw Port),p.2.1.length<=10^9:=by have h1:=h.1;have h2:=h.2.1;refine⟨by simp only[ba];omega,λp hp=>?_⟩;rcases bM.1 hp with rfl|hp;simp only;omega;have:=h.2.2 p hp;omega
theorem YX (ms:aw bJ)(h:∀m∈ms,m.1.2.2.length<=10^9):AR ms=some (du ms):=by
 unfold AR du;simp only[dq,ab];cases hn:cS (ms.length:Int) 1 3 with
 |false=>rfl
 |true=>
  have DH:=aX.1 hn;simp only[aj,af,bl];have:=uz (T:=qp (λ(zW:aw Port) (_:Int)=>aa (xp zW) λVe=>cond (!Ve) (some (([]:aw Port),false)) (some (zW,true))) (λ(Dx:aw Port) (Fi:Bool) (_:aw Port) (_:Int)=>some (Dx,Fi)) ms ([]:aw Port) false) ms (λ(s:bP×aw Port) i=>((0,s.1,0,false)::s.2,(i:Int))) VR (λm s=>bif jE m then .ok (Ff s m) else .error (some (([]:aw Port),false))) (λs=>some (bif iS ((0,s.1,0,false)::s.2) then((0,s.1,0,false)::s.2,true) else([],false))) (by omega) (λi hi s nx hI=>?hs) (λi hi s s' hI hg=>?hn) (λs nx hI=>?hf) ([0],[]) ⟨by simp,rfl,by simp⟩
  case hs=>
   simp only[qp]
   have hm:=h _ (aI hi)
   rw[iU,bj hi,al (n:=(i:Int)+1)]
   simp only[ah,ab,ajY _ hm]
   cases IW:jE ms[i]with
   |false=>rfl
   |true=>
    have hl:=BX IW
    have hU:=hI.1
    have hP:=hI.2.1
    have e0:idx ((0,s.1,0,false)::s.2:aw Port) 0=some (0,s.1,0,false):=rfl
    simp only[aj,af,ah,e0,ab]
    rw[Tb s.1 _ (by omega),Tb [0] _ (by simp;omega)]
    simp only[ab]
    rw[aO (by simp;omega)]
    rfl
  case hn=>
   cases IW:jE ms[i]with
   |false=>rw[IW]at hg;cases hg
   |true=>
    rw[IW]at hg
    cases hg
    have:=D7 ms[i].1.2.2 s.1
    have:=BX IW
    exact hI.port IW _
  case hf=>
   simp only[qp]
   rw[cz]
   have hb:=Gb hI
   simp only[af,agE _ hb.1 hb.2,ab]
   cases iS ((0,s.1,0,false)::s.2)<;>rfl
  rw[P0]at this;refine Eq.trans this ?_;unfold mc;cases ms.all jE<;>rfl
def Tf (s:bP×aw Port)(m:bJ):bP×aw Port:=(([0]++m.1.2.2).foldl xL s.1,s.2++[Va m])
theorem aj4 {s:bP×aw Port}(h:(0:Int)∈s.1):Tf s m=Ff s m:=by unfold Tf Ff;rw[List.foldl_append];simp only[dp,List.foldl_nil,aes h]
theorem Qo:∀(ms:aw bJ)(s:bP×aw Port),(0:Int)∈s.1->ms.foldl Tf s=ms.foldl Ff s
 |[],_,_=>rfl
 |m::ms,s,h=>by rw[dp,dp,aj4 h];exact Qo ms _ (Lr _ h)
theorem Zf (ms:aw bJ)(h:ms≠[]):ms.foldl Tf ([],[])=ms.foldl Ff ([0],[]):=by cases ms with|nil=>exact absurd rfl h|cons m ms=>rw[dp,dp];have e:Tf ([],[]) m=Ff ([0],[]) m:=rfl;rw[e];exact Qo ms _ (Lr _ (by simp))
theorem aff (k0:bP->bP->Int->ay R)(k:bP->bP->ay R)(hk:∀a b i,k0 a b i=k a b)(v2:aw Port)(v3:Bool)(v4:aw Port)(v18:aw bJ)(v19 v20:Int)(b7:bJ)(vs all:bP)(h:all.length+vs.length<=10^9): bc (lq k0 v2 v3 v4 v18 v19 v20 vs (vs.length:Int) b7) fuel (all,([]:bP),0)=k (vs.foldl xL all) (vs.foldl xL []):=by
 have:=uz (T:=lq k0 v2 v3 v4 v18 v19 v20 vs (vs.length:Int) b7) vs (λ(s:bP×bP) i=>(s.1,s.2,(i:Int))) (λi s=>s.1.length<=all.length+i/\s.2.length<=i) (λv s=> .ok (xL s.1 v,xL s.2 v)) (λs=>k s.1 s.2) (by omega) (λi hi s nx hI=>?hs) (λi hi s s' hI hg=>?hn) (λs nx hI=>?hf) (all,[]) ⟨by simp,by simp⟩
 case hs=>
  simp only[lq]
  rw[iU,bj hi,al (n:=(i:Int)+1)]
  simp only[ah,ab,Az s.2 vs[i] (by omega),Az s.1 vs[i] (by omega),UH s.2 vs[i] (by omega),UH s.1 vs[i] (by omega),xL]
  cases hasB s.2 vs[i]<;>cases hasB s.1 vs[i]<;>rfl
 case hn=>
  cases hg
  have:=I2 s.1 vs[i]
  have:=I2 s.2 vs[i]
  have h1:=hI.1
  have h2:=hI.2
  exact⟨by simp only;omega,by simp only;omega⟩
 case hf=>
  simp only[lq]
  rw[cz]
  simp only[af,hk]
 rw[Hb]at this;refine Eq.trans this ?_;have e:∀(l:bP)(s:bP×bP),l.foldl (λs v=>(xL s.1 v,xL s.2 v)) s=(l.foldl xL s.1,l.foldl xL s.2):=by intro l;induction l with|nil=>intro s;rfl|cons x l ih=>intro s;rw[dp,ih];rfl
 rw[e]
theorem CO (ms:aw bJ)(h:∀m∈ms,m.1.2.2.length<=10^9):pB ms=some (du ms):=by
 unfold pB du;simp only[cl,ab];cases hn:cS (ms.length:Int) 1 3 with
 |false=>rfl
 |true=>
  have DH:=aX.1 hn;simp only[aj,af,bl];have:=uz (T:=qf (λ(xF:aw Port) (Dx:bP) (_:Int)=>aa (idx xF 0) λx17=>aa (idx xF 0) λTs=>aa (mV (List.set xF (Int.toNat 0) (Ts.1,Dx,Ts.2.2))) λr19=>cond (!r19) (some (([]:aw Port),false)) (some (List.set xF (Int.toNat 0) (Ts.1,Dx,Ts.2.2),true))) (λ(VH:aw Port) (VI:Bool) (_:aw Port) (_:bP) (_:Int)=>some (VH,VI)) ([]:aw Port) false ms (ms.length:Int)) ms (λ(s:bP×aw Port) i=>((0,[],0,false)::s.2,s.1,(i:Int))) VR (λm s=>bif jE m then .ok (Tf s m) else .error (some (([]:aw Port),false))) (λs=>some (bif iS ((0,s.1,0,false)::s.2) then((0,s.1,0,false)::s.2,true) else([],false))) (by omega) (λi hi s nx hI=>?hs) (λi hi s s' hI hg=>?hn) (λs nx hI=>?hf) ([],[]) ⟨by simp,rfl,by simp⟩
  case hs=>
   simp only[qf]
   have hm:=h _ (aI hi)
   rw[iU,bj hi,al (n:=(i:Int)+1)]
   simp only[ah,ab,Xw _ hm]
   cases IW:jE ms[i]with
   |false=>rfl
   |true=>
    have hl:=BX IW
    have hU:=hI.1
    have hP:=hI.2.1
    simp only[aj,af,ah]
    rw[aO (by simp;omega)]
    refine(aff _ (λa b=>room (List.length ((0,[],0,false)::s.2:aw Port)+List.length ([(ms[i].1.1,b,0,true)]:aw Port)) (nx (((0,[],0,false)::s.2)++([(ms[i].1.1,b,0,true)]),a,(i:Int)+1))) (λ_ _ _=>rfl) _ _ _ _ _ _ _ ([0]++ms[i].1.2.2) s.1 (by simp only[ai,bf];omega)).trans ?_
    rw[aO (by simp;omega)]
    rfl
  case hn=>
   cases IW:jE ms[i]with
   |false=>rw[IW]at hg;cases hg
   |true=>
    rw[IW]at hg
    cases hg
    have hu:=D7 ([0]++ms[i].1.2.2) s.1
    have hl:=BX IW
    simp only[ai,bf]at hu
    exact hI.port IW _
  case hf=>
   simp only[qf]
   rw[cz]
   have hb:=Gb hI
   have e0:idx ((0,[],0,false)::s.2:aw Port) 0=some (0,[],0,false):=rfl
   have e1:List.set ((0,[],0,false)::s.2:aw Port) (Int.toNat 0) (0,s.1,0,false)=(0,s.1,0,false)::s.2:=rfl
   simp only[af,e0,ab,e1,G3 _ hb.1 hb.2]
   cases iS ((0,s.1,0,false)::s.2)<;>rfl
  rw[P0,Zf ms (by rintro rfl;simp at DH)]at this;refine Eq.trans this ?_;unfold mc;cases ms.all jE<;>rfl
def mL (a b:α):Bool:= @decide (a=b) (Classical.propDecidable _)
theorem yt {a b:α}:mL a b=true↔a=b:=by unfold mL;exact @decide_eq_true_iff _ (Classical.propDecidable _)
theorem Ic {a b:α}{x:Bool}(h:x=true↔a=b):x=mL a b:=by rw[cq,yt];exact h
theorem TD [BEq α][LawfulBEq α](a b:α):(a==b)=mL a b:=Ic aZ
theorem ah6 {β:Type}(a b:α)(c d:β):mL (a,c) (b,d)=(mL a b&&mL c d):=by rw[cq];simp only[ae,yt,Prod.mk.injEq]
theorem eS {β:Type}(a b:α×β):mL a b=(mL a.1 b.1&&mL a.2 b.2):=ah6 a.1 b.1 a.2 b.2
theorem wi {a b:α}(h:a=b:=by omega):mL a b=true:=yt.2 h
theorem ln {a b:α}(h:¬a=b:=by omega):mL a b=false:=by rw[Bool.eq_false_iff,ne_eq,yt];exact h
theorem DC {T:(Int->ay R)->Int->ay R}{fin hit:ay R}(p:α->α->Bool)(hp:∀x y,p x y=true↔x=y)(a b:aw α)(hl:a.length=b.length)(h:a.length<=10^9)(hs:∀i (hi:i<a.length) nx,T nx (i:Int)=cond (!(p a[i] (b[i]'(hl▸hi)))) hit (nx ((i+1:Nat):Int)))(hf:∀nx,T nx (a.length:Int)=fin): bc T fuel 0=cond (mL a b) fin hit:=by
 have hq:∀i,i<a.length->i<b.length:=λi hi=>hl▸hi;rw[iK (fin:=fin) (hit:=hit) (λi=>mL a[i]? b[i]?) a.length (by omega) ?hs hf]
 case hs=>
  intro i nx hi
  rw[hs i hi,ak hi,ak (hq i hi)]
  have:p a[i] (b[i]'(hq i hi))=mL (some a[i]) (some (b[i]'(hq i hi))):=Ic (by rw[hp,bp])
  rw[this]
 congr 1;apply Ic;rw[aD];constructor;intro k;apply cI;intro i;by_cases hi:i<a.length;exact yt.1 (k i (bD.2 hi));rw[bC (by omega),bC (by omega)];rintro rfl i _;exact wi rfl
theorem adi {T:(Int->ay Bool)->Int->ay Bool}(p:α->α->Bool)(hp:∀x y,p x y=true↔x=y)(a b:aw α)(h:a.length<=10^9)(hs:a.length=b.length->∀i (hi:i<a.length)(uL:i<b.length) nx,T nx (i:Int)=cond (!(p a[i] b[i])) (some false) (nx ((i+1:Nat):Int)))(hf:∀nx,T nx (a.length:Int)=some true): cond ((a.length:Int) !=(b.length:Int)) (some false) (bc T fuel 0)=some (mL a b):=by by_cases hl:a.length=b.length;rw[DC p hp a b hl h (λi hi nx=>hs hl i hi (hl▸hi) nx) hf];rw[show((a.length:Int) !=(b.length:Int))=false by simp[hl]];cases mL a b<;>rfl;rw[ln (λe=>hl (by rw[e]))];rw[show((a.length:Int) !=(b.length:Int))=true by simp;omega];rfl
theorem aiQ (a b:bP)(h:a.length<=10^9):td a b=some (mL a b):=by unfold td;refine adi (λx y=>x==y) (λx y=>aZ) a b h (λhl i hi uL nx=>?_) (λnx=>?_);simp only[nS];rw[iU,bj hi,bj uL,al];rfl;simp only[nS];rw[cz];rfl
theorem D3 (a b:bP)(h:a.length<=10^9):kR a b=some (mL a b):=by unfold kR;refine adi (λx y=>x==y) (λx y=>aZ) a b h (λhl i hi uL nx=>?_) (λnx=>?_);simp only[vr];rw[iU,bj hi,bj uL,al];rfl;simp only[vr];rw[cz];rfl
theorem UM (a b:Filter)(h:a.2.2.length<=10^9):uW a b=some (mL a b):=by simp only[uW,aiQ _ _ h,ab,br,cF,eS a b,eS a.2 b.2,TD]
def KY:aR:=(0,0,(0,0,0),false,0,0)
def iD (b:tX):Bool:=cS b.1 0 10000&&(cS b.2.1 0 100000&&cS b.2.2 0 b.2.1)
def E6 (n:Int)(f:aR):Bool:=cS f.1 0 7&&(cS f.2.1 1 (ar (n-1))&&(iD f.2.2.1&&(cS f.2.2.2.2.1 0 1000000000000&&cS f.2.2.2.2.2 0 1000000000000)))
def aeS (f g:aR):Bool:=(g.1==f.1)||(g.2.1==f.2.1)
def fnB (l:aw aR)(n:Int)(i:Nat):Bool:=E6 n (l.getD i KY)&&(range i).all (λj=> !(aeS (l.getD i KY) (l.getD j KY)))
def ij (l:aw aR)(ps:aw Port):Bool:=iS ps&&(range l.length).all (fnB l (ps.length:Int))
theorem Qa (b:tX):yP b=some (iD b):=by simp only[yP,dq,ab,br,cF,iD]
theorem Io (b:tX):uf b=some (iD b):=Qa b
theorem HF (l:aw aR)(ps:aw Port)(h:l.length<=10^9)(h1:ps.length<=10^9)(h2:∀p∈ps,p.2.1.length<=10^9):oo l ps=some (ij l ps):=by
 unfold oo ij;rw[iK (hit:=some false) (fin:=some true) (fnB l (ps.length:Int)) l.length (by omega) (λi nx hi=>?hs) (λnx=>?hf)]
 case hs=>
  simp only[nH]
  rw[iU,bj hi,al (n:=(i:Int)+1),Zi l i (by omega)]
  simp only[ah,ab,cl,Io,br,cT]
  have hti:(l.take i).length=i:=by simp;omega
  rw[hti,iK (hit:=some false) (fin:=nx ((i:Int)+1)) (λj=> !(aeS l[i] (l.getD j KY))) i (by omega) (λj nx' hj=>?Xi) (λnx'=>?Ax)]
  case Xi=>
   have hjl:j<l.length:=by omega
   have hjt:j<(l.take i).length:=by omega
   simp only[nI]
   rw[iU,bj hjt,al (n:=(j:Int)+1),List.getElem_take]
   simp only[ah,ab,br,cT,cH hjl,fu];rfl
  case Ax=>
   simp only[nI]
   rw[cz];rfl
  simp only[fnB,cH hi]
  rw[show(!cS l[i].1 0 7||(!cS l[i].2.1 1 (ar ((ps.length:Int)-1))||(!iD l[i].2.2.1||(!cS l[i].2.2.2.2.1 0 1000000000000|| !cS l[i].2.2.2.2.2 0 1000000000000))))= !E6 (ps.length:Int) l[i] by unfold E6;simp only[jf]]
  cases E6 (ps.length:Int) l[i]<;>cases (range i).all (λj=> !(aeS l[i] (l.getD j KY)))<;>rfl
 case hf=>
  simp only[nH]
  rw[cz];rfl
 simp only[G3 ps h1 h2,ab];cases iS ps<;>cases (range l.length).all (fnB l (ps.length:Int))<;>rfl
def Ag (l:aw aR)(i:Nat):Bool:=((l.getD i KY).1==(i:Int))&&((l.getD i KY).2.1==(i:Int)+1)
theorem abv (l:aw aR)(h:l.length<=10^9):wX l=some ((range l.length).all (Ag l)):=by
 unfold wX;rw[iK (hit:=some false) (fin:=some true) (Ag l) l.length (by omega) (λi nx hi=>?hs) (λnx=>?hf)]
 case hs=>
  simp only[rr]
  rw[iU,bj hi,al (n:=(i:Int)+1)]
  simp only[ah,ab,br,cT,bne,Ag,cH hi]
  cases l[i].1==(i:Int)<;>cases l[i].2.1==(i:Int)+1<;>rfl
 case hf=>
  simp only[rr]
  rw[cz];rfl
 cases (range l.length).all (Ag l)<;>rfl
theorem Jm:∀(ms:aw bJ)(i:Nat)(s:bP×aw Port),VR i s->ms.all jE=true->VR (i+ms.length) (ms.foldl Ff s)
 |[],i,s,h,_=>h
 |m::ms,i,s,h,hm=>by rw[bX,ae]at hm;have hu:=D7 m.1.2.2 s.1;have hl:=BX hm.1;have:=Jm ms (i+1) (Ff s m) (h.port hm.1 _) hm.2;rw[dp,ba,show i+(ms.length+1)=i+1+ms.length by omega];exact this
theorem Mz {ms:aw bJ}(h:(du ms).2=true):ms.length<=3:=by unfold du at h;cases hq:cS (ms.length:Int) 1 3&&(ms.all jE&&iS (mc ms))with|false=>rw[hq]at h;cases h|true=>simp only[ae]at hq;have:=aX.1 hq.1;omega
theorem LC (ms:aw bJ):(du ms).1.length<=10^9/\∀p∈(du ms).1,p.2.1.length<=10^9:=by unfold du;cases hc:cS (ms.length:Int) 1 3&&(ms.all jE&&iS (mc ms))with|false=>exact⟨by simp,by simp⟩|true=>simp only[ae,aX]at hc;have:=Jm ms 0 ([0],[]) ⟨by simp,rfl,by simp⟩ hc.2.1;rw[cx]at this;exact Gb this
theorem age (ms:aw bJ):(du ms).1.length<=4/\∀p∈(du ms).1,p.2.1.length<=28:=by unfold du;cases hc:cS (ms.length:Int) 1 3&&(ms.all jE&&iS (mc ms))with|false=>exact⟨by simp,by simp⟩|true=>simp only[ae,aX]at hc;have h:=Jm ms 0 ([0],[]) ⟨by simp,rfl,by simp⟩ hc.2.1;rw[cx]at h;have h1:=h.1;have h2:=h.2.1;simp only[ah,mc];refine⟨by simp only[ba];omega,λp hp=>?_⟩;rcases bM.1 hp with rfl|hp;simp only;omega;have:=h.2.2 p hp;omega
def cV (m:bN):Bool:=m.all (λx=>(x.length:Int)==128)&&decide ((m.length:Int)<=64)
theorem EF (m:bN)(h:m.length<=10^9):qL m=some (cV m):=by
 unfold qL cV;rw[qC (hit:=some false) (fin:=some (decide ((m.length:Int)<=64))) (λx:Bytes=>(x.length:Int)==128) m (by omega) (λi hi nx=>?hs) (λnx=>?hf)]
 case hs=>
  simp only[th]
  rw[iU,bj hi,al];rfl
 case hf=>
  simp only[th]
  rw[cz];rfl
 cases m.all (λx=>(x.length:Int)==128)<;>rfl
theorem Is (m:bN)(h:m.length<=10^9):uj m=some (cV m):=EF m h
def No:aE:=(0,0,0,false)
def Iw (m:aE):Bool:=cS m.1 0 7&&(cS m.2.1 0 1023&&cS m.2.2.1 0 63)
def sf (d p:Int)(m:aE):Bool:=(m.1==d)&&(m.2.1==p)
def Nn (l:aw aE)(i:Nat):Bool:=Iw (l.getD i No)&&(range i).all (λj=> !(sf (l.getD i No).1 (l.getD i No).2.1 (l.getD j No)))
def eE (l:aw aE):Bool:=decide ((l.length:Int)<=96)&&(range l.length).all (Nn l)
theorem Ko (l:aw aE)(h:l.length<=10^9):qm l=some (eE l):=by
 unfold qm eE;rw[iK (hit:=some false) (fin:=some true) (Nn l) l.length (by omega) (λi nx hi=>?hs) (λnx=>?hf)]
 case hs=>
  simp only[pQ]
  rw[iU,bj hi,al]
  simp only[ah,ab,dq,br]
  rw[iK (hit:=some false) (fin:=nx ((i:Int)+1)) (λj=> !(sf l[i].1 l[i].2.1 (l.getD j No))) i (by omega) (λj nx hj=>?Xi) (λnx=>?Ax)]
  case Xi=>
   have hjl:j<l.length:=by omega
   simp only[nT]
   rw[iU,bj hjl,al]
   simp only[ah,ab,br,cH hjl,sf,cF,fu];rfl
  case Ax=>
   simp only[nT]
   rw[cz];rfl
  simp only[Nn,Iw,cH hi,cT]
  cases cS l[i].1 0 7<;>cases cS l[i].2.1 0 1023<;>cases cS l[i].2.2.1 0 63<;>cases (range i).all (λj=> !(sf l[i].1 l[i].2.1 (l.getD j No)))<;>rfl
 case hf=>
  simp only[pQ]
  rw[cz];rfl
 have e:decide ((l.length:Int)>96)= !decide ((l.length:Int)<=96):=by rw[cq];simp
 rw[e];cases decide ((l.length:Int)<=96)<;>cases (range l.length).all (Nn l)<;>rfl
def Ym (l:aw aE)(d p:Int):Int:=match l.findIdx? (sf d p)with|some i=>(i:Int)|none=> -1
theorem Xx (l:aw aE)(d p:Int)(h:l.length<=10^9):ox l d p=some (Ym l d p):=by
 unfold ox Ym;rw[GO (hit:=λi=>some i) (fin:=some (-1)) (sf d p) l (by omega) (λi hi nx=>?hs) (λnx=>?hf)]
 case hs=>
  simp only[nP]
  rw[iU,bj hi,al]
  simp only[ah,ab,br,cF,sf];rfl
 case hf=>
  simp only[nP]
  rw[cz];rfl
 cases l.findIdx? (sf d p)<;>rfl
theorem ab5 (l:aw aE)(i:Nat)(hi:i<l.length):(Ym l l[i].1 l[i].2.1==(i:Int))=(range i).all (λj=> !(sf l[i].1 l[i].2.1 (l.getD j No))):=by
 have CM:sf l[i].1 l[i].2.1 l[i]=true:=by simp[sf]
 unfold Ym;cases hq:l.findIdx? (sf l[i].1 l[i].2.1)with
 |none=>rw[List.findIdx?_eq_none_iff]at hq;rw[hq l[i] (aI hi)]at CM;cases CM
 |some k=>
  rw[List.findIdx?_eq_some_iff_getElem]at hq;obtain⟨hk,hpk,gF⟩:=hq;rw[cq,aD];simp only[bD,aZ,aK];constructor;intro e j hj;have hjl:j<l.length:=by omega
  rw[cH hjl];have:=gF j (by omega);simpa using this;intro Ij;rcases Nat.lt_trichotomy k i with hki|hki|hki;have:=Ij k hki;rw[cH hk,hpk]at this;cases this;omega;have:=gF i hki;rw[CM]at this;simp at this
theorem JG (l:aw aE)(h:l.length<=10^9):qe l=some (eE l):=by
 unfold qe eE;rw[iK (hit:=some false) (fin:=some (decide ((l.length:Int)<=96))) (Nn l) l.length (by omega) (λi nx hi=>?hs) (λnx=>?hf)]
 case hs=>
  simp only[pz]
  rw[iU,bj hi,al]
  simp only[ah,ab,cl,br,Xx _ _ _ h,bne,ab5 l i hi,Nn,Iw,cH hi]
  cases cS l[i].1 0 7<;>cases cS l[i].2.1 0 1023<;>cases cS l[i].2.2.1 0 63<;>cases (range i).all (λj=> !(sf l[i].1 l[i].2.1 (l.getD j No)))<;>rfl
 case hf=>
  simp only[pz]
  rw[cz];rfl
 cases decide ((l.length:Int)<=96)<;>cases (range l.length).all (Nn l)<;>rfl
def FL (n:Int)(l:bP)(i:Nat):Bool:=cS (l.getD i 0) 0 (n-1)&& !((l.take i).contains (l.getD i 0))
def dI (p:dj):Bool:=cS p.1 0 130944&&(cS p.2.1 1 512&&(cS p.2.2.1 0 16&&(range p.2.2.2.length).all (FL p.2.2.1 p.2.2.2)))
def Fc (n:Int)(l:bP):aw Bool:=(range n.toNat).map λk:Nat=>l.contains (k:Int)
theorem SZ (n:Int)(l:bP):(Fc n l).length=n.toNat:=by simp[Fc]
theorem Hc (n:Int)(l:bP)(k:Nat)(h:k<(Fc n l).length):(Fc n l)[k]=l.contains (k:Int):=by simp[Fc]
theorem agq (n:Int)(l:bP)(k:Nat)(h:k<n.toNat):(Fc n l).set k true=Fc n (l++[(k:Int)]):=by
 apply List.ext_getElem;simp[Fc];intro j h1 h2;rw[List.getElem_set];split;rename_i e;subst e;rw[Hc];simp;rename_i e;rw[Hc,Hc];simp only[List.contains_append];have:([(k:Int)].contains (j:Int))=false:=by simp;omega
 rw[this];simp
theorem Ys {T:(aw Bool×Int->ay Bool)->aw Bool×Int->ay Bool}(n:Int)(l:bP)(hl:l.length<=10^9)
 (hs:∀i (hi:i<l.length)(s:aw Bool) nx,T nx (s,(i:Int))=aa (cond (!(cS l[i] 0 (n-1))) (some true) (aa (idx s l[i]) λx=>some x)) λq=>
  cond q (some false) (aa (idx s l[i]) λ_=>aa (idx s l[i]) λ_=>nx (s.set l[i].toNat true,((i+1:Nat):Int)))) (hf:∀s nx,T nx (s,(l.length:Int))=some true):
 bc T fuel (List.replicate n.toNat false,0)=some ((range l.length).all (FL n l)):=by
 have e0:(List.replicate n.toNat false,(0:Int))=(Fc n (l.take 0),((0:Nat):Int)):=by congr 1;simp only[Fc,List.take_zero,List.contains_nil,List.map_const',List.length_range]
 rw[e0,KN (hit:=some false) (fin:=some true) (λi=>(Fc n (l.take i),(i:Int))) (FL n l) l.length (by omega) (λi nx hi hp=>?hs) (λ_ nx=>hf _ nx)]
 case hs=>
  rw[hs i hi]
  unfold FL
  rw[cH hi]
  by_cases tV:cS l[i] 0 (n-1)=true
  ·have hb:=tV
   rw[aX]at hb
   obtain⟨k,hk⟩:∃k:Nat,l[i]=(k:Int):=⟨l[i].toNat,by omega⟩
   have hkn:k<(Fc n (l.take i)).length:=by rw[SZ];omega
   rw[tV,hk,bj hkn,Hc]
   simp only[aj,af,ab,bl,fu,ax]
   rw[agq _ _ _ (by rw[SZ]at hkn;exact hkn),<-hk,<-bn hi]
  ·have an0:cS l[i] 0 (n-1)=false:=by simpa using tV
   rw[an0];rfl
 cases (range l.length).all (FL n l)<;>rfl
theorem zQ (p:dj)(h:p.2.2.2.length<=10^9):ld p=some (dI p):=by
 unfold ld dI;simp only[dq,ab,br];by_cases hn:cS p.2.2.1 0 16=true
 ·have hb:=hn;rw[aX]at hb;rw[zip,aO,Ys p.2.2.1 p.2.2.2 h (λi hi s nx=>?hs) (λs nx=>?hf)]
  case hs=>
   simp only[xo]
   rw[iU,bj hi,al (n:=(i:Int)+1),al (n:=p.2.2.1-1)]
   simp only[ah,ab,dq];rfl
  case hf=>
   simp only[xo]
   rw[cz];rfl
  rw[hn];cases cS p.1 0 130944<;>cases cS p.2.1 1 512<;>rfl
 have DH:cS p.2.2.1 0 16=false:=by simpa using hn
 rw[DH];cases cS p.1 0 130944<;>cases cS p.2.1 1 512<;>rfl
theorem wy (p:dj)(h:p.2.2.2.length<=10^9):jj p=some (dI p):=by
 unfold jj dI;simp only[cl,ab,br];by_cases hn:cS p.2.2.1 0 16=true
 ·have hb:=hn;rw[aX]at hb;rw[zip,aO,Ys p.2.2.1 p.2.2.2 h (λi hi s nx=>?hs) (λs nx=>?hf)]
  case hs=>
   simp only[wM]
   rw[iU,bj hi,al (n:=(i:Int)+1),al (n:=p.2.2.1-1)]
   simp only[ah,ab,cl];rfl
  case hf=>
   simp only[wM]
   rw[cz];rfl
  rw[hn];cases cS p.1 0 130944<;>cases cS p.2.1 1 512<;>rfl
 have DH:cS p.2.2.1 0 16=false:=by simpa using hn
 rw[DH];cases cS p.1 0 130944<;>cases cS p.2.1 1 512<;>rfl
def jy (n:Int):Bool:=(n==2)||((n==4)||((n==8)||(n==16)))
theorem Ev (n:Int):tt n=some (jy n):=by simp only[tt,br,ab,jy,cT]
theorem Gj (n:Int):uv n=some (jy n):=Ev n
theorem gV {n:Int}:jy n=true↔n=2\/n=4\/n=8\/n=16:=by simp[jy]
theorem D8 (x:Int)(k:Nat)(hk:k<=64:=by omega):ar x%(2^k:Int)=x%(2^k:Int):=by
 obtain⟨c,hc⟩:∃c:Int,(18446744073709551616:Int)=2^k*c:=⟨2^(64-k),by rw[<-Int.pow_add,show k+(64-k)=64 by omega];rfl⟩
 have:ar x=x\/∃q:Int,ar x=x+18446744073709551616*q:=by
  right;simp only[ar,gO,IntKind.wrap,IntKind.bits,IntKind.signed];simp;have h1:x=x%18446744073709551616+18446744073709551616*(x/18446744073709551616):=by omega
  split;exact⟨-(x/18446744073709551616)-1,by omega⟩;exact⟨-(x/18446744073709551616),by omega⟩
 rcases this with h|⟨q,h⟩;rw[h];rw[h,hc,Int.mul_assoc,Int.add_mul_emod_self_left]
theorem Fl (x:Int)(k:Nat)(hk:k<63:=by omega):((ie x&&&ie (2^k-1)).toNat:Int)=x%2^k:=by
 have h2:(2:Int)^k<=2^62:=by have:(2:Nat)^k<=2^62:=Nat.pow_le_pow_right (by omega) (by omega);exact_mod_cast this
 have h0:(1:Int)<=2^k:=by have:1<=(2:Nat)^k:=Nat.one_le_two_pow;exact_mod_cast this
 have hm:(ie (2^k-1)).toNat=2^k-1:=by
  show(BitVec.ofInt 64 (2^k-1)).toNat=2^k-1;rw[BitVec.toNat_ofInt,Int.emod_eq_of_lt (by omega) (by omega)];have:((2:Int)^k-1)=((2^k-1:Nat):Int):=by have:1<=(2:Nat)^k:=Nat.one_le_two_pow;push_cast [this];rfl
  rw[this];rfl
 rw[BitVec.toNat_and,hm,Nat.and_two_pow_sub_one_eq_mod];show(((BitVec.ofInt 64 x).toNat%2^k:Nat):Int)=x%2^k;rw[BitVec.toNat_ofInt];have hx:0<=x%18446744073709551616:=by omega
 have e:(((x%18446744073709551616).toNat%2^k:Nat):Int)=(x%18446744073709551616)%2^k:=by push_cast;rw[Int.toNat_of_nonneg hx]
 refine e.trans ?_;exact Int.emod_emod_of_dvd x ⟨2^(64-k),by rw[<-Int.pow_add,show k+(64-k)=64 by omega];rfl⟩
theorem Ls (x n:Int)(h0:0<n:=by omega)(h1:n<=4611686018427387904:=by omega):jk x n=some (x%n):=by
 unfold jk;have:=fC x (show n≠0 by omega);have:=fF x h0;have hn:(n.natAbs:Int)=n:=by omega
 rw[nX,Int.tmod_eq_emod];split;rw[cz];simp;rw[iU,al];simp only[ah,hn];congr 1;omega
def bR (r:lB):Int:=if jy r.2.1 then(r.2.2.2-r.2.2.1)%(2*r.2.1) else 0
theorem Zc (r:lB):uF r=some (bR r):=by
 unfold uF bR;rw[Ev,ab];cases hs:jy r.2.1 with
 |false=>rfl
 |true=>
  simp only[aj,af,cg];congr 1;rcases gV.1 hs with h|h|h|h<;>rw[h];have e:ar (ar (2*2)-1)=2^2-1:=by decide
  rw[e,Fl _ 2,D8 _ 2,al];rfl;have e:ar (ar (2*4)-1)=2^3-1:=by decide
  rw[e,Fl _ 3,D8 _ 3,al];rfl;have e:ar (ar (2*8)-1)=2^4-1:=by decide
  rw[e,Fl _ 4,D8 _ 4,al];rfl;have e:ar (ar (2*16)-1)=2^5-1:=by decide
  rw[e,Fl _ 5,D8 _ 5,al];rfl
theorem BR (r:lB):jL r=some (bR r):=by unfold jL bR;rw[Gj,ab];cases hs:jy r.2.1 with|false=>rfl|true=>simp only[aj,af,cg];have hb:=gV.1 hs;rw[al (n:=2*r.2.1)];have a1:=fC r.2.2.2 (show 2*r.2.1≠0 by omega);have a2:=fF r.2.2.2 (show 0<2*r.2.1 by omega);have a3:=fC r.2.2.1 (show 2*r.2.1≠0 by omega);have a4:=fF r.2.2.1 (show 0<2*r.2.1 by omega);simp only[Ls _ (2*r.2.1) (show 0<2*r.2.1 by omega),ab];rw[al,<-Int.sub_emod]
def dx (r:lB):Bool:=cS r.1 0 130944&&(jy r.2.1&&(cS r.2.2.1 0 (2*r.2.1-1)&&(cS r.2.2.2 0 (2*r.2.1-1)&&decide (bR r<=r.2.1))))
theorem Bw {n:Int}(h:jy n=true):ar (ar (2*n)-1)=2*n-1:=by have:=gV.1 h;rw[al (n:=2*n),al]
theorem Gr (r:lB):ph r=some (dx r):=by unfold ph dx;simp only[dq,Ev,Zc,ab,br,cF];cases hs:jy r.2.1 with|false=>rfl|true=>rw[Bw hs]
theorem zA (r:lB):jX r=some (dx r):=by unfold jX dx;simp only[cl,Gj,BR,ab,br,cF];cases hs:jy r.2.1 with|false=>rfl|true=>rw[Bw hs]
theorem Pp (p:dj)(h:p.2.2.2.length<=10^9):tu p=some p:=by unfold tu;rw[aO (by simp;omega)];rfl
theorem kV (l:bP)(h:l.length<=10^9):gq l=some l:=by unfold gq;rw[aO (by simp;omega)];rfl
theorem vJ (p:dj)(h:p.2.2.2.length<=10^9):iW p=some p:=by unfold iW;rw[kV _ h];rfl
def hG (p:dj)(l:bP):dj:=(p.1,p.2.1,p.2.2.1,p.2.2.2++l)
def Ao (p:dj)(l:bP):Bool:=dI p&&dI (hG p l)
def FN (p:dj)(l:bP):dj×Bool:=bif Ao p l then(hG p l,true) else(p,false)
theorem ajW (p:dj)(l:bP)(h:p.2.2.2.length+l.length<=10^9):lz p l=some (FN p l):=by unfold lz;rw[Pp p (by omega),ab,aO,zQ p (by omega)];rw[zQ (p.1,p.2.1,p.2.2.1,p.2.2.2++l) (by simp;omega)];simp only[ab,br,FN,Ao];show _=some (bif dI p&&dI (p.1,p.2.1,p.2.2.1,p.2.2.2++l) then _ else _);cases dI p<;>cases dI (p.1,p.2.1,p.2.2.1,p.2.2.2++l)<;>rfl
theorem Pa (p:dj)(l:bP)(h:p.2.2.2.length+l.length<=10^9):gC p l=some (FN p l):=by unfold gC;rw[vJ p (by omega),ab,aO,wy p (by omega)];rw[wy (p.1,p.2.1,p.2.2.1,p.2.2.2++l) (by simp;omega)];simp only[ab,br,FN,Ao];show _=some (bif dI p&&dI (p.1,p.2.1,p.2.2.1,p.2.2.2++l) then _ else _);cases dI p<;>cases dI (p.1,p.2.1,p.2.2.1,p.2.2.2++l)<;>rfl
theorem aim (p:dj)(l:bP):(FN p l).2=Ao p l:=by unfold FN;cases Ao p l<;>rfl
def jN (n:Int)(s:pa):Bool:=cS s.2.1 1 n&&cS s.1 0 65535
def bA (l:aw pa):bP:=l.flatMap (·.2.2)
def dL (l:aw pa):Int:=(l.map (·.2.1)).sum
def M6 (t:dU):Bool:=dx t.1&&(dI t.2.1&&(cS t.2.2.2 0 65535&&(t.2.2.1.all (jN t.1.2.1)&&(Ao t.2.1 (bA t.2.2.1)&&decide (dL t.2.2.1<=t.1.2.1)))))
theorem Au (n:Int):∀l:aw pa,l.all (jN n)=true->0<=dL l
 |[],_=>by simp[dL]
 |x::l,h=>by simp only[bX,ae]at h;have:=Au n l h.2;have hx:=h.1;unfold jN at hx;simp only[ae,aX]at hx;simp only[dL,da,fi]at this⊢;omega
theorem S9 (p:dj)(n:Int)(hn:0<=n/\n<=16)(fin:Int×bP->ay Bool)(pq:∀s:Int×bP,p.2.2.2.length+s.2.length<=10^9->fin s=some (Ao p s.2&&decide (s.1<=n))):
 ∀(l:aw pa)(sum:Int)(acc:bP),0<=sum->sum+16*l.length<=100000000000->p.2.2.2.length+(acc.length+(bA l).length)<=10^9->
 wj (λx (s:Int×bP) k=>cond (!(jN n x)) (some false) (room (s.2.length+x.2.2.length) (k (ar (s.1+x.2.1),s.2++x.2.2)))) fin l (sum,acc)
  =some (l.all (jN n)&&(Ao p (acc++bA l)&&decide (sum+dL l<=n)))
 |[],sum,acc,h0,h1,h2=>by rw[wj,pq _ (by simp[bA]at h2;exact h2)];simp[bA,dL]
 |x::l,sum,acc,h0,h1,h2=>by
  have hb:bA (x::l)=x.2.2++bA l:=by simp[bA]
  rw[hb,ai]at h2;rw[wj,bX];cases hx:jN n x with
  |false=>rfl
  |true=>
   have Cp:=hx;unfold jN at Cp;simp only[ae,aX]at Cp;simp only[ba,Int.natCast_add,Int.natCast_one]at h1;simp only[aj,af,bl];rw[aO,al,S9 p n hn fin pq l _ _ (by omega) (by omega) (by rw[ai];omega)];rw[hb,aY];have e:sum+x.2.1+dL l=sum+dL (x::l):=by simp only[dL,da,fi];omega
   rw[e]
theorem Sp (p:dj)(n:Int)(hn:n<=16)(fin:Int×bP->ay Bool)(pq:∀s:Int×bP,p.2.2.2.length+s.2.length<=10^9->fin s=some (Ao p s.2)):
 ∀(l:aw pa)(left:Int)(acc:bP),0<=left->left<=n->p.2.2.2.length+(acc.length+(bA l).length)<=10^9->
 wj (λx (s:Int×bP) k=>cond (decide (x.2.1<1)||(decide (x.2.1>s.1)|| !(cS x.1 0 65535))) (some false) (room (s.2.length+x.2.2.length) (k (ar (s.1-x.2.1),s.2++x.2.2)))) fin l (left,acc)
  =some (l.all (jN n)&&(Ao p (acc++bA l)&&decide (dL l<=left)))
 |[],left,acc,h0,h1,h2=>by rw[wj,pq _ (by simp[bA]at h2;exact h2)];simp[bA,dL,h0]
 |x::l,left,acc,h0,h1,h2=>by
  have hb:bA (x::l)=x.2.2++bA l:=by simp[bA]
  have hc:dL (x::l)=x.2.1+dL l:=by simp only[dL,da,fi]
  rw[hb,ai]at h2;rw[wj,bX,hb,hc];by_cases c1:x.2.1<1;have e:jN n x=false:=by unfold jN cS;rw[aq (show¬1<=x.2.1 by omega)];rfl
  rw[e,au c1];rfl;rw[aq c1];by_cases c2:x.2.1>left;rw[au c2];simp only[iA,cA,iB,ah];cases ha:l.all (jN n)with|false=>simp|true=>have:=Au n l ha;rw[aq (show¬x.2.1+dL l<=left by omega)];simp
  rw[aq c2];have e:jN n x=cS x.1 0 65535:=by have:cS x.2.1 1 n=true:=aX.2 ⟨by omega,by omega⟩;unfold jN;rw[this];rfl
  rw[e];cases cS x.1 0 65535 with
  |false=>rfl
  |true=>
   simp only[cA,aj,af,bl];rw[aO,al,Sp p n hn fin pq l _ _ (by omega) (by omega) (by rw[ai];omega),aY];have e:decide (dL l<=left-x.2.1)=decide (x.2.1+dL l<=left):=by rw[cq];simp;omega
   rw[e]
theorem api (t:dU)(h1:t.2.2.1.length<=10^9)(h2:t.2.1.2.2.2.length+(bA t.2.2.1).length<=10^9):Hg t=some (M6 t):=by
 unfold Hg M6;simp only[Gr,zQ _ (show t.2.1.2.2.2.length<=10^9 by omega),dq,ab,br];cases hr:dx t.1 with
 |false=>rfl
 |true=>
  have hn:0<=t.1.2.1/\t.1.2.1<=16:=by unfold dx at hr;simp only[ae]at hr;have:=gV.1 hr.2.1;omega
  have Df:=eo;have key:=xV (R:=Bool) (T:=xr (λ(y9:Int) (Bx:bP) (_:Int)=>aa (lz t.2.1 Bx) λtJ=>some (bif tJ.2 then decide (y9<=t.1.2.1) else false)) (λ(xF:Bool) (_:Int) (_:bP) (_:Int)=>some xF) false t) t.2.2.1 (λ(s:Int×bP) i=>(s.1,s.2,(i:Int))) (λx (s:Int×bP) k=>cond (!(jN t.1.2.1 x)) (some false) (room (s.2.length+x.2.2.length) (k (ar (s.1+x.2.1),s.2++x.2.2)))) (λs=>aa (lz t.2.1 s.2) λtJ=>some (tJ.2&&decide (s.1<=t.1.2.1))) (λi hi s nx=>by simp only[xr];rw[iU,bj hi,al (n:=(i:Int)+1)];simp only[ah,ab,dq,br,jN];cases cS t.2.2.1[i].2.1 1 t.1.2.1<;>cases cS t.2.2.1[i].1 0 65535<;>rfl) (λs nx=>by simp only[xr];rw[cz];simp only[af,br,ab,cF]) fuel 0 (0,([]:bP)) (by omega) (by omega);rw[ez,S9 t.2.1 t.1.2.1 hn _ (λs hs=>by rw[ajW _ _ hs,ab,aim]) _ _ _ (by omega) (by omega) (by simpa using h2)]at key;cases dI t.2.1 with|false=>rfl|true=>cases cS t.2.2.2 0 65535 with|false=>rfl|true=>refine key.trans ?_;simp
theorem abA (t:dU)(h1:t.2.2.1.length<=10^9)(h2:t.2.1.2.2.2.length+(bA t.2.2.1).length<=10^9):Bs t=some (M6 t):=by
 unfold Bs M6;simp only[zA,wy _ (show t.2.1.2.2.2.length<=10^9 by omega),cl,ab,br];cases hr:dx t.1 with
 |false=>rfl
 |true=>
  have hn:0<=t.1.2.1/\t.1.2.1<=16:=by unfold dx at hr;simp only[ae]at hr;have:=gV.1 hr.2.1;omega
  have Df:=eo;have key:=xV (R:=Bool) (T:=wR (λ(_:Int) (y9:bP) (_:Int)=>aa (gC t.2.1 y9) λyL=>some yL.2) (λ(zW:Bool) (_:Int) (_:bP) (_:Int)=>some zW) false t.2.2.1 ((List.length t.2.2.1:Int)) t) t.2.2.1 (λ(s:Int×bP) i=>(s.1,s.2,(i:Int))) (λx (s:Int×bP) k=>cond (decide (x.2.1<1)||(decide (x.2.1>s.1)|| !(cS x.1 0 65535))) (some false) (room (s.2.length+x.2.2.length) (k (ar (s.1-x.2.1),s.2++x.2.2)))) (λs=>aa (gC t.2.1 s.2) λtJ=>some tJ.2) (λi hi s nx=>by simp only[wR];rw[iU,bj hi,al (n:=(i:Int)+1)];simp only[ah,ab,cl,br,cT];rfl) (λs nx=>by simp only[wR];rw[cz];rfl) fuel 0 (t.1.2.1,([]:bP)) (by omega) (by omega);rw[ez,Sp t.2.1 t.1.2.1 (by omega) _ (λs hs=>by rw[Pa _ _ hs,ab,aim]) _ _ _ (by omega) (by omega) (by simpa using h2)]at key;cases dI t.2.1 with|false=>rfl|true=>cases cS t.2.2.2 0 65535 with|false=>rfl|true=>refine key.trans ?_;simp
def uA (s:fU):Bool:=cS s.2.1 0 65535&&(cS s.2.2.1 0 65535&&(!decide ((List.length s.2.2.2.2.2.2.2:Int)>320)&&
 (bif s.1==17 then(s.2.2.2.1==0)&&((s.2.2.2.2.1==0)&&((s.2.2.2.2.2.1==0)&&(s.2.2.2.2.2.2.1==0)))
  else(s.1==6)&&(cS s.2.2.2.1 0 4294967295&&(cS s.2.2.2.2.1 0 4294967295&&(cS s.2.2.2.2.2.1 0 31&&cS s.2.2.2.2.2.2.1 0 65535))))))
theorem ad1 (s:fU):sm s=some (uA s):=by simp only[sm,dq,ab,br,cF,cT,cN,Bool.not_or,fu,Bool.and_assoc,uA]
theorem ady (s:fU):rV s=some (uA s):=by simp only[rV,cl,ab,br,cF,cT,cN,Bool.not_or,fu,Bool.and_assoc,uA];by_cases h:s.1=17;rw[h];rfl;rw[show(s.1==17)=false from by simpa using h];cases s.1==6<;>rfl
def Ee (f:Int):Bool:=(f==16)||(f==17)||(f==24)||(f==25)
theorem OF (f:Int)(h:cS f 0 31=true):(ar (toNat (ie f&&&~~~ ie 9))==16)=Ee f:=by
 have key:∀k:Fin 32,(ar (toNat (ie (k.val:Int)&&&~~~ ie 9))==16)=Ee (k.val:Int):=by decide
 rw[aX]at h;have:=key ⟨f.toNat,by omega⟩;rwa[show((f.toNat:Nat):Int)=f by omega]at this
theorem OE (f:Int)(h:cS f 0 31=true):sc f=some (Ee f):=by
 have key:∀k:Fin 32,((ar (toNat (ie (k.val:Int)&&&ie 16)) !=0)&&(ar (toNat (ie (k.val:Int)&&&~~~ ie 25))==0))=Ee (k.val:Int):=by decide
 rw[aX]at h;have:=key ⟨f.toNat,by omega⟩;rw[show((f.toNat:Nat):Int)=f by omega]at this;simp only[sc,br,ab,cF];rw[this]
theorem Hd {s:fU}(h:uA s=true)(h6:(s.1==6)=true):cS s.2.2.2.2.2.1 0 31=true:=by
 have:s.1=6:=by simpa using h6
 unfold uA at h;rw[this]at h;simp only[ae]at h;have h:=h.2.2.2;simp at h;exact h.2.2.1
def qW (p:aJ):Bool:=cS p.1 0 281474976710655&&(cS p.2.1 0 281474976710655&&(cS p.2.2.1 (-1) 4095&&(cS p.2.2.2.1 0 255&&(cS p.2.2.2.2.2.1 0 255&&(cS p.2.2.2.2.1 0 65535&&(cS p.2.2.2.2.2.2.1 0 4294967295&&(cS p.2.2.2.2.2.2.2.1 0 4294967295&&uA p.2.2.2.2.2.2.2.2)))))))
def dJ (p:aJ):Bool:=qW p&&(decide ((List.length p.2.2.2.2.2.2.2.2.2.2.2.2.2.2.2:Int)<=128)||(p.2.2.2.2.2.2.2.2.1==6)&&Ee p.2.2.2.2.2.2.2.2.2.2.2.2.2.1)
theorem BO (h:qW p=true):uA p.2.2.2.2.2.2.2.2=true:=by unfold qW at h;simp only[ae]at h;exact h.2.2.2.2.2.2.2.2
theorem LU (p:aJ):tq p=some (dJ p):=by unfold tq dJ;simp only[dq,ad1,ab,br,cF,cT,cN,Bool.not_or,fu];rw[show(cS p.1 0 281474976710655&&(cS p.2.1 0 281474976710655&&(cS p.2.2.1 (-1) 4095&&(cS p.2.2.2.1 0 255&&(cS p.2.2.2.2.2.1 0 255&&(cS p.2.2.2.2.1 0 65535&&(cS p.2.2.2.2.2.2.1 0 4294967295&&(cS p.2.2.2.2.2.2.2.1 0 4294967295&&uA p.2.2.2.2.2.2.2.2))))))))=qW p from rfl];cases hh:qW p with|false=>rfl|true=>cases h6:p.2.2.2.2.2.2.2.2.1==6 with|false=>simp|true=>rw[OF _ (Hd (BO hh) h6)];simp[Bool.or_comm]
theorem mx (p:aJ):gy p=some (dJ p):=by
 unfold gy dJ;simp only[cl,ady,ab];have e:∀X:ay Bool,(cond (cS p.1 0 281474976710655) (cond (cS p.2.1 0 281474976710655) (cond (cS p.2.2.1 (-1) 4095) (cond (cS p.2.2.2.1 0 255) (cond (cS p.2.2.2.2.2.1 0 255) (cond (cS p.2.2.2.2.1 0 65535) (cond (cS p.2.2.2.2.2.2.1 0 4294967295) (cond (cS p.2.2.2.2.2.2.2.1 0 4294967295) (cond (uA p.2.2.2.2.2.2.2.2) X (some false)) (some false)) (some false)) (some false)) (some false)) (some false)) (some false)) (some false)) (some false))=cond (qW p) X (some false):=by intro X;unfold qW;cases cS p.1 0 281474976710655;rfl;cases cS p.2.1 0 281474976710655;rfl;cases cS p.2.2.1 (-1) 4095;rfl;cases cS p.2.2.2.1 0 255;rfl;cases cS p.2.2.2.2.2.1 0 255;rfl;cases cS p.2.2.2.2.1 0 65535;rfl;cases cS p.2.2.2.2.2.2.1 0 4294967295;rfl;cases cS p.2.2.2.2.2.2.2.1 0 4294967295<;>rfl
 rw[e];cases hh:qW p with|false=>rfl|true=>cases h6:p.2.2.2.2.2.2.2.2.1==6 with|false=>simp[br]|true=>rw[OE _ (Hd (BO hh) h6)];simp only[ah,ab,br,cT,bl]
def fY (q:tX):Bool:=cS q.1 0 130944&&(jy q.2.1&&cS q.2.2 0 (ar ((ar (2*q.2.1))-1)))
theorem agF (q:tX):xq q=some (fY q):=by simp only[xq,dq,Ev,ab,br,cF,fY]
theorem Lb (q:tX):pD q=some (fY q):=by simp only[pD,cl,Gj,ab,br,cF,fY]
def agQ:tF:=((0,0,0,0,0,0,0,0,0,0,0,0,0,0,0,([]:Bytes)),0,0)
def Zj (p:tF):Bool:=(p.1.1==0)&&((p.1.2.1==0)&&((p.1.2.2.1==0)&&((p.1.2.2.2.1==0)&&((p.1.2.2.2.2.1==0)&&((p.1.2.2.2.2.2.1==0)&&((p.1.2.2.2.2.2.2.1==0)&&((p.1.2.2.2.2.2.2.2.1==0)&&((p.1.2.2.2.2.2.2.2.2.1==0)&&((p.1.2.2.2.2.2.2.2.2.2.1==0)&&((p.1.2.2.2.2.2.2.2.2.2.2.1==0)&&((p.1.2.2.2.2.2.2.2.2.2.2.2.1==0)&&((p.1.2.2.2.2.2.2.2.2.2.2.2.2.1==0)&&((p.1.2.2.2.2.2.2.2.2.2.2.2.2.2.1==0)&&((p.1.2.2.2.2.2.2.2.2.2.2.2.2.2.2.1==0)&&((p.1.2.2.2.2.2.2.2.2.2.2.2.2.2.2.2==([]:Bytes))&&((p.2.1==0)&&((p.2.2==0)&&true)))))))))))))))))
def HQ (r:cp):Bool:=(dx r.1&&(fY r.2.1&&(fY r.2.2.1&&((r.2.1.1==r.2.2.1.1)&&((r.2.1.2.1==r.2.2.1.2.1)&&cS r.2.2.2.2.2 0 1000000000000)))))&&
 (bif r.2.2.2.2.1 then dJ r.2.2.2.1.1&&(cS r.2.2.2.1.2.1 0 320&&cS r.2.2.2.1.2.2 1 320) else Zj r.2.2.2.1)
theorem aj7 (p:tF):Zj p=true↔p=agQ:=by obtain⟨⟨a,b,c,d,e,f,g,h,i,j,k,l,m,n,o,q⟩,r,s⟩:=p;simp only[Zj,agQ,dy,ae,aZ,Prod.mk.injEq,and_assoc]
theorem aph (r:cp):Hf r=some (HQ r):=by unfold Hf HQ Zj;simp only[Gr,agF,dq,LU,ab,br,cF,cT,cN,Bool.not_or,fu,bne];cases r.2.2.2.2.1<;>rfl
theorem UR (r:cp):xT r=some (HQ r):=by unfold xT HQ Zj;simp only[zA,Lb,cl,mx,ab,br,cF,cT,cN,Bool.not_or,fu,bne];cases r.2.2.2.2.1<;>rfl
def fg (v:Vector):Bool:=(lf v).getD false
theorem EH (v:Vector):lf v=some (fg v):=by
 have:∃b,lf v=some b:=by simp only[lf,vX,dq,ab,br];exact⟨_,rfl⟩
 obtain⟨b,hb⟩:=this;rw[fg,hb];rfl
theorem BS (v:Vector):nn v=some (fg v):=EH v
theorem LJ (l:aw α)(p:α->Bool):(range l.length).all (λi=>l[i]?.all p)=l.all p:=by rw[cq,aD,aD];constructor;intro h x hx;obtain⟨i,hi,rfl⟩:=List.getElem_of_mem hx;have:=h i (bD.2 hi);rwa[ak hi]at this;intro h i hi;rw[ak (bD.1 hi)];exact h _ (aI _)
theorem I3 (l:aw α)(p q:α->Bool):l.all (λx=>p x&&q x)=(l.all p&&l.all q):=by induction l with|nil=>rfl|cons x l ih=>simp only[bX,ih];cases p x<;>cases q x<;>cases l.all p<;>rfl
def gR (h:Host):bP:=[h.2.2.2.2.2.2.2.2.2.2.2.2.2.2.1,h.2.2.2.2.2.2.2.2.2.2.2.2.2.2.2.1,h.2.2.2.2.2.2.2.2.2.2.2.2.2.2.2.2.1,h.2.2.2.2.2.2.2.2.2.2.2.2.2.2.2.2.2.1,h.2.2.2.2.2.2.2.2.2.2.2.2.2.2.2.2.2.2]
def nB (h:Host):Bool:=cS (h.2.2.2.1.length:Int) 1 2&&(((h.2.2.2.2.1.length:Int)==(h.2.2.2.1.length:Int))&&(((h.2.2.2.2.2.1.length:Int)==(h.2.2.2.1.length:Int))&&((h.2.2.2.2.2.2.1.length:Int)==(h.2.2.2.1.length:Int))))
def SW (h:Host):Bool:=h.2.2.2.1.all HQ&&(h.2.2.2.2.1.all dI&&h.2.2.2.2.2.1.all fg)
def dN (h:Host):Bool:=cV h.1&&(eE h.2.1&&(M6 h.2.2.1&&(eV h.2.2.2.2.2.2.2.1&&(nB h&&(eK h.2.2.2.2.2.2.2.2.1 (h.2.2.2.1.length:Int)&&(SW h&&(gR h).all (λx=>cS x 0 1000000000000)))))))
structure H2 (h:Host):Prop where
 a1:h.1.length<=10^9
 a2:h.2.1.length<=10^9
 t1:h.2.2.1.2.2.1.length<=10^9
 t2:h.2.2.1.2.1.2.2.2.length+(bA h.2.2.1.2.2.1).length<=10^9
 f1:h.2.2.2.2.2.2.2.1.2.2.length<=10^9
 s1:h.2.2.2.2.2.2.2.2.1.1.length<=10^9
 s2:h.2.2.2.2.2.2.2.2.1.2.1.length<=10^9
 s3:h.2.2.2.2.2.2.2.2.1.2.2.2.length<=10^9
 p1:∀p∈h.2.2.2.2.1,p.2.2.2.length<=10^9
theorem nQ (l:nB h=true):h.2.2.2.1.length<=2/\h.2.2.2.2.1.length=h.2.2.2.1.length/\h.2.2.2.2.2.1.length=h.2.2.2.1.length/\h.2.2.2.2.2.2.1.length=h.2.2.2.1.length:=by unfold nB at l;simp only[ae,aX,aZ]at l;omega
theorem SX {T:(Int->ay R)->Int->ay R}{fin hit:ay R}(l:nB h=true)(hs:∀i (hi:i<h.2.2.2.1.length) nx,T nx (i:Int)=cond (!(HQ h.2.2.2.1[i]&&(dI (h.2.2.2.2.1[i]'((nQ l).2.1▸hi))&&fg (h.2.2.2.2.2.1[i]'((nQ l).2.2.1▸hi))))) hit (nx ((i+1:Nat):Int)))(hf:∀nx,T nx (h.2.2.2.1.length:Int)=fin):bc T fuel 0=cond (SW h) fin hit:=by
 have hl:=nQ l;rw[iK (fin:=fin) (hit:=hit) (λi=>h.2.2.2.1[i]?.all HQ&&(h.2.2.2.2.1[i]?.all dI&&h.2.2.2.2.2.1[i]?.all fg)) h.2.2.2.1.length (by omega) ?hs hf]
 case hs=>
  intro i nx hi
  rw[hs i hi,ak hi,ak (hl.2.1▸hi),ak (hl.2.2.1▸hi)]
  rfl
 rw[I3,I3,LJ];have e1:=LJ h.2.2.2.2.1 dI;have e2:=LJ h.2.2.2.2.2.1 fg;rw[hl.2.1]at e1;rw[hl.2.2.1]at e2;rw[e1,e2];rfl
theorem L4 {T:(Int->ay R)->Int->ay R}{fin hit:ay R}(h:Host)(hs:∀i (hi:i<(gR h).length) nx,T nx (i:Int)=cond (!(cS (gR h)[i] 0 1000000000000)) hit (nx ((i+1:Nat):Int)))(hf:∀nx,T nx ((gR h).length:Int)=fin):bc T fuel 0=cond ((gR h).all (λx=>cS x 0 1000000000000)) fin hit:=qC (λx=>cS x 0 1000000000000) (gR h) (by simp[gR]) hs hf
theorem YT (h:Host)(z:H2 h):zR h=some (dN h):=by
 unfold zR dN;simp only[EF _ z.a1,Ko _ z.a2,api _ z.t1 z.t2,Cg _ z.f1,EG _ _ z.s1 z.s2 z.s3,dq,ab,br];cases cV h.1;rfl;cases eE h.2.1;rfl;cases M6 h.2.2.1;rfl;cases eV h.2.2.2.2.2.2.2.1;rfl;simp only[aj,af,cT,bne];rw[show(!cS (h.2.2.2.1.length:Int) 1 2||(!((h.2.2.2.2.1.length:Int)==(h.2.2.2.1.length:Int))||(!((h.2.2.2.2.2.1.length:Int)==(h.2.2.2.1.length:Int))||(!((h.2.2.2.2.2.2.1.length:Int)==(h.2.2.2.1.length:Int))|| !eK h.2.2.2.2.2.2.2.2.1 (h.2.2.2.1.length:Int)))))= !(nB h&&eK h.2.2.2.2.2.2.2.2.1 (h.2.2.2.1.length:Int)) by unfold nB;simp only[jf,Bool.or_assoc]];cases hl:nB h;rfl;cases eK h.2.2.2.2.2.2.2.2.1 (h.2.2.2.1.length:Int);rfl;have hL:=nQ hl;simp only[dy,aj,af,bl];rw[SX (h:=h) (hit:=some false) (fin:=some ((gR h).all (λx=>cS x 0 1000000000000))) hl ?hs ?hf]
 case hs=>
  intro i hi nx
  simp only[xj]
  rw[iU,bj hi,bj (hL.2.1▸hi),bj (hL.2.2.1▸hi),al (n:=(i:Int)+1)]
  simp only[ah,ab,aph,EH,zQ _ (z.p1 _ (aI _)),br,cT,jf]
  rfl
 case hf=>
  intro nx
  simp only[xj]
  rw[cz]
  simp only[af]
  refine(L4 (fin:=some true) (hit:=some false) h ?_ ?_).trans ?_
  ·intro i hi nx
   simp only[vg]
   have uL:i<5:=hi
   change (bif decide ((i:Int)<5) then aa (idx (gR h) (i:Int)) _ else _)=_
   rw[iU,bj hi,al (n:=(i:Int)+1),ab,dq]
   rfl
  ·intro nx
   simp only[vg]
   rw[aq (by simp[gR])];rfl
  ·cases (gR h).all (λx=>cS x 0 1000000000000)<;>rfl
 cases SW h<;>rfl
theorem wx (h:Host)(z:H2 h):ji h=some (dN h):=by
 unfold ji dN;simp only[Is _ z.a1,JG _ z.a2,abA _ z.t1 z.t2,rQ _ z.f1,JM _ _ z.s1 z.s2 z.s3,cl,ab,br];cases cV h.1;rfl;cases eE h.2.1;rfl;cases M6 h.2.2.1;rfl;cases eV h.2.2.2.2.2.2.2.1;rfl;simp only[aj,af,cT,bne];rw[show(!cS (h.2.2.2.1.length:Int) 1 2||(!((h.2.2.2.2.1.length:Int)==(h.2.2.2.1.length:Int))||(!((h.2.2.2.2.2.1.length:Int)==(h.2.2.2.1.length:Int))|| !((h.2.2.2.2.2.2.1.length:Int)==(h.2.2.2.1.length:Int)))))= !(nB h) by unfold nB;simp only[jf]];cases hl:nB h;rfl;have hL:=nQ hl;simp only[aj,af,bl];rw[SX (h:=h) (hit:=some false) (fin:=some ((gR h).all (λx=>cS x 0 1000000000000)&&eK h.2.2.2.2.2.2.2.2.1 (h.2.2.2.1.length:Int))) hl ?hs ?hf]
 case hs=>
  intro i hi nx
  simp only[wH]
  rw[iU,bj hi,bj (hL.2.1▸hi),bj (hL.2.2.1▸hi),al (n:=(i:Int)+1)]
  simp only[ah,ab,UR,BS,wy _ (z.p1 _ (aI _)),br,cT,jf]
  rfl
 case hf=>
  intro nx
  simp only[wH]
  rw[cz]
  simp only[af]
  refine(L4 (fin:=some (eK h.2.2.2.2.2.2.2.2.1 (h.2.2.2.1.length:Int))) (hit:=some false) h ?_ ?_).trans ?_
  ·intro i hi nx
   simp only[uO]
   have uL:i<5:=hi
   change (bif decide ((i:Int)<5) then aa (idx (gR h) (i:Int)) _ else _)=_
   rw[iU,bj hi,al (n:=(i:Int)+1),ab,cl]
   rfl
  ·intro nx
   simp only[uO]
   rw[aq (by simp[gR])];rfl
  ·cases (gR h).all (λx=>cS x 0 1000000000000)<;>rfl
 cases SW h<;>cases eK h.2.2.2.2.2.2.2.2.1 (h.2.2.2.1.length:Int)<;>cases (gR h).all (λx=>cS x 0 1000000000000)<;>rfl
def UG (v:Int)(b:Bytes):Bytes:=((gu v++gu (b.length:Int))++b)++gu (L5 ((gu v++gu (b.length:Int))++b))
def ec (v:Int)(b:Bytes):Bytes×Bool:=bif cS v 0 1000000&&decide (b.length<=84) then(UG v b,true) else([],false)
theorem Qc (v:Int)(b:Bytes)(h:b.length<=10^9):oL v b=some (ec v b):=by have l1:=dT v;have l2:=dT (b.length:Int);unfold oL ec;rw[al];simp only[dq,ab];cases cS v 0 1000000 with|false=>rfl|true=>by_cases hb:b.length<=84;have l3:=dT (L5 ((gu v++gu (b.length:Int))++b));rw[aq (show¬((b.length:Int)+12>96) by omega),au hb];simp only[aj,af,ab,cG,ah,nr];rw[aO,aO (by simp only[ai];omega),adZ _ (by simp only[ai];omega)];simp only[ab,nr];rw[aO (by simp only[ai];omega)];rfl;rw[au (show((b.length:Int)+12>96) by omega),aq hb];rfl
theorem aiU (v:Int)(b:Bytes)(h:b.length<=10^9):wJ v b=some (ec v b):=by have l1:=dT v;have l2:=dT (b.length:Int);unfold wJ ec;rw[al];simp only[cl,ab];cases cS v 0 1000000 with|false=>rfl|true=>by_cases hb:b.length<=84;have l3:=dT (L5 ((gu v++gu (b.length:Int))++b));rw[aq (show¬(12+(b.length:Int)>96) by omega),au hb];simp only[aj,af,ab,cG,ah,vC];rw[aO,aO (by simp only[ai];omega),adv _ (by simp only[ai];omega)];simp only[ab,vC];rw[aO (by simp only[ai];omega)];rfl;rw[au (show(12+(b.length:Int)>96) by omega),aq hb];rfl
def agX (s:Bytes)(n:Nat):Int:=bif (ec (eM s 0) ((s.take (8+n)).drop 8)).2&&((ec (eM s 0) ((s.take (8+n)).drop 8)).1==s.take (12+n)) then eM s 0 else-1
def iH (s:Bytes):Int:=if 0<=eM s 4/\eM s 4<=(s.length:Int)-12 then agX s (eM s 4).toNat else-1
theorem WT (s:Bytes)(a:Int): -1<=eM s a/\eM s a<=4294967295:=by unfold eM;cases fA s a 4 with|false=>simp only[af];omega|true=>have b0:=eD s a.toNat;have b1:=eD s (a.toNat+1);have b2:=eD s (a.toNat+2);have b3:=eD s (a.toNat+3);simp only[ah];omega
theorem agY (h:¬n<=84)(hs:n+12<=s.length):agX s n= -1:=by
 have:(ec (eM s 0) ((s.take (8+n)).drop 8)).2=false:=by unfold ec;rw[aq (by simp only[aL,aV];omega),ft];rfl
 unfold agX;rw[this];rfl
theorem ad2 (s:Bytes)(h:s.length<=10^9:=by omega):ng s=some (iH s):=by
 unfold ng iH;have hg:=WT s 4;simp only[agB s _ h,dq,ab];rw[al (n:=eM s 4+12),al (n:=8+eM s 4)];generalize eM s 4=n at hg;by_cases hc:0<=n/\n<=(s.length:Int)-12;rw[aH hc];obtain⟨m,rfl⟩:=aQ hc.1;by_cases h84:m<=84;have e1:cS (m:Int) 0 84=true:=aX.2 (by omega);have e2:sub s 8 (8+(m:Int))=some ((s.take (8+m)).drop 8):=by unfold sub;rw[zip];rfl
 have e3:sub s 0 ((m:Int)+12)=some (s.take (12+m)):=by unfold sub;rw[zip,show((m:Int)+12).toNat=12+m by omega];rfl
 rw[e1,aq (show¬((m:Int)+12>(s.length:Int)) by omega),e2,e3];simp only[aj,af,ab,ax];rw[Qc _ _ (by simp only[aL,aV];omega)];unfold agX;simp only[ab];cases (ec (eM s 0) ((s.take (8+m)).drop 8)).2<;>cases ((ec (eM s 0) ((s.take (8+m)).drop 8)).1==s.take (12+m))<;>rfl;have e1:cS (m:Int) 0 84=false:=by rw[Bool.eq_false_iff,ne_eq,aX];omega
 rw[e1,ax,agY h84 (by omega)];rfl;rw[aG hc];by_cases hb:cS n 0 84=true;have:=aX.1 hb;rw[hb,au (show n+12>(s.length:Int) by omega)];rfl;have ix:cS n 0 84=false:=by simpa using hb
 rw[ix];rfl
theorem JQ (s:Bytes)(h:s.length<=10^9:=by omega):iZ s=some (iH s):=by
 unfold iZ iH;have hg:=WT s 4;simp only[xR s _ h,ab];rw[al (n:=12+eM s 4),al (n:=8+eM s 4),al (n:=(s.length:Int)-12)];generalize eM s 4=n at hg;by_cases hc:0<=n/\n<=(s.length:Int)-12;rw[aH hc];obtain⟨m,rfl⟩:=aQ hc.1;have e2:sub s 8 (8+(m:Int))=some ((s.take (8+m)).drop 8):=by unfold sub;rw[zip];rfl
 have e3:sub s 0 (12+(m:Int))=some (s.take (12+m)):=by unfold sub;rw[zip,show(12+(m:Int)).toNat=12+m by omega];rfl
 rw[aq (show¬((m:Int)<0) by omega),aq (show¬((m:Int)>(s.length:Int)-12) by omega),e2,e3];simp only[af,ab,ax];rw[aiU _ _ (by simp only[aL,aV];omega)];unfold agX;simp only[ab];cases (ec (eM s 0) ((s.take (8+m)).drop 8)).2<;>cases ((ec (eM s 0) ((s.take (8+m)).drop 8)).1==s.take (12+m))<;>rfl;rw[aG hc];by_cases h0:n<0;rw[au h0];rfl;rw[aq h0,au (show n>(s.length:Int)-12 by omega)];rfl
def kJ (f:bN):Bool:=((f.length:Int)==2)&&((((f.getD 0 []).length:Int)==96)&&(((f.getD 1 []).length:Int)==96))
theorem xO {f:bN}(h:kJ f=true):f=[f.getD 0 [],f.getD 1 []]/\(f.getD 0 []).length=96/\(f.getD 1 []).length=96:=by simp only[kJ,ae,aZ]at h;match f,h with|[a,b],h=>have h1:(a.length:Int)=96:=h.2.1;have h2:(b.length:Int)=96:=h.2.2;exact⟨rfl,by show a.length=96;omega,by show b.length=96;omega⟩
theorem S5 (f:bN):AP f=some (kJ f):=by
 unfold AP kJ;match f with
 |[]=>rfl
 |[a]=>rfl
 |[a,b]=>have i0:idx [a,b] 0=some a:=rfl;have i1:idx [a,b] 1=some b:=rfl;rw[i0,i1];simp only[ab,br,cF];rfl
 |a::b::c::r=>
  have:(((a::b::c::r).length:Int)==2)=false:=by simp only[ba,cr];omega
  rw[this];rfl
theorem K9 (f:bN):wD f=some (kJ f):=S5 f
def iw (f:bN):Int:=bif kJ f then(if iH (f.getD 0 [])<0/\iH (f.getD 1 [])<0 then-1 else if iH (f.getD 1 [])>iH (f.getD 0 []) then 1 else 0) else-1
theorem ajR (f:bN):yO f=some (iw f):=by unfold yO iw;rw[S5,ab];cases hf:kJ f with|false=>rfl|true=>obtain⟨e,l0,l1⟩:=xO hf;generalize f.getD 0 []=a at*;generalize f.getD 1 []=b at*;subst e;have i0:idx [a,b] 0=some a:=rfl;have i1:idx [a,b] 1=some b:=rfl;simp only[aj,af,ah,i0,i1,ab,ad2 a,ad2 b];by_cases p:iH a<0<;>by_cases q:iH b<0<;>by_cases r:iH b>iH a<;>simp[p,q,r]
theorem O7 (f:bN):qE f=some (iw f):=by
 unfold qE iw;rw[K9,ab];cases hf:kJ f with
 |false=>rfl
 |true=>
  obtain⟨e,l0,l1⟩:=xO hf;generalize f.getD 0 []=a at*;generalize f.getD 1 []=b at*;subst e;have i0:idx [a,b] 0=some a:=rfl;have i1:idx [a,b] 1=some b:=rfl;simp only[aj,af,ah,i0,i1,ab,JQ a,JQ b];by_cases r:iH b>iH a;have r':¬iH a>=iH b:=by omega
  by_cases p:iH a<0<;>by_cases q:iH b<0<;>simp[p,q,r,r'];have r':iH a>=iH b:=by omega
  by_cases p:iH a<0<;>by_cases q:iH b<0<;>simp[p,q,r,r']
def rH (c:lB):Bool:=cS c.1 0 1125899906842624&&(cS c.2.1 0 1048575&&(cS c.2.2.1 0 67108864&&cS c.2.2.2 0 1099511627776))
theorem S3 (c:lB):AO c=some (rH c):=by simp only[AO,dq,ab,br,cF,rH]
theorem K7 (c:lB):wC c=some (rH c):=S3 c
def I9 (c:de)(i:Nat):Bool:=(c.1[i]?.all dN)&&mL (c.1[i]?.map (·.2.2.2.2.2.2.2.1)) (c.2.2.1[i]?.map (·.1))
def Pv (c:de):Bool:=((c.1.length:Int)==(c.2.2.1.length:Int))&&((c.2.1.length:Int)==(c.2.2.1.length:Int))
def lE (c:de):Bool:=(du c.2.2.1).2&&(Pv c&&(ij c.2.1 (du c.2.2.1).1&&((!decide (iw c.2.2.2.1<0)&&rH c.2.2.2.2.1)&&((range c.1.length).all (I9 c)&&(range c.1.length).all (Ag c.2.1)))))
structure ZL (c:de):Prop where
 h0:c.1.length<=10^9
 f0:c.2.1.length<=10^9
 m:∀m∈c.2.2.1,m.1.2.2.length<=10^9
 h1:∀h∈c.1,H2 h
theorem G6 {c:de}(h:Pv c=true):c.1.length=c.2.2.1.length/\c.2.1.length=c.2.2.1.length:=by unfold Pv at h;simp only[ae,aZ]at h;omega
theorem Oc {c:de}(i:Nat)(hi:i<c.1.length)(hj:i<c.2.2.1.length):I9 c i=(dN c.1[i]&&mL c.1[i].2.2.2.2.2.2.2.1 c.2.2.1[i].1):=by unfold I9;rw[ak hi,ak hj];congr 1;apply Ic;rw[yt];simp
theorem DL (c:de)(z:ZL c):mP c=some (lE c):=by
 have hp:=LC c.2.2.1;unfold mP lE;simp only[CO _ z.m,HF _ _ z.f0 hp.1 hp.2,abv _ z.f0,O7,K7,ab,br,cT,cF,bne];rw[show((!((c.1.length:Int)==(c.2.2.1.length:Int)))|| !((c.2.1.length:Int)==(c.2.2.1.length:Int)))= !(Pv c) by unfold Pv;simp only[jf]];cases (du c.2.2.1).2;rfl;cases hl:Pv c;rfl;have hL:=G6 hl;have h0:=z.h0;simp only[aj,cA,af,bl];have hd:decide (iw c.2.2.2.1>=0)= !decide (iw c.2.2.2.1<0):=by by_cases h:iw c.2.2.2.1<0;rw[au h,cz];rfl;rw[aq h,iU];rfl
 rw[hd,iK (hit:=some false) (fin:=some (ij c.2.1 (du c.2.2.1).1&&((range c.2.1.length).all (Ag c.2.1)&&(!decide (iw c.2.2.2.1<0)&&rH c.2.2.2.2.1)))) (I9 c) c.1.length (by omega) (λi nx hi=>?hs) (λnx=>?hf)]
 case hs=>
  have q1:i<c.2.2.1.length:=by omega
  have hm:=aI hi
  rw[Oc i hi q1]
  simp only[wB]
  rw[iU,bj hi,bj q1,al (n:=(i:Int)+1)]
  simp only[ah,ab,wx _ (z.h1 _ hm),UM _ _ (z.h1 _ hm).f1,br,cT]
  cases dN c.1[i]<;>cases mL c.1[i].2.2.2.2.2.2.2.1 c.2.2.1[i].1<;>rfl
 case hf=>
  simp only[wB]
  rw[cz];rfl
 rw[hL.2,<-hL.1];cases (range c.1.length).all (I9 c)<;>cases (range c.1.length).all (Ag c.2.1)<;>cases ij c.2.1 (du c.2.2.1).1<;>cases (!decide (iw c.2.2.2.1<0)&&rH c.2.2.2.2.1)<;>rfl
def ZY (s:Bytes)(i:Nat):Nat:=bV s (i/8)/2^(7-i%8)%2
theorem TE (s:Bytes)(i:Nat):ZY s i<2:=Nat.mod_lt _ (by omega)
theorem ahl (b k:Nat)(hb:b<256)(hk:k<=7):ar (toNat (ie (ar (fdiv (b:Int) ((2^k:Nat):Int)))&&&ie 1))=((b/2^k%2:Nat):Int):=by have e:fdiv (b:Int) ((2^k:Nat):Int)=((b/2^k:Nat):Int):=(Int.ofNat_fdiv b (2^k)).symm;have h1:b/2^k<=b:=Nat.div_le_self _ _;rw[e,jt (n:=b/2^k)];have:=amr (b/2^k) 1;rw[show((1:Nat):Int)=1 from rfl]at this;rw[this,Nat.and_one_is_mod];exact jt
theorem adt (s:Bytes)(i:Nat)(hi:i/8<s.length:=by omega)(h:s.length<=10^9:=by omega):zE s (i:Int)=some ((ZY s i:Nat):Int):=by
 have e1:Int.tdiv (i:Int) 8=((i/8:Nat):Int):=(Int.ofNat_tdiv i 8).symm;have e2:tmod (i:Int) 8=((i%8:Nat):Int):=(Int.ofNat_tmod i 8).symm;unfold zE;rw[nX,e1,al (n:=((i/8:Nat):Int)),bj hi,ab,nX,e2,al (n:=7-((i%8:Nat):Int)),nX];have e3:(2:Int)^(min (Int.toNat (7-((i%8:Nat):Int))) (IntKind.bits .u8))=((2^(7-i%8):Nat):Int):=by rw[show min (Int.toNat (7-((i%8:Nat):Int))) (IntKind.bits .u8)=7-i%8 from by show min _ 8=_;omega];push_cast;rfl
 rw[e3,ahl _ _ (uJ _) (by omega),ZY,bV,cH hi]
def win (s:Bytes)(a:Nat):Nat->Nat
 |0=>0
 |j+1=>2*win s a j+ZY s (a+j)
theorem akL (s:Bytes)(a:Nat):∀j,win s a j<2^j
 |0=>by simp[win]
 |j+1=>by have:=akL s a j;have:=TE s (a+j);rw[win,Nat.pow_succ];omega
theorem acU (s:Bytes)(a j:Nat)(hj:j<=32:=by omega):win s a j<4294967296:=Nat.lt_of_lt_of_le (akL s a j) (Nat.pow_le_pow_right (n:=2) (by omega) hj)
def ami (s:Bytes)(a:Int):Int:=bif ((s.length:Int) !=16)|| !cS a 0 96 then-1 else((win s a.toNat 32:Nat):Int)
theorem alx (s:Bytes)(a:Int):wI s a=some (ami s a):=by
 unfold wI ami;rw[cl];cases hs:(s.length:Int) !=16;case true=>rfl
 cases ha:cS a 0 96;rfl;have h1:=aX.1 ha;have h2:s.length=16:=by simp at hs;omega
 obtain⟨a,rfl⟩:=aQ h1.1;simp only[af,ab,aj,cB,ax];refine dC (λi=>(((win s a i:Nat):Int),((a+i:Nat):Int))) 32 (by omega) (λi nx hi=>?_) (λnx=>?_);have hw:=acU s a i;have hb:=TE s (a+i);simp only[rf];rw[al (n:=(a:Int)+32),iU,ah,nX,adt s (a+i),ab,al (n:=((a+i:Nat):Int)+1)];have e1:ar (((win s a i:Nat):Int)*2^(tU 1))=((2^1*win s a i:Nat):Int):=by have:(2:Int)^(tU 1)=2:=rfl;rw[this,al];omega
 rw[e1,IC _ _ _];rw[show(((a+i:Nat):Int)+1)=((a+(i+1):Nat):Int) by omega];rfl;simp only[rf];rw[al (n:=(a:Int)+32),cz];rfl
def Mi (s v:Bytes):Nat->Nat
 |0=>0
 |i+1=>if ZY v i=1 then Mi s v i^^^win s i 32 else Mi s v i
theorem W5 (s v:Bytes):∀i,Mi s v i<4294967296
 |0=>by simp[Mi]
 |i+1=>by have:=W5 s v i;rw[Mi];split;exact EX this (acU s i 32);exact this
def BL (s v:Bytes):Int:=bif ((s.length:Int) !=16)||decide ((v.length:Int)>12) then-1 else((Mi s v (8*v.length):Nat):Int)
theorem aiO (s v:Bytes):wE s v=some (BL s v):=by
 unfold wE BL;cases hs:(s.length:Int) !=16;case true=>rfl
 cases hv:decide ((v.length:Int)>12);case true=>rfl
 have h2:s.length=16:=by simp at hs;omega
 have h3:v.length<=12:=by simp at hv;omega
 simp only[af,ab,cB];refine dC (λi=>(((Mi s v i:Nat):Int),(i:Int))) (8*v.length) (by omega) (λi nx hi=>?_) (λnx=>?_);have hw:=acU s i 32;have hh:=W5 s v i;have hb:=TE v i;have eW:ami s (i:Int)=((win s i 32:Nat):Int):=by unfold ami;rw[hs,aX.2 (show(0:Int)<=(i:Int)/\(i:Int)<=96 by omega)];rfl
 simp only[ra];rw[al (n:=8*(v.length:Int)),iU,ah,adt v i,ab,alx,ab,eW,akP _ _ (by omega) (by omega),al (n:=(i:Int)+1),jt (Nat.lt_trans (EX hh hw) (by omega)),Mi];by_cases h1:ZY v i=1;rw[h1,aH rfl];rfl;rw[aG h1,show(((ZY v i:Nat):Int)==1)=false from by simp;omega];rfl;simp only[ra];rw[al (n:=8*(v.length:Int)),cz];rfl
def wo (f:IS):Bytes:=((gu f.2.1++gu f.2.2.1)++cj f.2.2.2.1)++cj f.2.2.2.2
theorem abr (f:IS):wF f=some (wo f):=by have:=dT f.2.1;have:=dT f.2.2.1;have:=bQ f.2.2.2.1;have:=bQ f.2.2.2.2;simp only[wF,vC,lH,ab];rw[aO,aO (by simp only[ai];omega),aO (by simp only[ai];omega)];rfl
theorem JF (s:Bytes)(f:IS):uh s f=some (BL s (wo f)):=by simp only[uh,abr,aiO,ab]
def Ec (s:tL)(f:IS):Int:=bif ((s.2.length:Int)==0)||decide (BL s.1 (wo f)<0) then-1 else tmod (BL s.1 (wo f)) (s.2.length:Int)
theorem afb (s:tL)(f:IS):AF s f=some (Ec s f):=by
 unfold AF Ec;rw[JF,ab];cases h0:(s.2.length:Int)==0;case true=>rfl
 cases decide (BL s.1 (wo f)<0);case true=>rfl
 simp only[af,ab,cB];rw[aG (by simpa using h0)]
theorem RN (s:tL)(f:IS)(h:¬Ec s f<0):∃n:Nat,Ec s f=(n:Int)/\n<s.2.length:=by
 unfold Ec at h⊢;cases hc:((s.2.length:Int)==0)||decide (BL s.1 (wo f)<0)with
 |true=>rw[hc]at h;simp at h
 |false=>
  rw[hc]at h;simp only[cu,cr,cY]at hc;simp only[af]at h⊢;have h1:0<=BL s.1 (wo f):=by omega
  rw[dG h1]at h⊢;have:=fF (BL s.1 (wo f)) (show(0:Int)<s.2.length by omega);obtain⟨n,hn⟩:=aQ (show 0<=BL s.1 (wo f)%(s.2.length:Int) by omega);exact⟨n,hn,by omega⟩
def NQ (s:tL)(q:Int)(f:IS):Int:=bif !tB s q||decide (Ec s f<0) then-1 else s.2.getD (Ec s f).toNat 0
theorem XE (s:tL)(q:Int)(f:IS)(h:s.2.length<=10^9):sO s q f=some (NQ s q f):=by
 unfold sO NQ;rw[afb,ab,Pe s q h,ab];cases tB s q;rfl;have tV:=RN s f;cases hd:decide (Ec s f<0);case true=>rfl
 obtain⟨n,hn,hl⟩:=tV (dX hd);simp only[aj,af,ab,cB,hn,bj hl,ax,cH hl]
theorem Tp (t:aw Slot)(f:IS)(h:∀j,j<8->qz (gJ t j) f=false):∀n k,walk t f n k= -1
 |0,_=>rfl
 |n+1,k=>by unfold walk;rw[h _ (KG f k),Tp t f h n (k+1)];split<;>rfl
theorem L8 (f:IS):∀(t:aw Slot)(m:Int),(∀s∈t,qz s f=false)->Aa f t m= -1
 |[],_,_=>rfl
 |s::r,m,h=>by unfold Aa;rw[h s (by simp)];exact L8 f r (m+1) (λx hx=>h x (by simp[hx]))
theorem aaZ (t:aw Slot)(f:IS)(h:tT t=true):Aa f t 0=walk t f 8 0:=by simp only[tT,ae,aZ,aD,bD]at h;obtain⟨h8,hs⟩:=h;by_cases hex:∃j,j<t.length/\qz (gJ t j) f=true;obtain⟨j,hj,hu,e⟩:=FG f t 0 hex;have:=hs j (by omega);simp only[oH,ae,cQ,aK,aZ]at this;simp only[qz,ae,aZ,aF]at hu;rcases this.2 with g|g;rw[hu.1]at g;simp at g;rw[hu.2]at g;rw[show((0:Int))=((0:Nat):Int) from rfl,e,g];omega;have hn:∀j,j<t.length->qz (gJ t j) f=false:=λj hj=>Bool.eq_false_iff.2 λhu=>hex ⟨j,hj,hu⟩;rw[Tp t f (λj hj=>hn j (by omega)),L8];intro s xJ;obtain⟨j,hj,rfl⟩:=List.getElem_of_mem xJ;have:=hn j hj;rwa[yf hj]at this
def findF (t:aw Slot)(f:IS):Int:=bif tT t then walk t f 8 0 else-1
theorem UN (t:aw Slot)(f:IS)(h:t.length<=10^9):yz t f=some (findF t f):=by unfold yz findF;rw[Ss,ab];cases ht:tT t;rfl;simp only[aj,af,ah,XD t f h,ab,aaZ t f ht]
theorem aej (t:aw Slot)(f:IS):∀n k,walk t f n k= -1\/∃m:Nat,walk t f n k=(m:Int)/\m<8
 |0,_=> .inl rfl
 |n+1,k=>by unfold walk;split;exact .inl rfl;split;exact .inr ⟨_,rfl,KG f k⟩;exact aej t f n (k+1)
theorem WC (t:aw Slot)(f:IS)(h:findF t f>=0):∃m:Nat,findF t f=(m:Int)/\m<t.length:=by
 unfold findF at h⊢;cases ht:tT t with
 |false=>rw[ht]at h;simp at h
 |true=>
  rw[ht]at h;simp only[ah]at h⊢;have h8:t.length=8:=by simp only[tT,ae,aZ]at ht;exact ht.1
  rcases aej t f 8 0 with g|⟨m,g,hm⟩;omega;exact⟨m,g,by omega⟩
def zu (f:Filter)(p:aJ):Bool:=eV f&&(((p.1==f.1)||((p.1==281474976710655)||f.2.1))&&((p.2.2.1== -1)||hasB f.2.2 p.2.2.1))
theorem Xm (f:Filter)(p:aJ)(h:f.2.2.length<=10^9):AA f p=some (zu f p):=by simp only[AA,rQ f h,Az f.2.2 _ h,ab,zu];cases eV f<;>cases p.1==f.1<;>cases p.1==281474976710655<;>cases f.2.1<;>cases p.2.2.1== -1<;>rfl
def preB (a b n:Int):Bool:=fdiv a (2^(min (Int.toNat (ar (32-n))) (IntKind.bits .i64)))==fdiv b (2^(min (Int.toNat (ar (32-n))) (IntKind.bits .i64)))
theorem agn {r:mi}(h:CX r=true):0<=r.2.2.2.1/\r.2.2.2.1<=32:=by rw[<-aX];unfold CX at h;simp only[ni,dq,ab,br]at h;cases hp:cS r.2.2.2.1 0 32 with|true=>rfl|false=>rw[hp]at h;revert h;cases cS r.1 0 1000<;>cases r.2.1 !=0<;>cases r.2.1 !=6<;>cases r.2.1 !=17<;>cases cS r.2.2.1 0 4294967295<;>simp
def amt (r:mi)(p:aJ):Bool:=preB r.2.2.1 p.2.2.2.2.2.2.1 r.2.2.2.1&&(cS p.2.2.2.2.2.2.2.2.2.2.1 r.2.2.2.2.1 r.2.2.2.2.2.1&&((r.2.2.2.2.2.2.1== -2)||(r.2.2.2.2.2.2.1==p.2.2.1)))
def Lq (r:mi)(p:aJ):Bool:=CX r&&(dJ p&&(((r.2.1==0)||(r.2.1==p.2.2.2.2.2.2.2.2.1))&&amt r p))
theorem alu (a b n:Int)(h0:0<=n)(h1:n<=32):qi a b n=some (preB a b n):=by unfold qi preB;rw[aG (by rw[al (n:=32-n)];omega),aG (by rw[al (n:=32-n)];omega)]
theorem afh (r:mi)(p:aJ):sM r p=some (Lq r p):=by unfold sM Lq;rw[aiZ,ab];cases hr:CX r;rfl;have hp:=agn hr;simp only[mx,alu _ _ _ hp.1 hp.2,cl,ab,amt];cases dJ p<;>cases r.2.1==0<;>cases r.2.1==p.2.2.2.2.2.2.2.2.1<;>cases preB r.2.2.1 p.2.2.2.2.2.2.1 r.2.2.2.1<;>cases cS p.2.2.2.2.2.2.2.2.2.2.1 r.2.2.2.2.1 r.2.2.2.2.2.1<;>cases r.2.2.2.2.2.2.1== -2<;>rfl
def ME:mi:=(0,0,0,0,0,0,0,0,0)
def BE (l:aw mi)(p:aJ):Nat->Int
 |0=> -1
 |i+1=>bif Lq (l.getD i ME) p&&(decide (BE l p i<0)||decide ((l.getD i ME).1<(l.getD (BE l p i).toNat ME).1)) then(i:Int) else BE l p i
theorem N3 (l:aw mi)(p:aJ):∀i,BE l p i= -1\/∃n:Nat,BE l p i=(n:Int)/\n<i
 |0=> .inl rfl
 |i+1=>by rw[BE];cases Lq (l.getD i ME) p&&(decide (BE l p i<0)||decide ((l.getD i ME).1<(l.getD (BE l p i).toNat ME).1))with|true=>exact .inr ⟨i,rfl,by omega⟩|false=>rcases N3 l p i with h|⟨n,h,hn⟩;exact .inl h;exact .inr ⟨n,h,by omega⟩
theorem aev (l:aw mi)(p:aJ)(i:Nat)(hi:i<l.length)(nx:Int×Int->ay R): (aa (cond (Lq l[i] p) (cond (decide (BE l p i<0)) (some true) (aa (idx l (BE l p i)) λx4=>some (decide (l[i].1<x4.1)))) (some false)) λq5=>cond q5 (nx ((i:Int),((i+1:Nat):Int))) (nx (BE l p i,((i+1:Nat):Int))))=nx (BE l p (i+1),((i+1:Nat):Int)):=by
 rw[BE,cH hi];cases Lq l[i] p;rfl;rcases N3 l p i with h|⟨n,h,hn⟩;rw[h];rfl;have hl:n<l.length:=by omega
 rw[h,aq (show¬(n:Int)<0 by omega),bj hl];simp only[ah,af,ab,ax,cH hl,bl,cA];cases decide (l[i].1<l[n].1)<;>rfl
def Hs (l:aw mi)(p:aJ):Int:=bif Ah l then BE l p l.length else-1
theorem WD (l:aw mi)(p:aJ)(h:Hs l p>=0):∃n:Nat,Hs l p=(n:Int)/\n<l.length:=by unfold Hs at h⊢;cases hr:Ah l with|false=>rw[hr]at h;simp at h|true=>rw[hr]at h;simp only[ah]at h⊢;rcases N3 l p l.length with g|g;omega;exact g
theorem afe (l:aw mi)(p:aJ)(h:l.length<=10^9):yA l p=some (Hs l p):=by unfold yA Hs;rw[So l h,ab];cases Ah l;rfl;simp only[aj,af,ah];refine dC (λi=>(BE l p i,(i:Int))) l.length (by omega) (λi nx hi=>?_) (λnx=>?_);simp only[sG];rw[iU,bj hi,al (n:=(i:Int)+1)];simp only[ah,ab,afh];exact aev l p i hi nx;simp only[sG];rw[cz];rfl
def nk (p:aJ):IS:=(p.2.2.2.2.2.2.2.2.1,p.2.2.2.2.2.2.1,p.2.2.2.2.2.2.2.1,p.2.2.2.2.2.2.2.2.2.1,p.2.2.2.2.2.2.2.2.2.2.1)
theorem O9 (p:aJ):vQ p=some (nk p):=rfl
def arb:Slot:=(0,(0,0,0,0,0),0)
def tS (s:df)(q:Int)(p:aJ):Int:=
 bif !eK s q|| !dJ p then-1 else
 bif decide (Hs s.1 p>=0) then(bif (s.1.getD (Hs s.1 p).toNat ME).2.2.2.2.2.2.2.1==1 then-1 else(s.1.getD (Hs s.1 p).toNat ME).2.2.2.2.2.2.2.2) else
 bif decide (findF s.2.1 (nk p)>=0) then(s.2.1.getD (findF s.2.1 (nk p)).toNat arb).2.2 else NQ s.2.2 q (nk p)
theorem afq (s:df)(q:Int)(p:aJ)(h1:s.1.length<=10^9)(h2:s.2.1.length<=10^9)(h3:s.2.2.2.length<=10^9):sP s q p=some (tS s q p):=by
 unfold sP tS;rw[JM s q h1 h2 h3,ab,mx,ab];cases eK s q;rfl;cases dJ p;rfl;simp only[aj,af,ab,cB,afe s.1 p h1,O9,UN s.2.1 _ h2,XE s.2.2 q _ h3];cases hd:decide (Hs s.1 p>=0)with
 |true=>obtain⟨n,hn,hl⟩:=WD s.1 p (bt hd);simp only[ah,hn,bj hl,ab,ax,cH hl];cases s.1[n].2.2.2.2.2.2.2.1==1<;>rfl
 |false=>
  simp only[af];cases VL:decide (findF s.2.1 (nk p)>=0)with
  |true=>obtain⟨n,hn,hl⟩:=WC s.2.1 (nk p) (bt VL);simp only[ah,hn,bj hl,ab,ax,cH hl]
  |false=>rfl
def aer (a b:Int):Int:=(nf a b).getD 0
theorem NO (a b:Int):nf a b=some (aer a b):=by
 unfold aer;have:∃x,nf a b=some x:=by simp only[nf,dq,ab];cases cS a 0 65535<;>cases cS b 0 65535<;>cases decide (ar (a+b)>65535)<;>exact⟨_,rfl⟩
 obtain⟨x,hx⟩:=this;rw[hx];rfl
theorem Xn (a b:Int):AB a b=some (aer a b):=NO a b
theorem akY {b:Int}(h:0<=a/\a<=65535)(k:0<=b/\b<=65535):0<=aer a b/\aer a b<=65535:=by have e:=NO a b;simp only[nf,dq,ab,aX.2 h,aX.2 k,aj,af]at e;rw[al (n:=a+b)]at e;by_cases hc:a+b>65535;rw[au hc,ah,al]at e;rw[<-cc e];omega;rw[aq hc,af]at e;rw[<-cc e];omega
def sw (s:Bytes):Nat->Int
 |0=>0
 |j+1=>aer (sw s j) ((bV s (2*j)*256+bV s (2*j+1):Nat):Int)
theorem aj8 (s:Bytes):∀j,0<=sw s j/\sw s j<=65535
 |0=>by simp[sw]
 |j+1=>by have b0:=eD s (2*j);have b1:=eD s (2*j+1);exact akY (aj8 s j) (by omega)
theorem H8 (h:s.length<=i:=by omega):bV s i=0:=by unfold bV;rw[bK,bC h];rfl
theorem al5 (s:Bytes)(h:s.length<=10^9):yY s=some (sw s ((s.length+1)/2)):=by
 unfold yY;refine dC (λj=>(sw s j,((2*j:Nat):Int))) ((s.length+1)/2) (by omega) (λj nx hj=>?_) (λnx=>?_);have b0:=eD s (2*j);have b1:=eD s (2*j+1);obtain⟨x,hx,ex⟩:=mO (s:=s) (i:=2*j);simp only[tp];rw[iU,ah,hx,ab,nX,al (n:=((2*j:Nat):Int)+1),al (n:=((2*j:Nat):Int)+2),ex,jt];have e8:tU 8=8:=rfl;have en:((2*j:Nat):Int)+2=((2*(j+1):Nat):Int):=by omega
 rw[e8,al (n:=((bV s (2*j):Nat):Int)*2^8)];by_cases hc:2*j+1<s.length;obtain⟨y,hy,ey⟩:=mO (s:=s) (i:=2*j+1) hc;rw[iU,ah,show((2*j:Nat):Int)+1=((2*j+1:Nat):Int) by omega,hy,ab,ey,jt (n:=bV s (2*j+1)),al,NO,ab,en,show((bV s (2*j):Nat):Int)*2^8+((bV s (2*j+1):Nat):Int)=((bV s (2*j)*256+bV s (2*j+1):Nat):Int) by omega];rfl;have hz:=H8 (s:=s) (i:=2*j+1);rw[cz,af,NO,ab,en,show((bV s (2*j):Nat):Int)*2^8=((bV s (2*j)*256+bV s (2*j+1):Nat):Int) by rw[hz];omega];rfl;simp only[tp];rw[cz];rfl
theorem alv (s:Bytes)(h:s.length<=10^9):yJ s=some (sw s ((s.length+1)/2)):=by
 unfold yJ;refine dC (λj=>(sw s j,((2*j:Nat):Int))) ((s.length+1)/2) (by omega) (λj nx hj=>?_) (λnx=>?_);have b0:=eD s (2*j);have b1:=eD s (2*j+1);obtain⟨x,hx,ex⟩:=mO (s:=s) (i:=2*j);simp only[sR];rw[iU,ah,hx,ab,nX,al (n:=((2*j:Nat):Int)+1),al (n:=((2*j:Nat):Int)+2),ex,jt];have e8:tU 8=8:=rfl;have en:((2*j:Nat):Int)+2=((2*(j+1):Nat):Int):=by omega
 rw[e8,show((bV s (2*j):Nat):Int)*2^8=((2^8*bV s (2*j):Nat):Int) by omega,jt (n:=2^8*bV s (2*j))];by_cases hc:2*j+1<s.length;obtain⟨y,hy,ey⟩:=mO (s:=s) (i:=2*j+1) hc;rw[iU,ah,show((2*j:Nat):Int)+1=((2*j+1:Nat):Int) by omega,hy,ab,ey,jt (n:=bV s (2*j+1)),IC (bV s (2*j)) 8 (bV s (2*j+1)),Xn,ab,en,show 2^8*bV s (2*j)+bV s (2*j+1)=bV s (2*j)*256+bV s (2*j+1) by omega];rfl;have hz:=H8 (s:=s) (i:=2*j+1);rw[cz,af,Xn,ab,en,show((2^8*bV s (2*j):Nat):Int)=((bV s (2*j)*256+bV s (2*j+1):Nat):Int) by rw[hz];omega];rfl;simp only[sR];rw[cz];rfl
def RE (s:Bytes):Int:=65535-sw s ((s.length+1)/2)
theorem Vp (s:Bytes)(h:s.length<=10^9):qJ s=some (RE s):=by have:=aj8 s ((s.length+1)/2);simp only[qJ,al5 s h,ab];rw[al];rfl
theorem NK (s:Bytes)(h:s.length<=10^9):jJ s=some (RE s):=by have:=aj8 s ((s.length+1)/2);simp only[jJ,alv s h,ab];rw[al];rfl
def ya (s:Bytes)(a:Int)(p:Bytes):Bytes:=bif fA s a (p.length:Int) then(s.take a.toNat++p)++s.drop (a.toNat+p.length) else s
theorem B9 (s:Bytes)(a:Int)(p:Bytes):(ya s a p).length=s.length:=by unfold ya;cases hw:fA s a (p.length:Int)with|false=>rfl|true=>simp only[fA,aF]at hw;simp only[ah,ai,aV,aL];omega
theorem YB (s:Bytes)(a:Int)(p:Bytes)(h:s.length<=10^9)(hw:fA s a (p.length:Int)=true): (aa (sub s 0 a) λx2=>room (List.length x2+List.length p) (aa (sub s (ar (a+((List.length p:Int)))) ((List.length s:Int))) λx3=>room (List.length (x2++p)+List.length x3) (some ((x2++p)++x3))))=some (ya s a p):=by
 have hw':=hw;simp only[fA,aF]at hw';obtain⟨n,rfl⟩:=aQ hw'.1;have e1:sub s 0 (n:Int)=some (s.take n):=by unfold sub;rw[zip];rfl
 have e2:sub s (((n+p.length:Nat):Int)) (s.length:Int)=some (s.drop (n+p.length)):=by unfold sub;rw[zip,ax,ax,cO]
 rw[e1,al,show(n:Int)+(p.length:Int)=((n+p.length:Nat):Int) by omega,e2,ab,aO (by simp only[aV];omega),ab,aO (by simp only[ai,aV,aL];omega)];unfold ya;rw[hw];rfl
theorem NP (s:Bytes)(a:Int)(p:Bytes)(h:s.length<=10^9:=by omega):jO s a p=some (ya s a p):=by unfold jO;rw[Gs s a _ h,ab];cases hw:fA s a (p.length:Int)with|false=>simp only[bw,ah,ya,hw,af]|true=>exact YB s a p h hw
theorem Em (s:Bytes)(a:Int)(p:Bytes)(h:s.length<=10^9:=by omega)(hp:p.length<=10^9:=by omega):gn s a p=some (ya s a p):=by
 unfold gn;rw[al (n:=(s.length:Int)-(p.length:Int))];cases hw:fA s a (p.length:Int)with
 |true=>have hw':=hw;simp only[fA,aF]at hw';rw[aq (show¬a<0 by omega),aq (show¬a>(s.length:Int)-(p.length:Int) by omega)];exact YB s a p h hw
 |false=>
  have hp:ya s a p=s:=by unfold ya;rw[hw];rfl
  rw[hp];simp only[fA,cY]at hw;by_cases h0:a<0;rw[au h0];rfl;rw[aq h0,au (show a>(s.length:Int)-(p.length:Int) by omega)];rfl
def bs2 (x y:Int):Bytes:=aM [x,y]
theorem TG (x y:Int):(bs2 x y).length=2:=rfl
def AM (a b k n:Int):Bool:=cS a 0 4294967295&&(cS b 0 4294967295&&(cS k 0 255&&cS n 0 65535))
def xZ (a b k n:Int):Bytes:=((gu a++gu b)++bs2 0 (gO k))++cj n
theorem LF (a b k n:Int):(xZ a b k n).length<=12:=by have:=dT a;have:=dT b;have:=bQ n;simp only[xZ,ai,TG];omega
theorem IG (a b k n:Int):nh a b k n=some (bif AM a b k n then(xZ a b k n,true) else([],false)):=by have:=dT a;have:=dT b;have:=bQ n;unfold nh AM;simp only[dq,ab,nr,pO];cases cS a 0 4294967295;rfl;cases cS b 0 4294967295;rfl;cases cS k 0 255;rfl;cases cS n 0 65535;rfl;simp only[aj,af,cG,ah,ab];have e:(aM [0,gO k]).length=2:=rfl;rw[aO,aO (by simp only[ai,e];omega),aO (by simp only[ai,e];omega)];rfl
theorem Pd (a b k n:Int):ri a b k n=some (bif AM a b k n then(xZ a b k n,true) else([],false)):=IG a b k n
def bare (g:fU):Bytes:=bif g.1==6 then
    (((((cj g.2.1++cj g.2.2.1)++gu g.2.2.2.1)++gu g.2.2.2.2.1)++bs2 80 (gO g.2.2.2.2.2.1))++cj g.2.2.2.2.2.2.1)++gu 0++g.2.2.2.2.2.2.2
 else(((cj g.2.1++cj g.2.2.1)++cj (8+(g.2.2.2.2.2.2.2.length:Int)))++cj 0)++g.2.2.2.2.2.2.2
theorem TC (g:fU):(bare g).length<=20+g.2.2.2.2.2.2.2.length:=by have:=bQ g.2.1;have:=bQ g.2.2.1;have:=dT g.2.2.2.1;have:=dT g.2.2.2.2.1;have:=bQ g.2.2.2.2.2.2.1;have:=dT 0;have:=bQ 0;have:=bQ (8+(g.2.2.2.2.2.2.2.length:Int));unfold bare;cases g.1==6<;>simp only[ah,af,ai,TG]<;>omega
theorem agZ:cj 0++cj 0=gu 0:=by rfl
theorem aiL (g:fU)(h:g.2.2.2.2.2.2.2.length<=1000000):sX g=some (bare g):=by have:=bQ g.2.1;have:=bQ g.2.2.1;have:=dT g.2.2.2.1;have:=dT g.2.2.2.2.1;have:=bQ g.2.2.2.2.2.2.1;have:=bQ 0;have:=bQ (8+(g.2.2.2.2.2.2.2.length:Int));have e:∀x,(aM [80,gO x]).length=2:=λ_=>rfl;unfold sX bare;rw[al (n:=8+(g.2.2.2.2.2.2.2.length:Int))];simp only[lH,vC,ab];rw[aO];cases g.1==6 with|true=>simp only[ah];rw[aO (by simp only[ai,e];omega),aO (by simp only[ai,e];omega),aO (by simp only[ai,e];omega),aO (by simp only[ai,e];omega),aO (by simp only[ai,e];omega),aO (by simp only[ai,e];omega),aO (by simp only[ai,e];omega)];rw[<-agZ];simp only[bs2,aY]|false=>simp only[af];rw[aO (by simp only[ai];omega),aO (by simp only[ai];omega),aO (by simp only[ai];omega)]
def ad6 (a b:Int)(g:fU):Int:=bif (RE (xZ a b g.1 ((bare g).length:Int)++bare g)==0)&&(g.1==17) then 65535 else RE (xZ a b g.1 ((bare g).length:Int)++bare g)
def adU (a b:Int)(g:fU):Bytes:=ya (bare g) (bif g.1==6 then 16 else 6) (cj (ad6 a b g))
def P5 (a b:Int)(g:fU):Bool:=uA g&&AM a b g.1 ((bare g).length:Int)
def Gm (a b:Int)(g:fU):Bytes×Bool:=bif P5 a b g then(adU a b g,true) else([],false)
theorem Gl {g:fU}(h:uA g=true):g.2.2.2.2.2.2.2.length<=320:=by simp only[uA,ae,aK,cY]at h;omega
theorem Za (a b:Int)(g:fU):ry a b g=some (Gm a b g):=by
 unfold ry Gm P5;rw[ad1,ab];cases hg:uA g;rfl;have hb:=Gl hg;have hl:=TC g;have hp:=LF a b g.1 ((bare g).length:Int);have:=bQ g.2.1;have:=bQ g.2.2.1;have:=dT g.2.2.2.1;have:=dT g.2.2.2.2.1;have:=bQ g.2.2.2.2.2.2.1;have:=dT 0;have:=bQ 0;have:=bQ (8+(g.2.2.2.2.2.2.2.length:Int));have e:∀x,(aM [80,gO x]).length=2:=λ_=>rfl;rw[al (n:=8+(g.2.2.2.2.2.2.2.length:Int))];simp only[pO,nr,ab,aj,af,bl];rw[aO];cases h6:g.1==6 with
 |true=>
  have air:bare g=(((((cj g.2.1++cj g.2.2.1)++gu g.2.2.2.1)++gu g.2.2.2.2.1)++aM [80,gO g.2.2.2.2.2.1])++cj g.2.2.2.2.2.2.1)++gu 0++g.2.2.2.2.2.2.2:=by unfold bare;rw[h6];rfl
  simp only[ah];rw[aO (by simp only[ai,e];omega),aO (by simp only[ai,e];omega),aO (by simp only[ai,e];omega),aO (by simp only[ai,e];omega),aO (by simp only[ai,e];omega),aO (by simp only[ai,e];omega),<-air,IG,ab];cases AM a b g.1 ((bare g).length:Int);rfl;simp only[ah,aj,af];rw[aO,Vp _ (by simp only[ai];omega)];simp only[ab,br,NP _ _ _ (show(bare g).length<=10^9 by omega),adU,ad6,h6,ah,cF];cases (RE (xZ a b g.1 ((bare g).length:Int)++bare g)==0)&&(g.1==17)<;>rfl
 |false=>
  have air:bare g=(((cj g.2.1++cj g.2.2.1)++cj (8+(g.2.2.2.2.2.2.2.length:Int)))++cj 0)++g.2.2.2.2.2.2.2:=by unfold bare;rw[h6];rfl
  simp only[af];rw[aO (by simp only[ai];omega),aO (by simp only[ai];omega),aO (by simp only[ai];omega),<-air,IG,ab];cases AM a b g.1 ((bare g).length:Int);rfl;simp only[ah,aj,af];rw[aO,Vp _ (by simp only[ai];omega)];simp only[ab,br,NP _ _ _ (show(bare g).length<=10^9 by omega),adU,ad6,h6,af,cF];cases (RE (xZ a b g.1 ((bare g).length:Int)++bare g)==0)&&(g.1==17)<;>rfl
theorem F1 (a b:Int)(g:fU):kb a b g=some (Gm a b g):=by
 unfold kb Gm P5;rw[ady,ab];cases hg:uA g;rfl;have hb:=Gl hg;have hl:=TC g;have hp:=LF a b g.1 ((bare g).length:Int);have K4:fT g.1=some (bif g.1==6 then 16 else 6):=by unfold fT;rw[br]
 have w1:=bQ 65535;have w2:=bQ (RE (xZ a b g.1 ((bare g).length:Int)++bare g));simp only[aiL g (by omega),Pd,ab,aj,af,bl];cases AM a b g.1 ((bare g).length:Int);rfl;simp only[ah,aj,af];rw[aO,NK _ (by simp only[ai];omega)];simp only[ab,br,K4,lH,Em _ _ _ (show(bare g).length<=10^9 by omega) (show(cj 65535).length<=10^9 by omega),Em _ _ _ (show(bare g).length<=10^9 by omega) (show(cj (RE (xZ a b g.1 ((bare g).length:Int)++bare g))).length<=10^9 by omega),adU,ad6,cF];rw[Bool.and_comm];cases (RE (xZ a b g.1 ((bare g).length:Int)++bare g)==0)&&(g.1==17)<;>rfl
theorem alX (a b:Int)(g:fU):(Gm a b g).1.length<=340:=by unfold Gm;cases h:P5 a b g with|false=>exact cf _|true=>simp only[P5,ae]at h;have:=Gl h.1;have:=TC g;show(ya _ _ _).length<=340;rw[B9];omega
def ipB (d:Ip):Bool:=cS d.1 0 255&&(cS d.2.2.1 0 255&&(cS d.2.2.2.1 0 255&&(cS d.2.1 0 65535&&(cS d.2.2.2.2.1 0 4294967295&&(cS d.2.2.2.2.2.1 0 4294967295&&decide ((d.2.2.2.2.2.2.length:Int)<=380))))))
theorem YU (d:Ip):He d=some (ipB d):=by simp only[He,dq,ab,br,cF,ipB]
theorem aiS (d:Ip):Lf d=some (ipB d):=YU d
def Pj (d:Ip):Bytes:=((((((bs2 69 (gO d.1)++cj (20+(d.2.2.2.2.2.2.length:Int)))++cj d.2.1)++cj 16384)++bs2 (gO d.2.2.1) (gO d.2.2.2.1))++cj 0)++gu d.2.2.2.2.1)++gu d.2.2.2.2.2.1
theorem Pk (d:Ip):(Pj d).length<=20:=by have:=bQ (20+(d.2.2.2.2.2.2.length:Int));have:=bQ d.2.1;have:=bQ 16384;have:=bQ 0;have:=dT d.2.2.2.2.1;have:=dT d.2.2.2.2.2.1;simp only[Pj,ai,TG];omega
def Ph (d:Ip):Bytes:=ya (Pj d) 10 (cj (RE (Pj d)))
theorem acB (d:Ip):yU d=some (bif ipB d then(Ph d,true) else([],false)):=by
 unfold yU;rw[YU,ab];cases hd:ipB d;rfl;have hn:(d.2.2.2.2.2.2.length:Int)<=380:=by simp only[ipB,ae,aF]at hd;omega
 have:=bQ (20+(d.2.2.2.2.2.2.length:Int));have:=bQ d.2.1;have:=bQ 16384;have:=bQ 0;have:=dT d.2.2.2.2.1;have:=dT d.2.2.2.2.2.1;have hl:=Pk d;have e:∀x y,(aM [x,y]).length=2:=λ_ _=>rfl;rw[al (n:=20+(d.2.2.2.2.2.2.length:Int))];simp only[pO,nr,ab,aj,af,ah];rw[aO (by simp only[ai,e];omega),aO (by simp only[ai,e];omega),aO (by simp only[ai,e];omega),aO (by simp only[ai,e];omega),aO (by simp only[ai,e];omega),aO (by simp only[ai,e];omega),aO (by simp only[ai,e];omega)];have hp:((((((aM [69,gO d.1]++cj (20+(d.2.2.2.2.2.2.length:Int)))++cj d.2.1)++cj 16384)++aM [gO d.2.2.1,gO d.2.2.2.1])++cj 0)++gu d.2.2.2.2.1)++gu d.2.2.2.2.2.1=Pj d:=rfl;rw[hp,Vp _ (by omega),ab,NP _ _ _];rfl
theorem abt (d:Ip):yE d=some (bif ipB d then(Ph d,true) else([],false)):=by
 unfold yE;rw[aiS,ab];cases hd:ipB d;rfl;have hn:(d.2.2.2.2.2.2.length:Int)<=380:=by simp only[ipB,ae,aF]at hd;omega
 have:=bQ (20+(d.2.2.2.2.2.2.length:Int));have:=bQ d.2.1;have:=bQ 16384;have:=bQ 0;have:=dT d.2.2.2.2.1;have:=dT d.2.2.2.2.2.1;have hl:=Pk d;have hw:=bQ (RE (Pj d));have e:∀x y,(aM [x,y]).length=2:=λ_ _=>rfl;rw[al (n:=20+(d.2.2.2.2.2.2.length:Int))];simp only[lH,vC,ab,aj,af,ah];rw[aO (by simp only[ai,e];omega),aO (by simp only[ai,e];omega),aO (by simp only[ai,e];omega),aO (by simp only[ai,e];omega),aO (by simp only[ai,e];omega),aO (by simp only[ai,e];omega),aO (by simp only[ai,e];omega)];have hp:((((((aM [69,gO d.1]++cj (20+(d.2.2.2.2.2.2.length:Int)))++cj d.2.1)++cj 16384)++aM [gO d.2.2.1,gO d.2.2.2.1])++cj 0)++gu d.2.2.2.2.1)++gu d.2.2.2.2.2.1=Pj d:=rfl;rw[hp,NK _ (by omega),ab,Em _ _ _];rfl
def ZI (d:Ip):Bytes×Bool:=bif ipB d then(Ph d++d.2.2.2.2.2.2,true) else([],false)
theorem Li (d:Ip):(Ph d).length<=20:=by unfold Ph;rw[B9];exact Pk d
theorem apg (d:Ip):AN d=some (ZI d):=by
 unfold AN ZI;rw[acB,ab];cases hd:ipB d;rfl;have hn:(d.2.2.2.2.2.2.length:Int)<=380:=by simp only[ipB,ae,aF]at hd;omega
 have:=Li d;simp only[ah,aj,af];rw[aO]
theorem aiR (d:Ip):wz d=some (ZI d):=by
 unfold wz ZI;rw[abt,ab];cases hd:ipB d;rfl;have hn:(d.2.2.2.2.2.2.length:Int)<=380:=by simp only[ipB,ae,aF]at hd;omega
 have:=Li d;simp only[ah,aj,af];rw[aO]
def xK (n:Nat):Bytes:=aM (List.replicate n (0:Int))
theorem Hk (n:Nat):(xK n).length=n:=by simp[xK,aM]
theorem Qb (n:Nat)(h:n<=10^9:=by omega):gz (n:Int) 0=some (xK n):=by unfold gz;rw[zip,aO (by rw[ax];omega),ax];refine dC (λi=>(List.replicate n (0:Int),(i:Int))) n (by omega) (λi nx hi=>?_) (λnx=>?_);simp only[qs];rw[iU,bj (by simpa using hi),al];simp only[ah,ab,ax,List.set_replicate_self];rfl;simp only[qs];rw[cz];rfl
theorem adx (n:Nat)(h:n<=10^9:=by omega):pg 0 (n:Int)=some (xK n):=by unfold pg;rw[zip,aO (by rw[ax];omega),ax];refine dC (λi=>(List.replicate n (0:Int),(i:Int))) n (by omega) (λi nx hi=>?_) (λnx=>?_);simp only[wZ];rw[au (by simp;omega),bj (by simpa using hi),al];simp only[ah,ab,ax,List.set_replicate_self];rfl;simp only[wZ];rw[aq (by simp)];rfl
def pad (s:Bytes):Bytes:=if s.length<46 then s++xK (46-s.length) else s
theorem U8 (s:Bytes):(pad s).length=max 46 s.length:=by unfold pad;split;simp only[ai,Hk];omega;omega
theorem al4 (s:Bytes)(h:s.length<=10^9):AQ s=some (pad s):=by unfold AQ pad;by_cases hc:s.length<46;rw[iU,aH hc,al,show(46:Int)-(s.length:Int)=((46-s.length:Nat):Int) by omega,Qb _];simp only[ah,ab];rw[aO (by rw[Hk];omega)];rw[cz,aG hc];rfl
theorem als (s:Bytes)(h:s.length<=10^9):AG s=some (pad s):=by unfold AG pad;by_cases hc:s.length<46;rw[cz,aH hc,al,show(46:Int)-(s.length:Int)=((46-s.length:Nat):Int) by omega,adx _];simp only[af,ab];rw[aO (by rw[Hk];omega)];rw[iU,aG hc];rfl
def uc (e:Tv):Bool:=cS e.1 0 281474976710655&&(cS e.2.1 0 281474976710655&&(cS e.2.2.1 (-1) 4095&&(cS e.2.2.2.1 1536 65535&&((e.2.2.2.1 !=33024)&&cS (e.2.2.2.2.length:Int) 46 400))))
theorem S4 (e:Tv):EI e=some (uc e):=by simp only[EI,dq,ab,br,cF,uc]
theorem Sj (e:Tv):BV e=some (uc e):=S4 e
def mac (a:Int):Bytes:=(jl a).getD []
theorem CZ (a:Int):jl a=some (mac a)/\(mac a).length<=6:=by
 have h:∃x,jl a=some x/\x.length<=6:=by unfold jl;rw[nX];simp only[pO,nr,ab];have h1:=bQ (fdiv a (2^(tU 32)));have h2:=dT (ar (toNat (ie a&&&ie 4294967295)));rw[aO];exact⟨_,rfl,by simp only[ai];omega⟩
 obtain⟨x,hx,hl⟩:=h;unfold mac;rw[hx];exact⟨rfl,hl⟩
theorem alr (a:Int):yK a=some (mac a):=(CZ a).1
def RO (e:Tv):Bytes:=(bif decide (e.2.2.1>=0) then(((mac e.1++mac e.2.1)++cj 33024)++cj e.2.2.1) else mac e.1++mac e.2.1)++cj e.2.2.2.1++e.2.2.2.2
theorem ah8 (e:Tv):(RO e).length<=18+e.2.2.2.2.length:=by have:=(CZ e.1).2;have:=(CZ e.2.1).2;have:=bQ 33024;have:=bQ e.2.2.1;have:=bQ e.2.2.2.1;unfold RO;cases decide (e.2.2.1>=0)<;>simp only[ah,af,ai]<;>omega
def Wu (e:Tv):Bytes×Bool:=bif uc e then(RO e,true) else([],false)
theorem al2 (e:Tv):yQ e=some (Wu e):=by
 unfold yQ Wu;rw[S4,ab];cases he:uc e;rfl;have hn:(e.2.2.2.2.length:Int)<=400:=by simp only[uc,ae,aX]at he;omega
 have:=(CZ e.1).2;have:=(CZ e.2.1).2;have:=bQ 33024;have:=bQ e.2.2.1;have:=bQ e.2.2.2.1;simp only[(CZ _).1,pO,ab,aj,af,ah,RO];rw[aO];cases decide (e.2.2.1>=0)with|true=>simp only[ah];rw[aO (by simp only[ai];omega),aO (by simp only[ai];omega),aO (by simp only[ai];omega),aO (by simp only[ai];omega)]|false=>simp only[af];rw[aO (by simp only[ai];omega),aO (by simp only[ai];omega)]
theorem alq (e:Tv):yv e=some (Wu e):=by
 unfold yv Wu;rw[Sj,ab];cases he:uc e;rfl;have hn:(e.2.2.2.2.length:Int)<=400:=by simp only[uc,ae,aX]at he;omega
 have:=(CZ e.1).2;have:=(CZ e.2.1).2;have:=bQ 33024;have:=bQ e.2.2.1;have:=bQ e.2.2.2.1;simp only[alr,lH,ab,aj,af,ah,RO];rw[aO];cases decide (e.2.2.1>=0)with|true=>simp only[ah];rw[aO,aO (by simp only[ai];omega),aO (by simp only[ai];omega),aO (by simp only[ai];omega)];simp only[aY]|false=>simp only[af];rw[aO (by simp only[ai];omega),aO (by simp only[ai];omega)]
def alW (p:aJ):Bytes×Bool:=Gm p.2.2.2.2.2.2.1 p.2.2.2.2.2.2.2.1 p.2.2.2.2.2.2.2.2
def ipP (p:aJ):Bytes×Bool:=ZI (p.2.2.2.1,p.2.2.2.2.1,p.2.2.2.2.2.1,p.2.2.2.2.2.2.2.2.1,p.2.2.2.2.2.2.1,p.2.2.2.2.2.2.2.1,(alW p).1)
def ak9 (p:aJ):Bytes×Bool:=Wu (p.1,p.2.1,p.2.2.1,2048,pad (ipP p).1)
def dM (p:aJ):Bytes×Bool:=bif dJ p then ak9 p else([],false)
theorem UT (p:aJ):(ipP p).1.length<=360:=by have h1:=alX p.2.2.2.2.2.2.1 p.2.2.2.2.2.2.2.1 p.2.2.2.2.2.2.2.2;unfold ipP ZI;cases ipB (p.2.2.2.1,p.2.2.2.2.1,p.2.2.2.2.2.1,p.2.2.2.2.2.2.2.2.1,p.2.2.2.2.2.2.1,p.2.2.2.2.2.2.2.1,(alW p).1)with|false=>exact cf _|true=>have h2:=Li (p.2.2.2.1,p.2.2.2.2.1,p.2.2.2.2.2.1,p.2.2.2.2.2.2.2.2.1,p.2.2.2.2.2.2.1,p.2.2.2.2.2.2.2.1,(alW p).1);have h3:(alW p).1.length<=340:=h1;simp only[ah,ai];omega
theorem agC (p:aJ):vd p=some (dM p):=by have hl:=UT p;unfold vd dM;simp only[LU,Za,apg,ab];rw[show(ZI (p.2.2.2.1,p.2.2.2.2.1,p.2.2.2.2.2.1,p.2.2.2.2.2.2.2.2.1,p.2.2.2.2.2.2.1,p.2.2.2.2.2.2.2.1,(Gm p.2.2.2.2.2.2.1 p.2.2.2.2.2.2.2.1 p.2.2.2.2.2.2.2.2).1))=ipP p from rfl,al4 _ (by omega),ab,al2];cases dJ p<;>rfl
theorem DM (p:aJ):gT p=some (dM p):=by have hl:=UT p;unfold gT dM;simp only[mx,F1,aiR,ab];rw[show(ZI (p.2.2.2.1,p.2.2.2.2.1,p.2.2.2.2.2.1,p.2.2.2.2.2.2.2.2.1,p.2.2.2.2.2.2.1,p.2.2.2.2.2.2.2.1,(Gm p.2.2.2.2.2.2.1 p.2.2.2.2.2.2.2.1 p.2.2.2.2.2.2.2.2).1))=ipP p from rfl,als _ (by omega),ab,alq];cases dJ p<;>rfl
theorem G2 (h:dJ p=true):(dM p).2=true:=by
 have hl:=UT p;have hh:qW p=true:=by simp only[dJ,ae]at h;exact h.1
 have hp:=U8 (ipP p).1;unfold dM ak9 Wu;rw[h,ah];have:uc (p.1,p.2.1,p.2.2.1,2048,pad (ipP p).1)=true:=by simp only[qW,ae]at hh;simp only[uc,ae];refine⟨hh.1,hh.2.1,hh.2.2.1,by decide,by decide,aX.2 ?_⟩;omega
 rw[this];rfl
theorem Br (p:aJ):(dM p).1.length<=378:=by have hl:=UT p;have hp:=U8 (ipP p).1;unfold dM ak9 Wu;cases dJ p with|false=>exact cf _|true=>cases uc (p.1,p.2.1,p.2.2.1,2048,pad (ipP p).1)with|false=>exact cf _|true=>have:=ah8 (p.1,p.2.1,p.2.2.1,2048,pad (ipP p).1);simp only[ah]at this⊢;omega
def fcs (c:Int):Bytes:=aM [gO c,gO (fdiv c (2^(tU 8))),gO (fdiv c (2^(tU 16))),gO (fdiv c (2^(tU 24)))]
def EV (s:Bytes):Bytes:=s++fcs (L5 s)
theorem alb (c:Int):(fcs c).length=4:=rfl
theorem al3 (s:Bytes)(h:s.length<=10^9):AY s=some (EV s):=by unfold AY;rw[adZ s h,ab,nX,nX,nX];exact aO (by show s.length+4<=_;omega)
theorem adw (s:Bytes)(h:s.length<=10^9):wS s=some (EV s):=by unfold wS;rw[adv s h,ab,nX,nX,nX];exact aO (by show s.length+4<=_;omega)
def eJ (p:aJ):Bool:=dJ p&&decide ((p.2.2.2.2.2.2.2.2.2.2.2.2.2.2.2.length:Int)<=128)
theorem acD (p:aJ):yV p=some (eJ p):=by simp only[yV,LU,ab,br,cF,eJ]
theorem xS (p:aJ):jK p=some (eJ p):=by simp only[jK,mx,ab,br,cF,eJ]
def wk (p:aJ):Bytes×Bool:=bif eJ p then(EV (dM p).1,true) else([],false)
theorem agA (p:aJ):vc p=some (wk p):=by have hl:=Br p;simp only[vc,acD,agC,al3 _ (show(dM p).1.length<=10^9 by omega),ab,wk];cases eJ p<;>rfl
theorem Sk (p:aJ):qb p=some (wk p):=by
 have hl:=Br p;simp only[qb,xS,DM,adw _ (show(dM p).1.length<=10^9 by omega),ab,wk];cases hp:eJ p with
 |false=>rfl
 |true=>
  have:dJ p=true:=by simp only[eJ,ae]at hp;exact hp.1
  rw[G2 this];rfl
theorem GS (p:aJ):(wk p).1.length<=382:=by have hl:=Br p;unfold wk;cases eJ p with|false=>exact cf _|true=>simp only[ah,EV,ai,alb];omega
def ab7 (p:aJ)(z:Int)(k:Nat):aJ:=
 (p.1,p.2.1,p.2.2.1,p.2.2.2.1,tmod (ar (p.2.2.2.2.1+(k:Int))) 65536,p.2.2.2.2.2.1,p.2.2.2.2.2.2.1,p.2.2.2.2.2.2.2.1,p.2.2.2.2.2.2.2.2.1,p.2.2.2.2.2.2.2.2.2.1,p.2.2.2.2.2.2.2.2.2.2.1,
   tmod (ar (p.2.2.2.2.2.2.2.2.2.2.2.1+((k:Int)*z))) 4294967296,p.2.2.2.2.2.2.2.2.2.2.2.2.1,
   (bif decide (((k:Int)+1)*z<(p.2.2.2.2.2.2.2.2.2.2.2.2.2.2.2.length:Int)) then ar (toNat (ie p.2.2.2.2.2.2.2.2.2.2.2.2.2.1&&&~~~ ie 9)) else p.2.2.2.2.2.2.2.2.2.2.2.2.2.1),
   p.2.2.2.2.2.2.2.2.2.2.2.2.2.2.1,(p.2.2.2.2.2.2.2.2.2.2.2.2.2.2.2.take (min ((k+1)*z.toNat) p.2.2.2.2.2.2.2.2.2.2.2.2.2.2.2.length)).drop (k*z.toNat))
def uY (n z:Nat):Nat:=(n+z-1)/z
def II (p:aJ)(z:Int):aw aJ:=bif dJ p&&cS z 1 128 then
    (bif (p.2.2.2.2.2.2.2.2.1 !=6)||decide ((p.2.2.2.2.2.2.2.2.2.2.2.2.2.2.2.length:Int)<=z) then [p] else(range (uY p.2.2.2.2.2.2.2.2.2.2.2.2.2.2.2.length z.toNat)).map (ab7 p z)) else []
theorem SQ {z k:Nat}(hz:0<z:=by omega):k<uY n z↔k*z<n:=by unfold uY;rw[Nat.lt_div_iff_mul_lt hz];omega
theorem EP (h:dJ p=true):p.2.2.2.2.2.2.2.2.2.2.2.2.2.2.2.length<=320:=by
 have hh:qW p=true:=by simp only[dJ,ae]at h;exact h.1
 exact Gl (BO hh)
theorem agJ {b:Bytes}{k z:Nat}(hk:k*z<b.length)(hb:b.length<=320):sub b ((k*z:Nat):Int) ((min ((k+1)*z) b.length:Nat):Int)=some ((b.take (min ((k+1)*z) b.length)).drop (k*z)):=by have:k*z<=(k+1)*z:=cJ _ (by omega);unfold sub;rw[zip,ax,ax]
theorem afp (p:aJ)(z:Int):Eo p z=some (II p z):=by
 unfold Eo II;simp only[mx,cl,ab];cases hs:dJ p;rfl;cases hz:cS z 1 128;rfl;have hz':=aX.1 hz;have hb:=EP hs;simp only[aj,af,cG,ah,ab,br,cT];cases hq:(p.2.2.2.2.2.2.2.2.1 !=6)||decide ((p.2.2.2.2.2.2.2.2.2.2.2.2.2.2.2.length:Int)<=z)with
 |true=>rfl
 |false=>
  simp only[af];obtain⟨m,rfl⟩:=aQ (show 0<=z by omega);have hN:∀k,k<uY p.2.2.2.2.2.2.2.2.2.2.2.2.2.2.2.length m↔k*m<p.2.2.2.2.2.2.2.2.2.2.2.2.2.2.2.length:=λk=>SQ;have Jt:uY p.2.2.2.2.2.2.2.2.2.2.2.2.2.2.2.length m<=320:=by rcases cn 320 (uY p.2.2.2.2.2.2.2.2.2.2.2.2.2.2.2.length m)with h|h;have:=(hN 320).1 h;have:320*1<=320*m:=Nat.mul_le_mul_left _ (by omega);omega;exact h
  refine dC (λk=>((range k).map (ab7 p (m:Int)),(k:Int))) (uY p.2.2.2.2.2.2.2.2.2.2.2.2.2.2.2.length m) (by omega) (λk nx hk=>?_) (λnx=>?_);have hkm:=(hN k).1 hk;have hk1:(k+1)*m=k*m+m:=by rw[cM,fO]
  have e1:(k:Int)*(m:Int)=((k*m:Nat):Int):=by push_cast;rfl
  have e2:((k:Int)+1)*(m:Int)=(((k+1)*m:Nat):Int):=by push_cast;rfl
  have qO:=agJ hkm hb;simp only[yH];rw[al (n:=(k:Int)+1),e1,e2,jt (n:=k*m),jt (n:=(k+1)*m),iU,ah];rw[gP,ee,List.map_singleton];simp only[ab7,e1,e2,ax];by_cases hc:(((k+1)*m:Nat):Int)<(p.2.2.2.2.2.2.2.2.2.2.2.2.2.2.2.length:Int);rw[au hc];rw[show min ((k+1)*m) p.2.2.2.2.2.2.2.2.2.2.2.2.2.2.2.length=(k+1)*m by omega]at qO⊢;simp only[ah];rw[qO,ab,nX,nX,aO (by simp;omega)];rfl;rw[aq hc];rw[show min ((k+1)*m) p.2.2.2.2.2.2.2.2.2.2.2.2.2.2.2.length=p.2.2.2.2.2.2.2.2.2.2.2.2.2.2.2.length by omega]at qO⊢;simp only[af];rw[qO,ab,nX,nX,aO (by simp;omega)];rfl;have hkm:¬uY p.2.2.2.2.2.2.2.2.2.2.2.2.2.2.2.length m*m<p.2.2.2.2.2.2.2.2.2.2.2.2.2.2.2.length:=λh=>absurd ((hN _).2 h) (Nat.lt_irrefl _);have hub:uY p.2.2.2.2.2.2.2.2.2.2.2.2.2.2.2.length m*m<=320*128:=Nat.mul_le_mul Jt (by omega);have e1:((uY p.2.2.2.2.2.2.2.2.2.2.2.2.2.2.2.length m:Nat):Int)*(m:Int)=((uY p.2.2.2.2.2.2.2.2.2.2.2.2.2.2.2.length m*m:Nat):Int):=by push_cast;rfl
  simp only[yH];rw[e1,jt,cz];rfl
theorem Qj (p:aJ)(z:Int):(II p z).length<=320:=by unfold II;cases hs:dJ p&&cS z 1 128;exact cf _;simp only[ae,aX]at hs;have hb:=EP hs.1;cases (p.2.2.2.2.2.2.2.2.1 !=6)||decide ((p.2.2.2.2.2.2.2.2.2.2.2.2.2.2.2.length:Int)<=z)with|true=>simp only[ah,bf];omega|false=>simp only[ah,af,bL,List.length_range];rcases cn 320 (uY p.2.2.2.2.2.2.2.2.2.2.2.2.2.2.2.length z.toNat)with h|h;have:=(SQ).1 h;have:320*1<=320*z.toNat:=Nat.mul_le_mul_left _ (by omega);omega;exact h
def Tx (acc:bN)(p:aJ):bN:=bif (wk p).2 then acc++[(wk p).1] else acc
theorem VT (acc:bN)(p:aJ):(Tx acc p).length<=acc.length+1:=by unfold Tx;cases (wk p).2<;>simp
def NG (l:aw aJ):bN:=l.foldl Tx []
theorem Mc:∀(l:aw aJ)(acc:bN),(l.foldl Tx acc).length<=acc.length+l.length
 |[],acc=>by simp
 |p::l,acc=>by have:=Mc l (Tx acc p);have:=VT acc p;simp only[dp,ba];omega
theorem Ht:∀(l:aw aJ)(acc:bN),(∀x∈acc,x.length<=382)->∀x∈l.foldl Tx acc,x.length<=382
 |[],acc,h=>h
 |p::l,acc,h=>by rw[dp];refine Ht l _ (λx hx=>?_);unfold Tx at hx;cases hf:(wk p).2 with|false=>rw[hf]at hx;exact h x hx|true=>rw[hf]at hx;simp only[ah,az,bF]at hx;rcases hx with hx|hx;exact h x hx;rw[hx];exact GS p
theorem abo (l:aw aJ)(h:l.length<=10^9):yB l=some (NG l):=by
 unfold yB NG;have:=uz (T:=om (λ(y3:bN) (_:Int)=>some y3) l (l.length:Int)) l (λ(s:bN) i=>(s,(i:Int))) (λi s=>s.length<=i) (λp s=> .ok (Tx s p)) (λs=>some s) (by omega) (λi hi s nx hI=>?hs) (λi hi s s' hI hg=>?hn) (λs nx hI=>?hf) [] (by simp)
 case hs=>
  simp only[om]
  rw[iU,bj hi,al (n:=(i:Int)+1)]
  simp only[ah,ab,Sk,Tx]
  rw[aO (by simp;omega)]
  cases (wk l[i]).2<;>rfl
 case hn=>cases hg;have:=VT s l[i];omega
 case hf=>
  simp only[om]
  rw[cz];rfl
 rw[Hb]at this;exact this
def YL (p:aJ)(z:Int):bN:=NG (II p z)
theorem ai0 (p:aJ)(z:Int):uR p z=some (YL p z):=by have:=Qj p z;simp only[uR,afp,abo _ (show(II p z).length<=10^9 by omega),ab];rfl
theorem agu (p:aJ)(z:Int):(YL p z).length<=320/\∀x∈YL p z,x.length<=382:=by have:=Qj p z;have:=Mc (II p z) [];exact⟨by unfold YL NG;simp only[ed]at this;omega,Ht _ [] (by simp)⟩
theorem ON (h0:0<=a:=by omega)(h:a+2<=(s.length:Int):=by omega):0<=dc s a/\dc s a<=65535:=by have h1:=eD s a.toNat;have h2:=eD s (a.toNat+1);unfold dc fA;rw[au ⟨h0,h⟩];simp only[ah];omega
theorem Jo (h0:0<=a:=by omega)(h:a+4<=(s.length:Int):=by omega):0<=eM s a/\eM s a<=4294967295:=by have h1:=eD s a.toNat;have h2:=eD s (a.toNat+1);have h3:=eD s (a.toNat+2);have h4:=eD s (a.toNat+3);unfold eM fA;rw[au ⟨h0,h⟩];simp only[ah];omega
theorem aja {x y:Int}(hx:0<=x/\x<=65535)(hy:0<=y/\y<=4294967295):ar (toNat (ie (ar (x*2^(tU 32)))|||ie y))=x*4294967296+y:=by have e:(2:Int)^(tU 32)=4294967296:=rfl;obtain⟨x,rfl⟩:=aQ hx.1;obtain⟨y,rfl⟩:=aQ hy.1;rw[e,al (n:=(x:Int)*4294967296),show(x:Int)*4294967296=((2^32*x:Nat):Int) by omega,IC x 32 y];omega
theorem EO {l:aw α}{n:Int}(h0:0<=n:=by omega)(h1:n<=(l.length:Int):=by omega):sub l 0 n=some (l.take n.toNat):=by unfold sub;rw[zip];simp
theorem EN {l:aw α}(k:Nat)(h:k<=l.length)(ha:a=(k:Int)):sub l a (l.length:Int)=some (l.drop k):=by unfold sub;rw[zip];subst ha;simp
theorem ad5 {l:aw α}(k:Nat){n:Int}(ha:a=(k:Int))(h0:a<=n:=by omega)(h1:n<=(l.length:Int):=by omega):sub l a n=some ((l.take n.toNat).drop k):=by unfold sub;rw[zip];subst ha;simp
def zZ (s:Bytes):Bytes×Bool:=bif decide ((s.length:Int)<4) then([],false) else bif EV (s.take ((s.length:Int)-4).toNat)==s then(s.take ((s.length:Int)-4).toNat,true) else([],false)
theorem abl (s:Bytes)(h:s.length<=10^9):yw s=some (zZ s):=by unfold yw zZ;rw[al (n:=(s.length:Int)-4)];by_cases h4:(s.length:Int)<4;rw[au (show(s.length:Int)-4<0 by omega),au h4];rfl;rw[aq (show¬(s.length:Int)-4<0 by omega),aq h4,EO];simp only[af,ab,adw _ (show(s.take ((s.length:Int)-4).toNat).length<=10^9 by rw[aV];omega)];cases EV (s.take ((s.length:Int)-4).toNat)==s<;>rfl
def ah7:Tv:=(0,0,0,0,([]:Bytes))
def HK (s:Bytes)(a:Int):Int:=dc s a*4294967296+eM s (a+2)
def KV (s:Bytes):Tv:=(HK s 0,HK s 6,dc s 14,dc s 16,s.drop 18)
def BH (s:Bytes):Tv:=(HK s 0,HK s 6, -1,dc s 12,s.drop 14)
def gS (s:Bytes):Tv×Bool:=bif decide ((s.length:Int)<18) then(ah7,false) else
 bif dc s 12==33024 then(bif uc (KV s) then(KV s,true) else(ah7,false)) else bif uc (BH s) then(BH s,true) else(ah7,false)
theorem JH (s:Bytes)(h:s.length<=10^9):uk s=some (gS s):=by
 unfold uk gS;by_cases h4:(s.length:Int)<14;rw[au h4,au (show(s.length:Int)<18 by omega)];rfl;rw[aq h4];simp only[af,xQ s _ h,xR s _ h,ab];rw[nX,nX,EN (l:=s) 14 (by omega) (show(14:Int)=((14:Nat):Int) from rfl),ab];rw[aja (ON (s:=s) (a:=0)) (Jo (s:=s) (a:=2)),aja (ON (s:=s) (a:=6)) (Jo (s:=s) (a:=8))];simp only[ab,Sj];rw[show((dc s 0*4294967296+eM s 2,dc s 6*4294967296+eM s 8, -1,dc s 12,s.drop 14):Tv)=BH s from rfl];by_cases h8:(s.length:Int)<18;have hB:uc (BH s)=false:=by
  unfold uc BH;have:cS ((s.drop 14).length:Int) 46 400=false:=by rw[Bool.eq_false_iff,ne_eq,aX,aL];omega
  simp only[this,ft]
 rw[au h8,aq (show¬(s.length:Int)>=18 by omega),hB];cases dc s 12==33024<;>rfl;rw[aq h8,au (show(s.length:Int)>=18 by omega),EN (l:=s) 18 (by omega) (show(18:Int)=((18:Nat):Int) from rfl)];simp only[ab];rw[show((dc s 0*4294967296+eM s 2,dc s 6*4294967296+eM s 8,dc s 14,dc s 16,s.drop 18):Tv)=KV s from rfl];cases dc s 12==33024<;>cases uc (KV s)<;>cases uc (BH s)<;>rfl
def ip0:Ip:=(0,0,0,0,0,0,([]:Bytes))
def Iu (s:Bytes):Ip:=((bV s 1:Int),dc s 4,(bV s 8:Int),(bV s 9:Int),eM s 12,eM s 16,(s.take (dc s 2).toNat).drop 20)
def pM (s:Bytes):Ip×Bool:=bif decide ((s.length:Int)<20)||(decide (dc s 2<20)||decide (dc s 2>(s.length:Int))) then(ip0,false) else
 bif (ZI (Iu s)).2&&((ZI (Iu s)).1==s.take (dc s 2).toNat) then(Iu s,true) else(ip0,false)
theorem Xy (s:Bytes)(h:s.length<=10^9):AH s=some (pM s):=by
 unfold AH pM;simp only[xQ s _ h,xR s _ h,ab];by_cases h1:(s.length:Int)<20;rw[au h1];rfl;by_cases h2:dc s 2<20;rw[aq h1,au h2];rfl;by_cases h3:dc s 2>(s.length:Int);rw[aq h1,aq h2,au h3];rfl;rw[aq h1,aq h2,aq h3];have b1:=uJ (s[1]'(by omega));have b8:=uJ (s[8]'(by omega));have b9:=uJ (s[9]'(by omega));have i1:idx s 1=some (s[1]'(by omega)):=bj (i:=1) (by omega);have i8:idx s 8=some (s[8]'(by omega)):=bj (i:=8) (by omega);have i9:idx s 9=some (s[9]'(by omega)):=bj (i:=9) (by omega);simp only[af,ab,cB,i1,i8,i9];rw[ad5 (l:=s) 20 (show(20:Int)=((20:Nat):Int) from rfl),EO,jt (n:=(s[1]'(by omega)).toNat),jt (n:=(s[8]'(by omega)).toNat),jt (n:=(s[9]'(by omega)).toNat)];have e:(((s[1]'(by omega)).toNat:Int),dc s 4,((s[8]'(by omega)).toNat:Int),((s[9]'(by omega)).toNat:Int),eM s 12,eM s 16,(s.take (dc s 2).toNat).drop 20)=Iu s:=by simp only[Iu,bV,cH (show 1<s.length by omega),cH (show 8<s.length by omega),cH (show 9<s.length by omega)]
 simp only[ab,e,aiR];cases (ZI (Iu s)).2<;>cases (ZI (Iu s)).1==s.take (dc s 2).toNat<;>rfl
def apd:fU:=(0,0,0,0,0,0,0,([]:Bytes))
def acu (k:Int)(s:Bytes):fU:=(k,dc s 0,dc s 2,eM s 4,eM s 8,(bV s 13:Int),dc s 14,s.drop 20)
def agt (k:Int)(s:Bytes):fU:=(k,dc s 0,dc s 2,0,0,0,0,s.drop 8)
def zN (a b k:Int)(s:Bytes):fU×Bool:=
 bif (k==6)&&decide ((s.length:Int)>=20) then(bif (Gm a b (acu k s)).2&&((Gm a b (acu k s)).1==s) then(acu k s,true) else(apd,false)) else
 bif (k==17)&&decide ((s.length:Int)>=8) then(bif (Gm a b (agt k s)).2&&((Gm a b (agt k s)).1==s) then(agt k s,true) else(apd,false)) else(apd,false)
theorem UO (a b k:Int)(s:Bytes)(h:s.length<=10^9):rh a b k s=some (zN a b k s):=by
 unfold rh zN;simp only[xQ s _ h,xR s _ h,ab];rw[show(aa (cond (k==6) (some (decide ((s.length:Int)>=20))) (some false)):(Bool->ay (fU×Bool))->ay (fU×Bool))=λK=>K ((k==6)&&decide ((s.length:Int)>=20)) from by funext K;cases k==6<;>rfl];rw[show(aa (cond (k==17) (some (decide ((s.length:Int)>=8))) (some false)):(Bool->ay (fU×Bool))->ay (fU×Bool))=λK=>K ((k==17)&&decide ((s.length:Int)>=8)) from by funext K;cases k==17<;>rfl];simp only;cases h1:(k==6)&&decide ((s.length:Int)>=20)with
 |true=>
  simp only[ae,aF]at h1;have bb:=uJ (s[13]'(by omega));have i:idx s 13=some (s[13]'(by omega)):=bj (i:=13) (by omega);have e:(k,dc s 0,dc s 2,eM s 4,eM s 8,((s[13]'(by omega)).toNat:Int),dc s 14,s.drop 20)=acu k s:=by simp only[acu,bV,cH (show 13<s.length by omega)]
  simp only[ah,i,ab];rw[EN (l:=s) 20 (by omega) (show(20:Int)=((20:Nat):Int) from rfl),jt (n:=(s[13]'(by omega)).toNat)];simp only[ab,e,F1];cases (Gm a b (acu k s)).2<;>cases (Gm a b (acu k s)).1==s<;>rfl
 |false=>simp only[af];cases h2:(k==17)&&decide ((s.length:Int)>=8)with|false=>rfl|true=>simp only[ae,aF]at h2;rw[EN (l:=s) 8 (by omega) (show(8:Int)=((8:Nat):Int) from rfl)];simp only[ah,ab,show((k,dc s 0,dc s 2,0,0,0,0,s.drop 8):fU)=agt k s from rfl,F1];cases (Gm a b (agt k s)).2<;>cases (Gm a b (agt k s)).1==s<;>rfl
def pk0:aJ:=(0,0,0,0,0,0,0,0,0,0,0,0,0,0,0,([]:Bytes))
def kl (s:Bytes):aJ×Int:=
 let e:=gS s
 bif !e.2||(e.1.2.2.2.1 !=2048) then(pk0,2) else
 let i:=pM e.1.2.2.2.2
 bif !i.2 then(pk0,3) else
 let g:=zN i.1.2.2.2.2.1 i.1.2.2.2.2.2.1 i.1.2.2.2.1 i.1.2.2.2.2.2.2
 bif !g.2 then(pk0,4) else
 bif !dJ (e.1.1,e.1.2.1,e.1.2.2.1,i.1.1,i.1.2.1,i.1.2.2.1,i.1.2.2.2.2.1,i.1.2.2.2.2.2.1,g.1) then(pk0,5) else
 ((e.1.1,e.1.2.1,e.1.2.2.1,i.1.1,i.1.2.1,i.1.2.2.1,i.1.2.2.2.2.1,i.1.2.2.2.2.2.1,g.1),0)
theorem J8 (s:Bytes):(gS s).1.2.2.2.2.length<=s.length:=by
 unfold gS;cases decide ((s.length:Int)<18);case true=>simp[ah7]
 cases dc s 12==33024<;>cases uc (KV s)<;>cases uc (BH s)<;>simp[ah7,KV,BH]
theorem Yn (s:Bytes):(pM s).1.2.2.2.2.2.2.length<=s.length:=by
 unfold pM;cases decide ((s.length:Int)<20)||(decide (dc s 2<20)||decide (dc s 2>(s.length:Int)));case true=>simp[ip0]
 cases (ZI (Iu s)).2&&((ZI (Iu s)).1==s.take (dc s 2).toNat)with|false=>simp[ip0]|true=>simp[Iu];omega
theorem G4 (s:Bytes)(h:s.length<=10^9):ja s=some (kl s):=by
 have h1:=J8 s;unfold ja kl;rw[JH s h,ab];generalize gS s=e at h1⊢;have h2:=Yn e.1.2.2.2.2;simp only;cases e.2;rfl;cases e.1.2.2.2.1 !=2048;case true=>rfl
 simp only[aj,af,ab,cB,Xy _ (show e.1.2.2.2.2.length<=10^9 by omega)];generalize pM e.1.2.2.2.2=i at h2⊢;cases i.2;rfl;simp only[aj,af,ab,UO _ _ _ _ (show i.1.2.2.2.2.2.2.length<=10^9 by omega)];generalize zN i.1.2.2.2.2.1 i.1.2.2.2.2.2.1 i.1.2.2.2.1 i.1.2.2.2.2.2.2=g;cases g.2;rfl;simp only[aj,af,ab,mx];cases dJ (e.1.1,e.1.2.1,e.1.2.2.1,i.1.1,i.1.2.1,i.1.2.2.1,i.1.2.2.2.2.1,i.1.2.2.2.2.2.1,g.1)<;>rfl
def gv (s:Bytes):aJ×Int:=
 let c:=zZ s
 bif !c.2 then(pk0,1) else
 let r:=kl c.1
 bif r.2 !=0 then(pk0,r.2) else
 bif !eJ r.1 then(pk0,5) else(r.1,0)
theorem aae (s:Bytes):(zZ s).1.length<=s.length:=by
 unfold zZ;cases decide ((s.length:Int)<4);case true=>simp
 cases EV (s.take ((s.length:Int)-4).toNat)==s with|false=>simp|true=>simp;omega
theorem Lc (s:Bytes)(h:s.length<=10^9):ou s=some (gv s):=by
 have h1:=aae s;unfold ou gv;rw[abl s h,ab];generalize zZ s=c at h1⊢;simp only;cases c.2;rfl;simp only[aj,af,ab,G4 _ (show c.1.length<=10^9 by omega)];generalize kl c.1=r;cases r.2 !=0;case true=>rfl
 simp only[af,ab,xS];cases eJ r.1<;>rfl
theorem gB (a:bN)(h:a.length<=1073741824:=by omega):dB a=some a:=by simp only[dB,gZ];rw[aO (by simpa using h)];rfl
theorem Eu (a:bN)(h:a.length<=1073741824:=by omega):nj a=some a:=by simp only[nj];rw[aO (by simpa using h)];rfl
theorem mw (l:bN)(h:l.length<=10^9:=by omega):gZ l=some l:=by simp only[gZ,lS h,ch]
theorem od (f:Filter)(h:f.2.2.length<=10^9):fy f=some f:=by simp only[fy,kV _ h,ab]
theorem Cf (f:Filter)(h:f.2.2.length<=10^9):xt f=some f:=by simp only[xt,lS h,ch]
theorem Ae (l:aw Stream)(h:l.length<=10^9:=by omega):lv l=some l:=by simp only[lv,lS h,ch]
theorem Q5 (t:aw Slot)(h:t.length<=10^9):wV t=some t:=by simp only[wV,lS h,ch]
theorem O8 (s:tL)(h:s.2.length<=10^9):uV s=some s:=by simp only[uV,kV _ h,ab]
theorem Q4 (s:df)(h1:s.1.length<=10^9)(h2:s.2.1.length<=10^9)(h3:s.2.2.2.length<=10^9):rq s=some s:=by simp only[rq,lS h1,Q5 _ h2,O8 _ h3,ab,ch]
theorem Rm (t:aw Slot)(h:t.length<=10^9):Bc t=some t:=by simp only[Bc,lS h,ch]
theorem HR (s:df)(h1:s.1.length<=10^9)(h2:s.2.1.length<=10^9)(h3:s.2.2.2.length<=10^9):Be s=some s:=by simp only[Be,lS h1,Rm _ h2,lS h3,ab,ch]
theorem agx (l:aw pa)(i:Nat)(hi:i<l.length):l.take i++[(l[i].1,l[i].2.1,l[i].2.2)]=l.take (i+1):=(bn hi).symm
theorem JD (l:aw pa)(h:l.length<=10^9)(hx:∀x∈l,x.2.2.length<=10^9):ur l=some l:=by unfold ur;refine(dC (λi=>(l.take i,(i:Int))) l.length (by omega) (λi nx hi=>?_) (λnx=>?_));simp only[ta];rw[iU,bj hi,al];simp only[ah,ab,kV _ (hx _ (aI hi))];rw[aO (by simp;omega),agx l i hi];rfl;simp only[ta];rw[cz,cO];rfl
structure akV (t:dU):Prop where
 p:t.2.1.2.2.2.length<=10^9
 w:t.2.2.1.length<=10^9
 x:∀x∈t.2.2.1,x.2.2.length<=10^9
theorem Iq (t:dU)(z:akV t):rY t=some t:=by simp only[rY,vJ _ z.p,JD _ z.w z.x,ab]
theorem aqZ (z:dh 1000000000 dk h):akV h.2.2.1:=⟨z.2.2.1.2.1.2.2.2.1,z.2.2.1.2.2.1.1,λx hx=>(z.2.2.1.2.2.1.2 x hx).2.2.1⟩
theorem jI (h:Host)(z:dh 1000000000 dk h):gU h=some h:=by have hp:h.2.2.2.2.1.length<=10^9:=z.2.2.2.2.1.1;have hm:h.1.length<=10^9:=z.1.1;unfold gU;simp only[gB _ (show h.1.length<=1073741824 by omega),wU,lS z.2.1.1,Iq _ (aqZ z),lS z.2.2.2.1.1,ab,ch];refine(dC (λi=>((i:Int),h.1,h.2.1,h.2.2.1,h.2.2.2.1,h.2.2.2.2.1.take i,h.2.2.2.2.2)) h.2.2.2.2.1.length (by omega) (λi nx hi=>?_) (λnx=>?_));simp only[sZ];rw[iU,bj hi,al];simp only[ah,ab,vJ _ (z.2.2.2.2.1.2 _ (aI hi)).2.2.2.1];rw[aO (by simp;omega),<-bn hi];rfl;simp only[sZ];rw[cz,cO];simp only[af,lS z.2.2.2.2.2.1.1,lS z.2.2.2.2.2.2.1.1,od _ z.2.2.2.2.2.2.2.1.2.2.1,Q4 _ z.2.2.2.2.2.2.2.2.1.1.1 z.2.2.2.2.2.2.2.2.1.2.1.1 z.2.2.2.2.2.2.2.2.1.2.2.2.1,Ae _ z.2.2.2.2.2.2.2.2.2.1.1,mw _ z.2.2.2.2.2.2.2.2.2.2.2.1.1,kV _ z.2.2.2.2.2.2.2.2.2.2.2.2.1.1,kV _ z.2.2.2.2.2.2.2.2.2.2.2.2.2.1.1,ab,ch]
theorem ac3:∀l:aw pa,(bA l).length<=Rt (.sl kU) l
 |[]=>by simp[bA]
 |x::l=>by have:=ac3 l;simp only[bA,Rt,List.flatMap_cons,ai,da,fi,ba]at this⊢;omega
def atF (f:IS)(s:Stream):Bool:=decide (s.1=f)
def agN (l:aw Stream)(f:IS):Int:=match l.findIdx? (atF f)with|some i=>(i:Int)|none=> -1
theorem ai1 (l:aw Stream)(f:IS)(h:l.length<=10^9):sQ l f=some (agN l f):=by
 unfold sQ agN;rw[GO (p:=atF f) (hit:=λi=>some i) (fin:=some (-1)) l (by omega) (λi hi nx=>?hs) (λnx=>?hf)]
 case hs=>
  simp only[nM]
  rw[iU,bj hi,al]
  simp only[ah,ab,NF,atF];rfl
 case hf=>
  simp only[nM]
  rw[cz];rfl
 cases l.findIdx? (atF f)<;>rfl
def acN:Stream:=((0,0,0,0,0),0,([]:Bytes),false)
def body (p:aJ):Bytes:=p.2.2.2.2.2.2.2.2.2.2.2.2.2.2.2
def udp (p:aJ):Bytes:=cj ((body p).length:Int)++body p
def Hn (p:aJ)(b:Int):Bool:=ar (toNat (ie p.2.2.2.2.2.2.2.2.2.2.2.2.2.1&&&ie b)) !=0
def zY (s:Stream)(p:aJ):Int:=(s.2.1-p.2.2.2.2.2.2.2.2.2.2.2.1)%4294967296
def apl (s:Stream)(p:aJ):Stream:=(s.1,(s.2.1+((body p).length:Int)-zY s p)%4294967296,s.2.2.1++(body p).drop (zY s p).toNat,Hn p 1)
def Fz (l:aw Stream)(p:aJ):aw Stream:=
 bif !dJ p then l else
 match l.findIdx? (atF (nk p))with
 |none=>
  bif p.2.2.2.2.2.2.2.2.1==17 then l++[(nk p,0,udp p,false)] else
  bif Hn p 2 then l++[(nk p,tmod (ar (p.2.2.2.2.2.2.2.2.2.2.2.1+1)) 4294967296,([]:Bytes),false)] else l
 |some i=>
  bif p.2.2.2.2.2.2.2.2.1==17 then l.set i ((l.getD i acN).1,(l.getD i acN).2.1,(l.getD i acN).2.2.1++udp p,(l.getD i acN).2.2.2) else
  bif Hn p 2 then l else
  bif (l.getD i acN).2.2.2||Hn p 4 then l else
  bif decide (zY (l.getD i acN) p<=((body p).length:Int)) then l.set i (apl (l.getD i acN) p) else l
theorem ahg (s:Stream)(p:aJ):0<=zY s p/\zY s p<4294967296:=by unfold zY;omega
theorem aoP (x:Int):ar (toNat (ie x&&&ie 4294967295))=x%4294967296:=by have:=Fl x 32;rw[show((2:Int)^32-1)=4294967295 from rfl,show((2:Int)^32)=4294967296 from rfl]at this;rw[this,al]
theorem ani (x:Int):ar x%4294967296=x%4294967296:=by have:=D8 x 32;rwa[show((2:Int)^32)=4294967296 from rfl]at this
theorem Vn (l:aw α)(x y:α):(l++[x]).set l.length y=l++[y]:=by rw[List.set_append_right _ _ (bh _),jg,List.set_cons_zero]
theorem alo {l:aw α}(h:i<l.length)(x:α):idx (l.set i x) (i:Int)=some x:=by rw[Ej,dA h]
theorem JB (l:aw α)(x:α):idx (l++[x]) (l.length:Int)=some x:=by rw[Ej,bz (bh _),jg];rfl
theorem V2 (h:dJ p=true):(body p).length<=320:=EP h
theorem UJ (l:aw Stream)(p:aJ)(h:dh 900000000 (.sl fL) l):AE l p=some (Fz l p):=by
 have hl:l.length<=900000000:=h.1;unfold AE Fz;simp only[Ae l,mx,ab,O9,ai1 l _ (show l.length<=10^9 by omega),lH];cases hs:dJ p;rfl;have hb:=V2 hs;have hw:=bQ ((body p).length:Int);simp only[aj,af];rw[show p.2.2.2.2.2.2.2.2.2.2.2.2.2.2.2=body p from rfl];cases hf:l.findIdx? (atF (nk p))with
 |none=>
  have e1:agN l (nk p)= -1:=by rw[agN,hf]
  simp only[e1,show decide ((-1:Int)<0)=true from rfl,ah];cases p.2.2.2.2.2.2.2.2.1==17 with|true=>simp only[ah];rw[aO (by simp;omega),JB,ab];simp only;rw[aO,aO (by simp only[ai,ed];omega),ab,ax];simp only[ab,JB,Vn,ch];rfl|false=>simp only[af];rw[show(ar (toNat (ie p.2.2.2.2.2.2.2.2.2.2.2.2.2.1&&&ie 2)) !=0)=Hn p 2 from rfl];cases Hn p 2 with|true=>simp only[ah];rw[nX,aO (by simp;omega)]|false=>rfl
 |some i=>
  obtain⟨hi,_⟩:=List.findIdx?_eq_some_iff_getElem.1 hf;have hd:(l[i].2.2.1).length<=900000000:=(h.2 _ (aI hi)).2.2.1;have e1:agN l (nk p)=(i:Int):=by rw[agN,hf]
  simp only[e1,aq (show¬(i:Int)<0 by omega),af,bj hi,ab,cH hi,ax];cases p.2.2.2.2.2.2.2.2.1==17 with
  |true=>simp only[ah];rw[aO,aO (by simp only[ai];omega)];rfl
  |false=>
   simp only[af];rw[show(ar (toNat (ie p.2.2.2.2.2.2.2.2.2.2.2.2.2.1&&&ie 2)) !=0)=Hn p 2 from rfl,show(ar (toNat (ie p.2.2.2.2.2.2.2.2.2.2.2.2.2.1&&&ie 4)) !=0)=Hn p 4 from rfl,show(ar (toNat (ie p.2.2.2.2.2.2.2.2.2.2.2.2.2.1&&&ie 1)) !=0)=Hn p 1 from rfl];cases Hn p 2;case true=>rfl
   simp only[af];rw[show(aa (cond l[i].2.2.2 (some true) (some (Hn p 4))):(Bool->ay (aw Stream))->ay (aw Stream))=λK=>K (l[i].2.2.2||Hn p 4) from by funext K;cases l[i].2.2.2<;>rfl];simp only;cases l[i].2.2.2||Hn p 4;case true=>rfl
   simp only[af,Ls _ 4294967296,ab,ani];rw[show(l[i].2.1-p.2.2.2.2.2.2.2.2.2.2.2.1)%4294967296=zY l[i] p from rfl];have ha:=ahg l[i] p;by_cases hq:zY l[i] p<=((body p).length:Int)
   rw[au hq,EN (l:=body p) (zY l[i] p).toNat (by omega) (by omega)];simp only[ah,ab];rw[aO (by rw[aL];omega)];simp only[alo hi,ab,List.set_set];refine congrArg some (congrArg (l.set i) ?_);simp only[apl];rw[show(ar (l[i].2.1+((body p).length:Int))-zY l[i] p)%4294967296=(l[i].2.1+((body p).length:Int)-zY l[i] p)%4294967296 from by rw[Int.sub_emod,ani,<-Int.sub_emod]];rw[aq hq];rfl
theorem Uc {l:aw Stream}(h:dh n (.sl fL) l):dh (n+322) (.sl fL) (Fz l p):=by
 have h':dh (n+322) (.sl fL) l:=h.mono;unfold Fz;cases hs:dJ p;exact h';have hb:=V2 hs;have hw:=bQ ((body p).length:Int);have hu:(udp p).length<=322:=by simp only[udp,ai];omega
 simp only[aj,af];have app:∀x:Stream,x.2.2.1.length<=n+322->dh (n+322) (.sl fL) (l++[x]):=by intro x hx;refine⟨?_,λy hy=>?_⟩;have:l.length<=n:=h.1;simp only[ai,bf];omega;rcases az.1 hy with g|g;exact h'.2 y g;rw[bF.1 g];exact⟨⟨cy,cy,cy,cy,cy⟩,cy,hx,cy⟩
 have put:∀(i:Nat)(x:Stream),x.2.2.1.length<=n+322->dh (n+322) (.sl fL) (l.set i x):=by intro i x hx;refine⟨?_,λy hy=>?_⟩;show(l.set i x).length<=_;rw[aB];exact h'.1;rcases dv hy with g|rfl;exact h'.2 y g;exact⟨⟨cy,cy,cy,cy,cy⟩,cy,hx,cy⟩
 split;cases p.2.2.2.2.2.2.2.2.1==17 with|true=>exact app _ (show(udp p).length<=_ by omega)|false=>cases Hn p 2 with|true=>exact app _ (cf _)|false=>exact h'
 ·rename_i i hf;obtain⟨hi,_⟩:=List.findIdx?_eq_some_iff_getElem.1 hf;have hd:(l[i].2.2.1).length<=n:=(h.2 _ (aI hi)).2.2.1;simp only[cH hi];cases p.2.2.2.2.2.2.2.2.1==17 with
  |true=>exact put _ _ (by simp only[ai];omega)
  |false=>
   cases Hn p 2;case true=>exact h'
   cases l[i].2.2.2||Hn p 4;case true=>exact h'
   cases decide (zY l[i] p<=((body p).length:Int))with|false=>exact h'|true=>exact put _ _ (by simp only[apl,ai,aL];omega)
end
end Go.Pu
