import Derived.Test.YtinkcmefgciifaaGreatDnData
import Derived.Test.YtinkcmefgciifaaGreatPure
namespace Go.Pu
open Go.Dn
open List (range)
open BitVec (toNat)
open Int (tdiv fdiv tmod)
set_option linter.unusedSimpArgs false
set_option linter.unusedVariables false
noncomputable section
variable {s t x:Bytes} {d:Int} {f:Int->aC Int} {a c i n o:Nat} {p:aM} {R X α σ:Type} {l:az aH} {m:cg}
/- Plain laws of the partial operations and of loops. -/
theorem al {n:Int}(h1: -9223372036854775808<=n:=by omega)(h2:n<=9223372036854775807:=by omega):ar n=n:=by simp only[ar,gX,IntKind.wrap,IntKind.bits,IntKind.signed];simp;omega
@[simp] theorem ab (a:α)(k:α->aC R):aa (some a) k=k a:=rfl
@[simp] theorem aly (k:α->aC R):aa none k=none:=rfl
@[simp] theorem E9 (c:Bool)(x y:α)(k:α->aC R):aa (cond c (some x) (some y)) k=k (cond c x y):=by cases c<;>rfl
theorem cb (c:Bool)(x y:α):cond c (some x) (some y)=some (cond c x y):=by cases c<;>rfl
theorem bf {k:aC R}(h:n<=1073741824:=by omega):room n k=k:=by simp[room,h]
theorem Ny (xs:az α)(i:Nat):idx xs (i:Int)=xs[i]?:=rfl
theorem bK {xs:az α}(h:i<xs.length):idx xs (i:Int)=some xs[i]:=by rw[Ny];exact aq h
def upK (step:Nat->σ->(σ->aC R)->aC R)(fin:σ->aC R)(N:Nat):Nat->Nat->σ->aC R
 |0,_,s=>fin s
 |n+1,i,s=>step i s (λs'=>upK step fin N n (i+1) s')
theorem JD {T:(X->aC R)->X->aC R}(N:Nat)(e:σ->Nat->X)(step:Nat->σ->(σ->aC R)->aC R)(fin:σ->aC R)(hs:∀i s nx,i<N->T nx (e s i)=step i s (λs'=>nx (e s' (i+1))))(hf:∀s nx,T nx (e s N)=fin s): ∀n i s,i<=N->N-i<n->bp T n (e s i)=upK step fin N (N-i) i s:=by
 intro n;induction n with
 |zero=>intro i s _ h;omega
 |succ n ih=>
  intro i s hi hn;rw[bp];rcases ca i N with iz|BC;rw[hs i s _ iz,show N-i=(N-(i+1))+1 by omega,upK];congr 1;funext s';exact ih (i+1) s' (by omega) (by omega);have:i=N:=by omega
  subst this;rw[hf,ni,upK]
def Ay (step:α->σ->(σ->aC R)->aC R)(fin:σ->aC R):az α->σ->aC R
 |[],s=>fin s
 |x::xs,s=>step x s (Ay step fin xs)
theorem BH {T:(X->aC R)->X->aC R}(xs:az α)(e:σ->Nat->X)(step:α->σ->(σ->aC R)->aC R)(fin:σ->aC R)(hs:∀i (h:i<xs.length) s nx,T nx (e s i)=step xs[i] s (λs'=>nx (e s' (i+1))))(hf:∀s nx,T nx (e s xs.length)=fin s): ∀n i s,i<=xs.length->xs.length-i<n->bp T n (e s i)=Ay step fin (xs.drop i) s:=by
 intro n;induction n with
 |zero=>intro i s _ h;omega
 |succ n ih=>
  intro i s hi hn;rw[bp];rcases ca i xs.length with iz|BC;rw[hs i iz s _,bV iz,Ay];congr 1;funext s';exact ih (i+1) s' (by omega) (by omega);have:i=xs.length:=by omega
  subst this;rw[hf,gQ,Ay]
def YL:(t:CT)->t.D->Nat
 | .int _,_=>0
 | .bool,_=>0
 | .str,s=>s.length
 | .sl e,xs=>xs.length+(xs.map (YL e)).sum
 | .pair a b,x=>YL a x.1+YL b x.2
def dC (n:Nat):(t:CT)->t.D->Prop
 | .int _,_=>True
 | .bool,_=>True
 | .str,s=>s.length<=n
 | .sl e,xs=>xs.length<=n/\∀x∈xs,dC n e x
 | .pair a b,x=>dC n a x.1/\dC n b x.2
theorem Pw (f:α->Nat):∀(xs:az α)(x:α),x∈xs->f x<=(xs.map f).sum
 |y::ys,x,h=>by rcases cD.1 h with rfl|h;simp;have:=Pw f ys x h;simp;omega
theorem NG:∀{t:CT}{x:t.D},YL t x<=n->dC n t x
 | .int _,_,_=>trivial
 | .bool,_,_=>trivial
 | .str,_,h=>h
 | .sl e,xs,h=>by simp only[YL]at h;exact⟨by omega,λx hx=>NG (by have:=Pw (YL e) xs x hx;omega)⟩
 | .pair a b,x,h=>by simp only[YL]at h;exact⟨NG (by omega),NG (by omega)⟩
theorem dC.mono {m:Nat}(h:n<=m:=by omega):∀{t:CT}{x:t.D},dC n t x->dC m t x
 | .int _,_,_=>trivial
 | .bool,_,_=>trivial
 | .str,_,k=>bH k h
 | .sl _,_,k=>⟨bH k.1 h,λx hx=>dC.mono h (k.2 x hx)⟩
 | .pair _ _,_,k=>⟨dC.mono h k.1,dC.mono h k.2⟩
def afB:(t:CT)->t.D->Prop
 | .int k,n=>k.min<=n/\n<=k.max
 | .bool,_=>True
 | .str,s=>s.length<=9223372036854775807
 | .sl e,xs=>xs.length<=9223372036854775807/\∀x∈xs,afB e x
 | .pair a b,x=>afB a x.1/\afB b x.2
def mQ (l n:Int):Int:=if n<=l then l-n else-1
def NH (f:α->Int->aC Int)(k0:Int->Int->aC R)(k1:Int->Int->Int->aC R)(v0:az α)(nx:Int×Int->aC R)(x:Int×Int):aC R:=
 cond (decide (x.2<((List.length v0:Int)))) (
  aa (idx v0 x.2) λx1=>
  aa (f x1 x.1) λr2=>
  cond (decide (r2<0)) (
   k1 r2 (-1) x.2) (
   nx (r2,ar (x.2+1)))) (
  k0 x.1 x.2)
noncomputable def Vh (f:α->Int->aC Int)(a0:az α)(a1:Int):aC Int:=
 cond (decide ((ar (a1-((List.length a0:Int))))<0)) (
  some (-1)) (
  bp (NH f (λy3 _=>some y3) (λ_ y6 _=>some y6) a0) fuel (ar (a1-((List.length a0:Int))),0))
theorem abz {f:α->Int->aC Int}{s:α->Nat}{a:az α}{l:Int}(h0:0<=l)(h1:l<=1048576)(hm:a.length<=9223372036854775807)(hf:∀x∈a,∀l:Int,0<=l->l<=1048576->∃r,f x l=some r/\((s x:Int)<=l->r=l-s x)/\(¬(s x:Int)<=l->r<0)):Vh f a l=some (mQ l ((a.length+(a.map s).sum:Nat):Int)):=by
 unfold Vh;have C9:=eR;rw[al];rcases Int.lt_or_le (l-a.length) 0 with asB|ady;rw[aw asB];simp only[ah,mQ];rw[kz];rw[dw];simp only[af];have key:=BH (T:=NH f (λy3 _=>some y3) (λ_ y6 _=>some y6) a) a (λ(q:Int) i=>(q,(i:Int))) (λx q k=>aa (f x q) λr=>cond (decide (r<0)) (some (-1)) (k r)) (λq=>some q) (λi hi q nx=>by simp only[NH];rw[lH];simp only[ah,bK hi,ab];rw[al];rfl) (λq nx=>by simp only[NH];rw[dw];rfl) fuel 0 (l-a.length) (by omega) (by omega);have e:((0:Nat):Int)=0:=rfl;rw[e,eI]at key;rw[key];have main:∀(b:az α)(q:Int),0<=q->q<=1048576->(∀x∈b,x∈a)->Ay (λx q k=>aa (f x q) λr=>cond (decide (r<0)) (some (-1)) (k r)) (λq=>some q) b q=some (mQ q ((b.map s).sum:Nat)):=by intro b;induction b with|nil=>intro q hq _ _;simp[Ay,mQ,hq]|cons x b ih=>intro q hq hq2 hb;obtain⟨r,hr,hr1,Q4⟩:=hf x (hb x (by simp)) q hq hq2;rw[Ay,hr,ab];by_cases hle:(s x:Int)<=q;have:=hr1 hle;subst this;rw[dw];simp only[af];rw[ih _ (by omega) (by omega) (λy hy=>hb y (by simp[hy]))];simp only[mQ,cS,gv];congr 1;split<;>split<;>omega;rw[aw (Q4 hle)];simp only[ah,mQ,cS,gv];rw[kz]
 rw[main a _ (by omega) (by omega) (λx h=>h)];simp only[mQ];congr 1;split<;>split<;>omega
def C0 (f:Int->aC Int)(n:Nat):Prop:=∀l:Int,0<=l->l<=1048576->f l=some (mQ l n)
theorem C0.nil:C0 (λl=>some l) 0:=λl h0 _=>by simp[mQ,h0]
theorem C0.len {m:Nat}(hn:n<=9223372036854775807){k:Int->aC Int}(h:C0 k m): C0 (λl=>cond (decide (ar (l-(n:Int))<0)) (some (-1)) (k (ar (l-(n:Int))))) (n+m):=by intro l h0 h1;simp only;rw[al];by_cases hl:l-(n:Int)<0;rw[aw hl];simp only[ah,mQ];rw[kz];rw[au hl];simp only[af];rw[h _ (by omega) (by omega)];simp only[mQ];congr 1;split<;>split<;>omega
theorem C0.sub {k:Int->aC Int}{m:Nat}(hf:C0 f n)(h:C0 k m):C0 (λl=>aa (f l) λr=>cond (decide (r<0)) (some (-1)) (k r)) (n+m):=by
 intro l h0 h1;simp only;rw[hf l h0 h1,ab];by_cases hl:(n:Int)<=l;have e:mQ l n=l-n:=by simp[mQ,hl]
 rw[e,dw];simp only[af];rw[h _ (by omega) (by omega)];simp only[mQ];congr 1;split<;>split<;>omega;have e:mQ l n= -1:=by simp[mQ,hl]
 rw[e];simp only[mQ];rw[kz];rfl
theorem C0.cast {m:Nat}(h:C0 f n)(e:n=m):C0 f m:=e▸h
theorem C0.list {f:α->Int->aC Int}{s:α->Nat}{a:az α}(hm:a.length<=9223372036854775807)(hf:∀x∈a,C0 (f x) (s x)):C0 (Vh f a) (a.length+(a.map s).sum):=λ_ h0 h1=>abz h0 h1 hm (λx hx l h0 h1=>⟨_,hf x hx l h0 h1,λh=>by simp[mQ,h],λh=>by simp[mQ,h]⟩)
theorem C0.flat (hn:n<=9223372036854775807):C0 (λl=>cond (decide (ar (l-(n:Int))<0)) (some (-1)) (some (ar (l-(n:Int))))) n:=(C0.len (n:=n) hn C0.nil).cast (by omega)
theorem C0.use (hf:C0 f n){l:Int}(h0:0<=l)(h1:l<=1048576){k:Int->aC Bool}(hk:(n:Int)<=l->k (l-n)=some true): (aa (f l) λr=>cond (decide (r<0)) (some true) (k r))=some true:=by
 rw[hf l h0 h1,ab];by_cases hl:(n:Int)<=l;have e:mQ l n=l-n:=by simp[mQ,hl]
 rw[e,dw];exact hk hl;have e:mQ l n= -1:=by simp[mQ,hl]
 rw[e];rfl
theorem IK {T:(Int->aC R)->Int->aC R}{fin hit:aC R}(p:α->Bool)(a:az α)(h:a.length<=1000000000000)(hs:∀i (hi:i<a.length) nx,T nx (i:Int)=cond (p a[i]) hit (nx ((i+1:Nat):Int)))(hf:∀nx,T nx (a.length:Int)=fin): bp T fuel 0=cond (a.any p) hit fin:=by
 have C9:=eR;have key:∀n i,i<=a.length->a.length-i<n->bp T n (i:Int)=cond ((a.drop i).any p) hit fin:=by
  intro n;induction n with
  |zero=>intro i _ h;omega
  |succ n ih=>
   intro i hi hn;rw[bp];rcases ca i a.length with iz|BC;rw[hs i iz,bV iz,List.any_cons];cases hq:p a[i]with|true=>rfl|false=>exact ih (i+1) (by omega) (by omega)
   have:i=a.length:=by omega
   subst this;rw[hf,gQ];rfl
 exact key fuel 0 (by omega) (by omega)
theorem th {T:(Int->aC R)->Int->aC R}{fin hit:aC R}(p:Nat->Bool)(N:Nat)(h:N<=1000000000000)(hs:∀i nx,i<N->T nx (i:Int)=cond (!(p i)) hit (nx ((i+1:Nat):Int)))(hf:∀nx,T nx (N:Int)=fin): bp T fuel 0=cond ((range N).all p) fin hit:=by
 have C9:=eR;have key:∀n i,i<=N->N-i<n->bp T n (i:Int)=cond ((List.range' i (N-i)).all p) fin hit:=by
  intro n;induction n with
  |zero=>intro i _ h;omega
  |succ n ih=>
   intro i hi hn;rw[bp];rcases ca i N with iz|BC;rw[hs i _ iz,show N-i=(N-(i+1))+1 by omega,List.range'_succ,cw];cases hq:p i with|false=>rfl|true=>exact ih (i+1) (by omega) (by omega)
   have:i=N:=by omega
   subst this;rw[hf,ni];rfl
 have:=key fuel 0 (by omega) (by omega);rw[Nat.sub_zero,<-List.range_eq_range']at this;exact this
theorem rj {T:(Int->aC R)->Int->aC R}{fin hit:aC R}(p:α->Bool)(a:az α)(h:a.length<=1000000000000)(hs:∀i (hi:i<a.length) nx,T nx (i:Int)=cond (!(p a[i])) hit (nx ((i+1:Nat):Int)))(hf:∀nx,T nx (a.length:Int)=fin): bp T fuel 0=cond (a.all p) fin hit:=by
 have:=IK (T:=T) (fin:=fin) (hit:=hit) (λx=> !(p x)) a h hs hf;rw[this];have e:a.any (λx=> !(p x))= !(a.all p):=by rw[dU];simp
 rw[e];cases a.all p<;>rfl
theorem fold_iter {T:(X->aC R)->X->aC R}(xs:az α)(e:σ->Nat->X)(g:σ->α->σ)(fin:σ->aC R)(h:xs.length<=1000000000000)(hs:∀i (hi:i<xs.length) s nx,T nx (e s i)=nx (e (g s xs[i]) (i+1)))(hf:∀s nx,T nx (e s xs.length)=fin s)(s:σ): bp T fuel (e s 0)=fin (xs.foldl g s):=by have C9:=eR;have key:=BH (T:=T) xs e (λx s k=>k (g s x)) fin hs hf fuel 0 s (by omega) (by omega);rw[key,eI];clear key hs hf h;induction xs generalizing s with|nil=>rfl|cons x xs ih=>rw[Ay,List.foldl_cons];exact ih _
theorem RE {T:(X->aC R)->X->aC R}{fin hit:aC R}(e:Nat->X)(p:Nat->Bool)(N:Nat)(h:N<=1000000000000)(hs:∀i nx,i<N->(∀j,j<i->p j=true)->T nx (e i)=cond (!(p i)) hit (nx (e (i+1))))(hf:(∀j,j<N->p j=true)->∀nx,T nx (e N)=fin): bp T fuel (e 0)=cond ((range N).all p) fin hit:=by
 have C9:=eR;have key:∀n i,i<=N->N-i<n->(∀j,j<i->p j=true)->bp T n (e i)=cond ((List.range' i (N-i)).all p) fin hit:=by
  intro n;induction n with
  |zero=>intro i _ h;omega
  |succ n ih=>
   intro i hi hn hp;rw[bp];rcases ca i N with iz|BC;rw[hs i _ iz hp,show N-i=(N-(i+1))+1 by omega,List.range'_succ,cw];cases hq:p i with|false=>rfl|true=>refine ih (i+1) (by omega) (by omega) λj hj=>?_;by_cases hji:j=i;rw[hji];exact hq;exact hp j (by omega)
   have:i=N:=by omega
   subst this;rw[hf hp,ni];rfl
 have:=key fuel 0 (by omega) (by omega) (λj hj=>absurd hj (by omega));rw[Nat.sub_zero,<-List.range_eq_range']at this;exact this
theorem GO {T:(Int->aC R)->Int->aC R}{fin:aC R}{hit:Int->aC R}(p:α->Bool)(a:az α)(h:a.length<=1000000000000)(hs:∀i (hi:i<a.length) nx,T nx (i:Int)=cond (p a[i]) (hit (i:Int)) (nx ((i+1:Nat):Int)))(hf:∀nx,T nx (a.length:Int)=fin): bp T fuel 0=(match a.findIdx? p with|some i=>hit (i:Int)|none=>fin):=by
 have C9:=eR;have key:∀n i,i<=a.length->a.length-i<n->bp T n (i:Int)=(match (a.drop i).findIdx? p with|some j=>hit ((i+j:Nat):Int)|none=>fin):=by
  intro n;induction n with
  |zero=>intro i _ h;omega
  |succ n ih=>
   intro i hi hn;rw[bp];rcases ca i a.length with iz|BC;rw[hs i iz,bV iz,List.findIdx?_cons];cases hq:p a[i]with|true=>rfl|false=>have:=ih (i+1) (by omega) (by omega);simp only[af];refine this.trans ?_;cases (a.drop (i+1)).findIdx? p with|none=>rfl|some j=>simp only[dL,bj,cy];congr 2;omega
   have:i=a.length:=by omega
   subst this;rw[hf,gQ];rfl
 have:=key fuel 0 (by omega) (by omega);refine this.trans ?_;rw[eI];cases a.findIdx? p with|none=>rfl|some j=>simp only[cP]
theorem cF (a b:Bool):(bif a then b else false)=(a&&b):=by cases a<;>rfl
theorem cT (a b:Bool):(bif a then true else b)=(a||b):=by cases a<;>rfl
theorem cN (a b:Bool):(bif a then false else b)=(!a&&b):=by cases a<;>rfl
def UU (g:α->σ->Except (aC R) σ)(fin:σ->aC R):az α->σ->aC R
 |[],s=>fin s
 |x::xs,s=>match g x s with| .error r=>r| .ok s'=>UU g fin xs s'
theorem JZ {T:(X->aC R)->X->aC R}(xs:az α)(e:σ->Nat->X)(Inv:Nat->σ->Prop)(g:α->σ->Except (aC R) σ)(fin:σ->aC R)(h:xs.length<=1000000000000)(hs:∀i (hi:i<xs.length) s nx,Inv i s->T nx (e s i)=match g xs[i] s with| .error r=>r| .ok s'=>nx (e s' (i+1)))(hn:∀i (hi:i<xs.length) s s',Inv i s->g xs[i] s=.ok s'->Inv (i+1) s')(hf:∀s nx,Inv xs.length s->T nx (e s xs.length)=fin s)(s:σ)(h0:Inv 0 s): bp T fuel (e s 0)=UU g fin xs s:=by
 have key:∀n i s,i<=xs.length->xs.length-i<n->Inv i s->bp T n (e s i)=UU g fin (xs.drop i) s:=by
  intro n;induction n with
  |zero=>intro i s _ h;omega
  |succ n ih=>
   intro i s hi Eb hI;rw[bp];rcases ca i xs.length with iz|BC;rw[hs i iz s _ hI,bV iz,UU];cases hg:g xs[i] s with|error r=>rfl|ok s'=>exact ih (i+1) s' (by omega) (by omega) (hn i iz s s' hI hg)
   have:i=xs.length:=by omega
   subst this;rw[hf s _ hI,gQ,UU]
 have C9:=eR;have:=key fuel 0 s (by omega) (by omega) h0;rwa[eI]at this
theorem ND (f:σ->α->σ)(fin:σ->aC R):∀(xs:az α)(s:σ),UU (λx s=> .ok (f s x)) fin xs s=fin (xs.foldl f s)
 |[],_=>rfl
 |x::xs,s=>by rw[UU];exact ND f fin xs (f s x)
theorem fe {T:(X->aC R)->X->aC R}{fin:aC R}(e:Nat->X)(N:Nat)(h:N<=1000000000000)(hs:∀i nx,i<N->T nx (e i)=nx (e (i+1)))(hf:∀nx,T nx (e N)=fin):bp T fuel (e 0)=fin:=by rw[RE (hit:=fin) (fin:=fin) e (λ_=>true) N h (λi nx hi _=>by rw[hs i nx hi];rfl) (λ_ nx=>hf nx)];cases (range N).all (λ_=>true)<;>rfl
theorem kT {l:az α}{k:aC R}(h:l.length<=10^9:=by omega):room (List.length ([]:az α)+l.length) k=k:=bf (by simp only[dg];omega)
def dD (a lo hi:Int):Bool:=decide (lo<=a)&&decide (a<=hi)
theorem aS {a lo hi:Int}:dD a lo hi=true↔lo<=a/\a<=hi:=by simp[dD]
theorem dR (a b c:Int):bh a b c=some (dD a b c):=by simp only[bh,cb,ab,dD];cases h:decide (a>=b)<;>rfl
theorem dE (a b c:Int):aK a b c=some (dD a b c):=dR a b c
theorem cO {l:az α}(h:i<l.length)(d:α):l.getD i d=l[i]:=by rw[bc,aq h];rfl
def QB (l:dA)(i:Nat):Bool:=dD (l.getD i 0) 0 4095&& !(decide (0<i)&&decide (l.getD i 0<=l.getD (i-1) 0))
def nB (f:Filter):Bool:=(range f.2.2.length).all (QB f.2.2)&&(dD f.1 0 281474976710654&&decide ((f.2.2.length:Int)<=8))
theorem EP (f:Filter)(h:f.2.2.length<=10^9):oe f=some (nB f):=by
 unfold oe;rw[th (hit:=some false) (fin:=some (dD f.1 0 281474976710654&&decide ((f.2.2.length:Int)<=8))) (QB f.2.2) f.2.2.length (by omega) (λi nx hi=>?hs) (λnx=>?hf)]
 case hs=>
  simp only[tK]
  rw[lH,bK hi,al (n:=(i:Int)+1)]
  simp only[ah,ab,dR,QB,cO hi]
  by_cases h0:0<i
  ·have e:ar ((i:Int)-1)=((i-1:Nat):Int):=by rw[al];omega
   have hp:i-1<f.2.2.length:=by omega
   rw[e,bK hp,aw (show(i:Int)>0 by omega),aw h0,cO hp]
   simp only[ah,ab,bC]
   cases dD f.2.2[i] 0 4095<;>cases decide (f.2.2[i]<=f.2.2[i-1])<;>rfl
  ·rw[au (show¬(i:Int)>0 by omega),au h0]
   simp only[af,eY]
   cases dD f.2.2[i] 0 4095<;>rfl
 case hf=>
  simp only[tK]
  rw[dw]
  simp only[af,dR,ab,E9,cb]
  cases dD f.1 0 281474976710654<;>rfl
 unfold nB;cases (range f.2.2.length).all (QB f.2.2)<;>rfl
theorem O7 (f:Filter)(h:f.2.2.length<=10^9):uB f=some (nB f):=by
 unfold uB;rw[th (hit:=some false) (fin:=some (dD f.1 0 281474976710654&&decide ((f.2.2.length:Int)<=8))) (QB f.2.2) f.2.2.length (by omega) (λi nx hi=>?hs) (λnx=>?hf)]
 case hs=>
  simp only[tq]
  rw[lH,bK hi,al (n:=(i:Int)+1)]
  simp only[ah,ab,dE,QB,cO hi]
  by_cases h0:0<i
  ·have e:ar ((i:Int)-1)=((i-1:Nat):Int):=by rw[al];omega
   have hp:i-1<f.2.2.length:=by omega
   rw[e,bK hp,aw (show(i:Int)>0 by omega),aw h0,cO hp]
   simp only[ah,ab,bC,ge_iff_le]
   cases dD f.2.2[i] 0 4095<;>cases decide (f.2.2[i]<=f.2.2[i-1])<;>rfl
  ·rw[au (show¬(i:Int)>0 by omega),au h0]
   simp only[af,eY]
   cases dD f.2.2[i] 0 4095<;>rfl
 case hf=>
  simp only[tq]
  rw[dw]
  simp only[af,dE,ab,E9,cb]
  cases dD f.1 0 281474976710654<;>rfl
 unfold nB;cases (range f.2.2.length).all (QB f.2.2)<;>rfl
def Cd (r:kc):Bool:=(mm r).getD false
theorem Qj (r:kc):mm r=some (Cd r):=by
 have:∃b,mm r=some b:=by simp only[mm,dR,ab,cb];exact⟨_,rfl⟩
 obtain⟨b,hb⟩:=this;simp[Cd,hb]
theorem ahq (r:kc):CH r=some (Cd r):=Qj r
theorem XR {r:kc}(h:Cd r=true):r.2.2.2.2.2.2.2.1=0\/r.2.2.2.2.2.2.2.2=0:=by
 by_cases h0:r.2.2.2.2.2.2.2.1=0;exact .inl h0;by_cases h1:r.2.2.2.2.2.2.2.2=0;exact .inr h1;exfalso;have e0:(r.2.2.2.2.2.2.2.1==0)=false:=by simp[h0]
 have e1:(r.2.2.2.2.2.2.2.2==0)=false:=by simp[h1]
 revert h;unfold Cd;simp only[mm,dR,ab,cb,e0,e1,af,gR];have z:∀c:Bool,(bif c then false else false)=false:=by intro c;cases c<;>rfl
 simp only[z];intro h;cases h
def yh (l:az kc):Bool:=l.all Cd&&decide ((l.length:Int)<=12)
theorem Ha (l:az kc)(h:l.length<=10^9):xD l=some (yh l):=by
 unfold xD;rw[rj (hit:=some false) (fin:=some (decide ((l.length:Int)<=12))) Cd l (by omega) (λi hi nx=>?hs) (λnx=>?hf)]
 case hs=>
  simp only[vu]
  rw[lH,bK hi,al]
  simp only[ah,ab,Qj];rfl
 case hf=>
  simp only[vu]
  rw[dw];rfl
 unfold yh;cases l.all Cd<;>rfl
theorem Sh (l:az kc)(h:l.length<=10^9):AW l=some (yh l):=by rw[<-Ha l h];rfl
theorem arR (x:Int):((BitVec.ofInt 64 x&&&BitVec.ofInt 64 7).toNat:Int)=x%8:=by
 have h7:(BitVec.ofInt 64 7).toNat=2^3-1:=by decide
 rw[BitVec.toNat_and,h7,Nat.and_two_pow_sub_one_eq_mod];simp only[BitVec.toNat_ofInt];omega
theorem anw (x:Int):((gM x&&&gM 7).toNat:Int)=x%8:=arR x
theorem aj0 (x:Int):jZ x 8=some (x%8):=by unfold jZ;rw[kz,Int.tmod_eq_emod];split;rw[dw];simp;rw[aw (by simp;omega),al (by simp;omega) (by simp;omega)];simp
def DL (f:iU):Int:=(f.1%8+f.2.1%8+f.2.2.1%8+f.2.2.2.1%8+f.2.2.2.2%8)%8
theorem OW (f:iU):0<=DL f/\DL f<8:=by unfold DL;omega
theorem aiW {n:Int}(h:0<=n:=by omega):tmod n 8=n%8:=cZ h
theorem X6 (f:iU):uQ f=some (DL f):=by
 unfold uQ;generalize hL:[f.1,f.2.1,f.2.2.1,f.2.2.2.1,f.2.2.2.2]=L;have hlen:L.length=5:=by rw[<-hL];rfl
 have C9:=eR;have key:=BH (R:=Int) (T:=pJ (λ(y2:Int) (y3:Int)=>if 8=0 then none else(some (tmod y2 8))) L) L (λ(s:Int) i=>(s,(i:Int))) (λx s k=>k (ar (s+ar (x%8)))) (λs=>some (tmod s 8)) (λi hi s nx=>by simp only[pJ];rw[lH,bK hi,al (n:=(i:Int)+1)];simp only[ah,ab];rw[anw L[i]];rfl) (λs nx=>by simp only[pJ];rw[dw];rfl) fuel 0 0 (by omega) (by omega);refine key.trans ?_;rw[<-hL];simp only[eI,Ay];rw[al (n:=f.1%8),al (n:=f.2.1%8),al (n:=f.2.2.1%8),al (n:=f.2.2.2.1%8),al (n:=f.2.2.2.2%8)];rw[al (n:=0+f.1%8),al (n:=0+f.1%8+_),al (n:=0+f.1%8+_+_),al (n:=0+f.1%8+_+_+_),al (n:=0+f.1%8+_+_+_+_)];rw[aiW,DL,Int.zero_add]
theorem ahj (f:iU):yJ f=some (DL f):=by
 unfold yJ;generalize hL:[f.1,f.2.1,f.2.2.1,f.2.2.2.1,f.2.2.2.2]=L;have hlen:L.length=5:=by rw[<-hL];rfl
 have C9:=eR;have key:=BH (R:=Int) (T:=oY (λ(y2:Int) (y3:Int)=>if 8=0 then none else(some (tmod y2 8))) L (L.length:Int)) L (λ(s:Int) i=>(s,(i:Int))) (λx s k=>k (ar (s+(x%8)))) (λs=>some (tmod s 8)) (λi hi s nx=>by simp only[oY];rw[lH,bK hi,al (n:=(i:Int)+1)];simp only[ah,ab,aj0];rfl) (λs nx=>by simp only[oY];rw[dw];rfl) fuel 0 0 (by omega) (by omega);refine key.trans ?_;rw[<-hL];simp only[eI,Ay];rw[al (n:=0+f.1%8),al (n:=0+f.1%8+_),al (n:=0+f.1%8+_+_),al (n:=0+f.1%8+_+_+_),al (n:=0+f.1%8+_+_+_+_)];rw[aiW,DL,Int.zero_add]
def ir (t:az Slot)(i:Nat):Slot:=t.getD i (0,(0,0,0,0,0),0)
theorem yk {t:az Slot}(h:i<t.length):ir t i=t[i]:=cO h _
def mY (f:iU)(k:Nat):Nat:=((DL f).toNat+k)%8
theorem Hh (f:iU)(k:Nat):mY f k<8:=Nat.mod_lt _ (by omega)
theorem Yv (f:iU)(k:Nat)(h:k<8):tmod (ar (DL f+(k:Int))) 8=(mY f k:Int):=by have:=OW f;rw[al,aiW,mY];omega
def rf (s:Slot)(f:iU):Bool:=(s.1==1)&&decide (s.2.1=f)
theorem Ek (p q:iU):((p.1==q.1)&&((p.2.1==q.2.1)&&((p.2.2.1==q.2.2.1)&&((p.2.2.2.1==q.2.2.2.1)&&((p.2.2.2.2==q.2.2.2.2)&&true)))))=decide (p=q):=by obtain⟨a,b,c,d,e⟩:=p;obtain⟨a',b',c',d',e'⟩:=q;rw[dU];simp
def walk (t:az Slot)(f:iU):Nat->Nat->Int
 |0,_=> -1
 |n+1,k=>if(ir t (mY f k)).1=0 then-1 else if rf (ir t (mY f k)) f then(mY f k:Int) else walk t f n (k+1)
theorem Qf (t:az Slot)(f:iU)(ht:t.length=8):tV t f=some (walk t f 8 0):=by
 unfold tV;have C9:=eR
 have key:=JD (R:=Int) (T:=qX (λ(y6:Int)=>some (-1)) (λ(y7:Int) (y8:Int)=>some y7) 0 t f) 8 (λ(_:Unit) i=>(i:Int))
  (λi s k=>if(ir t (mY f i)).1=0 then some (-1) else if rf (ir t (mY f i)) f then some (mY f i:Int) else k s) (λ_=>some (-1))
  (λi s nx hi=>by
   have hw:mY f i<t.length:=by have:=Hh f i;omega
   simp only[qX,X6];rw[lH,al (n:=(i:Int)+1)];simp only[ah,ab,Yv f i hi,bK hw,yk hw,Ek,rf,cb,ab];rw[kz];by_cases h0:t[mY f i].1=0;simp[h0];have e0:(t[mY f i].1==0)=false:=by simp[h0]
   rw[e0,aI h0];cases (t[mY f i].1==1)<;>cases decide (t[mY f i].2.1=f)<;>rfl)
  (λs nx=>by simp only[qX];rfl)
  fuel 0 () (by omega) (by omega)
 refine key.trans ?_;have main:∀n i,upK (R:=Int) (λi (s:Unit) k=>if(ir t (mY f i)).1=0 then some (-1) else if rf (ir t (mY f i)) f then some (mY f i:Int) else k s) (λ_=>some (-1)) 8 n i ()=some (walk t f n i):=by intro n;induction n with|zero=>intro i;rfl|succ n ih=>intro i;rw[upK,walk];split;rfl;split;rfl;exact ih (i+1)
 exact main 8 0
def Aa (f:iU):az Slot->Int->Int
 |[],_=> -1
 |s::r,i=>if rf s f then i else Aa f r (i+1)
theorem WU (t:az Slot)(f:iU)(h:t.length<=10^9):zG t f=some (Aa f t 0):=by
 unfold zG;have C9:=eR;have key:∀n i,i<=t.length->t.length-i<n->bp (xc (λ(y3:Int)=>some (-1)) (λ(y4:Int) (y5:Int)=>some y4) 0 t ((List.length t:Int)) f) n (i:Int)=some (Aa f (t.drop i) i):=by
  intro n;induction n with
  |zero=>intro i _ h;omega
  |succ n ih=>
   intro i hi hn;rw[bp];simp only[xc];rcases ca i t.length with iz|BC;rw[lH,bK iz,bV iz,Aa,al];simp only[ah,ab,Ek,cb];have e:(bif t[i].1==1 then decide (t[i].2.1=f) else false)=rf t[i] f:=by unfold rf;cases (t[i].1==1)<;>rfl
   rw[e];cases rf t[i] f with|true=>rfl|false=>exact ih (i+1) (by omega) (by omega)
   have:i=t.length:=by omega
   subst this;rw[dw,gQ];rfl
 exact key fuel 0 (by omega) (by omega)
theorem ajK (f:iU):EB f=some ((range 8).map λk=>(mY f k:Int)):=by unfold EB;have C9:=eR;have key:=JD (R:=dA) (T:=uL (λ(y2:dA) (y3:Int)=>some y2) f) 8 (λ(_:Unit) i=>((range i).map (λk=>(mY f k:Int)),(i:Int))) (λ_ s k=>k s) (λ_=>some ((range 8).map λk=>(mY f k:Int))) (λi s nx hi=>by simp only[uL,ahj];rw[lH,al (n:=(i:Int)+1)];simp only[ah,ab,Yv f i hi];rw[kz,bf (by simp;omega),List.range_succ,cu];rfl) (λs nx=>by simp only[uL];rfl) fuel 0 () (by omega) (by omega);exact key
def clear (t:az Slot)(f:iU)(i:Nat):Nat->Nat->Bool
 |0,_=>true
 |n+1,k=>if mY f k=i then true else if(ir t (mY f k)).1=0 then false else clear t f i n (k+1)
theorem adD (k0:Int->aC R)(k1:Bool->Int->aC R)(hit fin:aC R)(h0:∀x,k0 x=fin)(h1:∀x,k1 false x=hit)(v2:Bool)(i:Nat)(v12:az Slot)(v13 v14:Int)(t:az Slot)(f:iU)(ht:t.length=8): bp (mx k0 k1 v2 (i:Int) v12 v13 v14 ((range 8).map λk=>(mY f k:Int)) (((range 8).map λk=>(mY f k:Int)).length:Int) t) fuel 0=cond (clear t f i 8 0) fin hit:=by
 have C9:=eR;have hl:((range 8).map λk=>(mY f k:Int)).length=8:=by simp
 have key:=JD (R:=R) (T:=mx k0 k1 v2 (i:Int) v12 v13 v14 ((range 8).map λk=>(mY f k:Int)) (((range 8).map λk=>(mY f k:Int)).length:Int) t) 8 (λ(_:Unit) i=>(i:Int))
  (λk s c=>if mY f k=i then fin else if(ir t (mY f k)).1=0 then hit else c s) (λ_=>fin)
  (λk s nx hk=>by
   have hw:mY f k<t.length:=by have:=Hh f k;omega
   simp only[mx];rw[lH,bK (show k<((range 8).map λk=>(mY f k:Int)).length by omega),al (n:=(k:Int)+1)];simp only[ah,ab,List.getElem_map,List.getElem_range,bK hw,yk hw,h0,h1];by_cases e1:mY f k=i;subst e1;simp;have:((mY f k:Int)==(i:Int))=false:=by simp;omega
   rw[this,aI e1];by_cases e2:t[mY f k].1=0;simp[e2];have:(t[mY f k].1==0)=false:=by simp[e2]
   rw[this,aI e2];rfl)
  (λs nx=>by simp only[mx];rw[dw];exact h0 _)
  fuel 0 () (by omega) (by omega)
 refine key.trans ?_;have main:∀n k,upK (R:=R) (λk (s:Unit) c=>if mY f k=i then fin else if(ir t (mY f k)).1=0 then hit else c s) (λ_=>fin) 8 n k ()=cond (clear t f i n k) fin hit:=by intro n;induction n with|zero=>intro k;rfl|succ n ih=>intro k;rw[upK,clear];split;rfl;split;rfl;exact ih (k+1)
 exact main 8 0
def V4:iU:=(0,0,0,0,0)
theorem V5 (p:iU):((p.1==0)&&((p.2.1==0)&&((p.2.2.1==0)&&((p.2.2.2.1==0)&&((p.2.2.2.2==0)&&true)))))=decide (p=V4):=Ek p V4
def S7 (s:Slot):Bool:=dD s.1 0 2&&dD s.2.2 0 3&&((s.1==1)||(s.2.2==0)&&decide (s.2.1=V4))
def pD (t:az Slot)(i:Nat):Bool:=S7 (ir t i)&&(!((ir t i).1==1)||(walk t (ir t i).2.1 8 0==(i:Int)))
def vS (t:az Slot)(i:Nat):Bool:=S7 (ir t i)&&(!((ir t i).1==1)||(Aa (ir t i).2.1 t 0==(i:Int))&&clear t (ir t i).2.1 i 8 0)
def om (t:az Slot):Bool:=(t.length==8)&&(range 8).all (pD t)
theorem LC (t:az Slot):tS t=some (om t):=by
 unfold tS om;by_cases ht:t.length=8
 ·have e:((t.length:Int) !=8)=false:=by rw[ht];rfl
  have e2:(t.length==8)=true:=by rw[ht];rfl
  rw[e,e2];simp only[af,bC];rw[th (hit:=some false) (fin:=some true) (pD t) 8 (by omega) (λi nx hi=>?hs) (λnx=>?hf)]
  case hs=>
   have hl:i<t.length:=by omega
   simp only[vw]
   rw[lH,bK hl,al]
   simp only[ah,ab,dR,cb,V5,Qf t _ ht,pD,yk hl,S7,bne]
   cases dD t[i].1 0 2<;>cases dD t[i].2.2 0 3<;>cases (t[i].1==1)<;>cases (t[i].2.2==0)<;>cases decide (t[i].2.1=V4)<;>first|rfl|(cases (walk t t[i].2.1 8 0==(i:Int))<;>rfl)
  case hf=>
   simp only[vw]
   rw[dw];rfl
  cases (range 8).all (pD t)<;>rfl
 have e:((t.length:Int) !=8)=true:=by simp;omega
 have e2:(t.length==8)=false:=by simp[ht]
 rw[e,e2];rfl
theorem aan (t:az Slot):tD t=some ((t.length==8)&&(range 8).all (vS t)):=by
 unfold tD;by_cases ht:t.length=8
 ·have e:((t.length:Int) !=8)=false:=by rw[ht];rfl
  have e2:(t.length==8)=true:=by rw[ht];rfl
  rw[e,e2];simp only[af,bC];rw[th (hit:=some false) (fin:=some true) (vS t) 8 (by omega) (λi nx hi=>?hs) (λnx=>?hf)]
  case hs=>
   have hl:i<t.length:=by omega
   simp only[vh]
   rw[lH,bK hl,al]
   simp only[ah,ab,dE,cb,V5,WU t _ (show t.length<=10^9 by omega),ajK,vS,yk hl,S7,bne]
   rw[adD (λ_=>nx ((i:Int)+1)) (λ(y:Bool) (_:Int)=>some y) (some false) (nx ((i:Int)+1)) (λ_=>rfl) (λ_=>rfl) _ _ _ _ _ _ _ ht]
   cases dD t[i].1 0 2<;>cases dD t[i].2.2 0 3<;>cases (t[i].1==1)<;>cases (t[i].2.2==0)<;>cases decide (t[i].2.1=V4)<;>first|rfl|(cases (Aa t[i].2.1 t 0==(i:Int))<;>first|rfl|(cases clear t t[i].2.1 i 8 0<;>rfl))
  case hf=>
   simp only[vh]
   rw[dw];rfl
  cases (range 8).all (vS t)<;>rfl
 have e:((t.length:Int) !=8)=true:=by simp;omega
 have e2:(t.length==8)=false:=by simp[ht]
 rw[e,e2];rfl
theorem Tn (t:az Slot)(f:iU)(i:Nat):∀n k,walk t f n k=(i:Int)->rf (ir t i) f=true/\clear t f i n k=true/\∃j,j<n/\mY f (k+j)=i
 |0,k,h=>by unfold walk at h;omega
 |n+1,k,h=>by
  unfold walk at h;unfold clear;by_cases h0:(ir t (mY f k)).1=0;rw[aJ h0]at h;omega;rw[aI h0]at h;by_cases h1:rf (ir t (mY f k)) f=true;rw[aJ h1]at h;have:mY f k=i:=by omega
  subst this;exact⟨h1,by simp,0,by omega,rfl⟩;rw[aI h1]at h;obtain⟨a,b,j,hj,e⟩:=Tn t f i n (k+1) h;refine⟨a,?_,j+1,by omega,by rw[<-e];congr 1;omega⟩;rw[aI h0,b];split<;>rfl
theorem acU (t:az Slot)(f:iU)(i:Nat)(hu:rf (ir t i) f=true)(akZ:∀j,j<8->rf (ir t j) f=true->j=i):∀n k,clear t f i n k=true->(∃j,j<n/\mY f (k+j)=i)->walk t f n k=(i:Int)
 |0,k,_,h=>by obtain⟨j,hj,_⟩:=h;omega
 |n+1,k,hc,⟨j,hj,e⟩=>by unfold walk;unfold clear at hc;by_cases h1:mY f k=i;rw[h1,aI,aJ hu];intro h0;unfold rf at hu;rw[h0]at hu;simp at hu;rw[aI h1]at hc;by_cases h0:(ir t (mY f k)).1=0;rw[aJ h0]at hc;cases hc;rw[aI h0]at hc;rw[aI h0,aI (λUq=>h1 (akZ _ (Hh f k) Uq))];refine acU t f i hu akZ n (k+1) hc ?_;cases j with|zero=>exact absurd e h1|succ j=>exact⟨j,by omega,by rw[<-e];congr 1;omega⟩
theorem akw (f:iU)(i:Nat)(hi:i<8):∃j,j<8/\mY f (0+j)=i:=by have:=OW f;refine⟨(i+8-(DL f).toNat)%8,by omega,?_⟩;unfold mY;omega
theorem FM (f:iU):∀(t:az Slot)(m:Nat),(∃j,j<t.length/\rf (ir t j) f=true)->∃j,j<t.length/\rf (ir t j) f=true/\Aa f t m=((m+j:Nat):Int)
 |[],_,h=>by obtain⟨j,hj,_⟩:=h;simp at hj
 |s::r,m,⟨j,hj,e⟩=>by
  unfold Aa;by_cases hs:rf s f=true;rw[aJ hs];exact⟨0,by simp,by simpa[ir]using hs,by simp⟩;rw[aI hs];cases j with
  |zero=>exact absurd (by simpa[ir]using e) hs
  |succ j=>
   obtain⟨j',h1,h2,h3⟩:=FM f r (m+1) ⟨j,by simpa using hj,by simpa[ir]using e⟩;refine⟨j'+1,by simpa using h1,by simpa[ir]using h2,?_⟩;have:((m:Int)+1)=((m+1:Nat):Int):=by omega
   rw[this,h3];congr 1;omega
theorem abf (t:az Slot)(ht:t.length=8):(range 8).all (vS t)=(range 8).all (pD t):=by
 rw[dU,aL,aL];simp only[cB];constructor;intro h i hi;have hI:=h i hi;unfold vS at hI;unfold pD;simp only[ae,cJ,aN,bn]at hI⊢;refine⟨hI.1,?_⟩;rcases hI.2 with h1|⟨h1,h2⟩;exact .inl h1;by_cases hu:((ir t i).1==1)=true;right;have Uq:rf (ir t i) (ir t i).2.1=true:=by unfold rf;rw[hu];simp
 refine acU t _ i Uq (λj hj huj=>?_) 8 0 h2 (akw _ i hi);have hJ:=h j hj;unfold vS at hJ;unfold rf at huj;simp only[ae,aG]at huj;simp only[ae,cJ,aN,bn]at hJ;rcases hJ.2 with h3|⟨h3,_⟩;rw[huj.1]at h3;cases h3;rw[huj.2]at h3;omega;exact .inl (by simpa using hu);intro h i hi;have hI:=h i hi;unfold pD at hI;unfold vS;simp only[ae,cJ,aN,bn]at hI⊢;refine⟨hI.1,?_⟩;rcases hI.2 with h1|h1;exact .inl h1;right;obtain⟨hu,hc,_⟩:=Tn t _ i 8 0 h1;refine⟨?_,hc⟩;obtain⟨j,hj,huj,e⟩:=FM (ir t i).2.1 t 0 ⟨i,by omega,hu⟩;have hJ:=h j (by omega);unfold pD at hJ;unfold rf at huj;simp only[ae,aG]at huj;simp only[ae,cJ,aN,bn]at hJ;rcases hJ.2 with h3|h3;rw[huj.1]at h3;cases h3;rw[huj.2,h1]at h3;have e':Aa (ir t i).2.1 t 0=((0+j:Nat):Int):=e;rw[e'];omega
theorem Sm (t:az Slot):tD t=some (om t):=by
 rw[aan,om];by_cases ht:t.length=8;rw[abf t ht];have e2:(t.length==8)=false:=by simp[ht]
 rw[e2];rfl
def acF (n:Int):Bool:=(n==1)||(n==2)||(n==4)||(n==8)||(n==16)
theorem aav (n:Int):Bl n=some (acF n):=by simp only[Bl,cb,ab,acF];cases (n==1)<;>cases (n==2)<;>cases (n==4)<;>cases (n==8)<;>rfl
def qB (s:lu)(q:Int):Bool:=dD q 1 4&&((s.1.length:Int)==16)&&acF s.2.length&&s.2.all λx=>dD x 0 (q-1)
theorem Is (s:lu)(q:Int)(h:s.2.length<=10^9):uU s q=some (qB s q):=by
 unfold uU qB;simp only[dR,aav,ab,cb,bne];by_cases hq:dD q 1 4=true
 ·rw[rj (hit:=some false) (fin:=some true) (λx=>dD x 0 (q-1)) s.2 (by omega) (λi hi nx=>?hs) (λnx=>?hf)]
  case hs=>
   rw[aS]at hq
   simp only[tO]
   rw[lH,bK hi,al (n:=(i:Int)+1),al (n:=q-1)]
   simp only[ah,ab,dR];rfl
  case hf=>
   simp only[tO]
   rw[dw];rfl
  rw[hq];cases ((s.1.length:Int)==16)<;>cases acF s.2.length<;>cases s.2.all (λx=>dD x 0 (q-1))<;>rfl
 have Nx:dD q 1 4=false:=by simpa using hq
 rw[Nx];rfl
theorem Pe (s:lu)(q:Int)(h:s.2.length<=10^9):yN s q=some (qB s q):=by rw[<-Is s q h];rfl
def fu (s:dj)(q:Int):Bool:=yh s.1&&om s.2.1&&qB s.2.2 q&&s.1.all (λr=> !(decide (r.2.2.2.2.2.2.2.2>=q)))&&s.2.1.all (λx=> !(decide (x.2.2>=q)))
theorem Bb (s:dj)(q:Int)(h1:s.1.length<=10^9)(h2:s.2.1.length<=10^9)(h3:s.2.2.2.length<=10^9):lG s q=some (fu s q):=by
 unfold lG fu;simp only[Ha _ h1,LC,Is _ _ h3,ab,cb];rw[rj (hit:=some false) (fin:=cond (s.2.1.all (λx=> !(decide (x.2.2>=q)))) (some true) (some false)) (λr:kc=> !(decide (r.2.2.2.2.2.2.2.2>=q))) s.1 (by omega) (λi hi nx=>?hs) (λnx=>?hf)]
 case hs=>
  simp only[qy]
  rw[lH,bK hi,al]
  simp only[ah,ab,hU];rfl
 case hf=>
  simp only[qy]
  rw[dw]
  simp only[af]
  rw[rj (hit:=some false) (fin:=some true) (λx:Slot=> !(decide (x.2.2>=q))) s.2.1 (by omega) (λi hi nx=>?hs) (λnx=>?hf)]
  case hs=>
   simp only[qA]
   rw[lH,bK hi,al]
   simp only[ah,ab,hU];rfl
  case hf=>
   simp only[qA]
   rw[dw];rfl
 cases yh s.1<;>cases om s.2.1<;>cases qB s.2.2 q<;>cases s.1.all (λr=> !(decide (r.2.2.2.2.2.2.2.2>=q)))<;>cases s.2.1.all (λx=> !(decide (x.2.2>=q)))<;>rfl
theorem Js (s:dj)(q:Int)(h1:s.1.length<=10^9)(h2:s.2.1.length<=10^9)(h3:s.2.2.2.length<=10^9):qL s q=some (fu s q):=by
 unfold qL fu;simp only[Sh _ h1,Sm,Pe _ _ h3,ab,cb];rw[rj (hit:=some false) (fin:=cond (s.2.1.all (λx=> !((x.1==1)&&decide (x.2.2>=q)))) (some true) (some false)) (λr:kc=> !((r.2.2.2.2.2.2.2.1==0)&&decide (r.2.2.2.2.2.2.2.2>=q))) s.1 (by omega) (λi hi nx=>?hs) (λnx=>?hf)]
 case hs=>
  simp only[qn]
  rw[lH,bK hi,al]
  simp only[ah,ab,hU,cb]
  cases (s.1[i].2.2.2.2.2.2.2.1==0)<;>rfl
 case hf=>
  simp only[qn]
  rw[dw]
  simp only[af]
  rw[rj (hit:=some false) (fin:=some true) (λx:Slot=> !((x.1==1)&&decide (x.2.2>=q))) s.2.1 (by omega) (λi hi nx=>?hs) (λnx=>?hf)]
  case hs=>
   simp only[oE]
   rw[lH,bK hi,al]
   simp only[ah,ab,hU,cb]
   cases (s.2.1[i].1==1)<;>rfl
  case hf=>
   simp only[oE]
   rw[dw];rfl
 cases hr:yh s.1 with
 |false=>rfl
 |true=>
  cases ht:om s.2.1 with
  |false=>rfl
  |true=>
   cases hs:qB s.2.2 q with
   |false=>rfl
   |true=>
    have hq:1<=q:=by unfold qB at hs;simp only[ae,aS]at hs;exact hs.1.1.1.1
    have e1:s.1.all (λr=> !((r.2.2.2.2.2.2.2.1==0)&&decide (r.2.2.2.2.2.2.2.2>=q)))=s.1.all (λr=> !(decide (r.2.2.2.2.2.2.2.2>=q))):=by unfold yh at hr;simp only[ae,aL]at hr;rw[dU,aL,aL];refine forall_congr' λr=>forall_congr' λhm=>?_;rcases XR (hr.1 r hm)with h0|h0;rw[h0];simp;rw[h0];simp only[au (show¬(0:Int)>=q by omega),eH]
    have e2:s.2.1.all (λx=> !((x.1==1)&&decide (x.2.2>=q)))=s.2.1.all (λx=> !(decide (x.2.2>=q))):=by unfold om at ht;simp only[ae,aL,cB,bn]at ht;rw[dU,aL,aL];refine forall_congr' λx=>forall_congr' λhm=>?_;obtain⟨i,hi,rfl⟩:=List.mem_iff_getElem.1 hm;have hsl:=ht.2 i (by omega);unfold pD S7 at hsl;rw[yk hi]at hsl;simp only[ae,cJ,bn]at hsl;rcases hsl.1.2 with h0|⟨h0,_⟩;rw[h0];simp;rw[h0];simp only[au (show¬(0:Int)>=q by omega),eH]
    rw[e1,e2];cases s.1.all (λr=> !(decide (r.2.2.2.2.2.2.2.2>=q)))<;>cases s.2.1.all (λx=> !(decide (x.2.2>=q)))<;>rfl
def cY (m:cg):Bool:=m.all (λx=>(x.length:Int)==128)&&decide ((m.length:Int)<=64)
theorem ER (m:cg)(h:m.length<=10^9):rA m=some (cY m):=by
 unfold rA cY;rw[rj (hit:=some false) (fin:=some (decide ((m.length:Int)<=64))) (λx:Bytes=>(x.length:Int)==128) m (by omega) (λi hi nx=>?hs) (λnx=>?hf)]
 case hs=>
  simp only[tL]
  rw[lH,bK hi,al];rfl
 case hf=>
  simp only[tL]
  rw[dw];rfl
 cases m.all (λx=>(x.length:Int)==128)<;>rfl
theorem Ib (m:cg)(h:m.length<=10^9):uE m=some (cY m):=ER m h
def M9:aH:=(0,0,0,false)
def K4 (m:aH):Bool:=dD m.1 0 7&&(dD m.2.1 0 1023&&dD m.2.2.1 0 63)
def sQ (d p:Int)(m:aH):Bool:=(m.1==d)&&(m.2.1==p)
def Pv (l:az aH)(i:Nat):Bool:=K4 (l.getD i M9)&&(range i).all (λj=> !(sQ (l.getD i M9).1 (l.getD i M9).2.1 (l.getD j M9)))
def gy (l:az aH):Bool:=decide ((l.length:Int)<=96)&&(range l.length).all (Pv l)
theorem J7 (l:az aH)(h:l.length<=10^9):qR l=some (gy l):=by
 unfold qR gy;rw[th (hit:=some false) (fin:=some true) (Pv l) l.length (by omega) (λi nx hi=>?hs) (λnx=>?hf)]
 case hs=>
  simp only[qx]
  rw[lH,bK hi,al]
  simp only[ah,ab,dR,cb]
  rw[th (hit:=some false) (fin:=nx ((i:Int)+1)) (λj=> !(sQ l[i].1 l[i].2.1 (l.getD j M9))) i (by omega) (λj nx hj=>?hs2) (λnx=>?DH)]
  case hs2=>
   have hjl:j<l.length:=by omega
   simp only[oL]
   rw[lH,bK hjl,al]
   simp only[ah,ab,cb,cO hjl,sQ,cF,hU];rfl
  case DH=>
   simp only[oL]
   rw[dw];rfl
  simp only[Pv,K4,cO hi,cT]
  cases dD l[i].1 0 7<;>cases dD l[i].2.1 0 1023<;>cases dD l[i].2.2.1 0 63<;>cases (range i).all (λj=> !(sQ l[i].1 l[i].2.1 (l.getD j M9)))<;>rfl
 case hf=>
  simp only[qx]
  rw[dw];rfl
 have e:decide ((l.length:Int)>96)= !decide ((l.length:Int)<=96):=by rw[dU];simp
 rw[e];cases decide ((l.length:Int)<=96)<;>cases (range l.length).all (Pv l)<;>rfl
def Xz (l:az aH)(d p:Int):Int:=match l.findIdx? (sQ d p)with|some i=>(i:Int)|none=> -1
theorem WO (l:az aH)(d p:Int)(h:l.length<=10^9):pj l d p=some (Xz l d p):=by
 unfold pj Xz;rw[GO (hit:=λi=>some i) (fin:=some (-1)) (sQ d p) l (by omega) (λi hi nx=>?hs) (λnx=>?hf)]
 case hs=>
  simp only[oH]
  rw[lH,bK hi,al]
  simp only[ah,ab,cb,cF,sQ];rfl
 case hf=>
  simp only[oH]
  rw[dw];rfl
 cases l.findIdx? (sQ d p)<;>rfl
theorem aaV (l:az aH)(i:Nat)(hi:i<l.length):(Xz l l[i].1 l[i].2.1==(i:Int))=(range i).all (λj=> !(sQ l[i].1 l[i].2.1 (l.getD j M9))):=by
 have CF:sQ l[i].1 l[i].2.1 l[i]=true:=by simp[sQ]
 unfold Xz;cases hq:l.findIdx? (sQ l[i].1 l[i].2.1)with
 |none=>rw[List.findIdx?_eq_none_iff]at hq;rw[hq l[i] (bF hi)]at CF;cases CF
 |some k=>
  rw[List.findIdx?_eq_some_iff_getElem]at hq;obtain⟨hk,hpk,iz⟩:=hq;rw[dU,aL];simp only[cB,bn,aN];constructor;intro e j hj;have hjl:j<l.length:=by omega
  rw[cO hjl];have:=iz j (by omega);simpa using this;intro Cn;rcases Nat.lt_trichotomy k i with hki|hki|hki;have:=Cn k hki;rw[cO hk,hpk]at this;cases this;omega;have:=iz i hki;rw[CF]at this;simp at this
theorem Jm (l:az aH)(h:l.length<=10^9):qJ l=some (gy l):=by
 unfold qJ gy;rw[th (hit:=some false) (fin:=some (decide ((l.length:Int)<=96))) (Pv l) l.length (by omega) (λi nx hi=>?hs) (λnx=>?hf)]
 case hs=>
  simp only[qh]
  rw[lH,bK hi,al]
  simp only[ah,ab,dE,cb,WO _ _ _ h,bne,aaV l i hi,Pv,K4,cO hi]
  cases dD l[i].1 0 7<;>cases dD l[i].2.1 0 1023<;>cases dD l[i].2.2.1 0 63<;>cases (range i).all (λj=> !(sQ l[i].1 l[i].2.1 (l.getD j M9)))<;>rfl
 case hf=>
  simp only[qh]
  rw[dw];rfl
 cases decide ((l.length:Int)<=96)<;>cases (range l.length).all (Pv l)<;>rfl
def Dz (n:Int)(l:dA)(i:Nat):Bool:=dD (l.getD i 0) 0 (n-1)&& !((l.take i).contains (l.getD i 0))
def du (p:dy):Bool:=dD p.1 0 130944&&(dD p.2.1 1 512&&(dD p.2.2.1 0 16&&(range p.2.2.2.length).all (Dz p.2.2.1 p.2.2.2)))
def Fp (n:Int)(l:dA):az Bool:=(range n.toNat).map λk:Nat=>l.contains (k:Int)
theorem S6 (n:Int)(l:dA):(Fp n l).length=n.toNat:=by simp[Fp]
theorem G6 (n:Int)(l:dA)(k:Nat)(h:k<(Fp n l).length):(Fp n l)[k]=l.contains (k:Int):=by simp[Fp]
theorem aeU (n:Int)(l:dA)(k:Nat)(h:k<n.toNat):(Fp n l).set k true=Fp n (l++[(k:Int)]):=by
 apply List.ext_getElem;simp[Fp];intro j h1 h2;rw[List.getElem_set];split;rename_i e;subst e;rw[G6];simp;rename_i e;rw[G6,G6];simp only[List.contains_append];have:([(k:Int)].contains (j:Int))=false:=by simp;omega
 rw[this];simp
theorem XD {T:(az Bool×Int->aC Bool)->az Bool×Int->aC Bool}(n:Int)(l:dA)(hl:l.length<=10^9)
 (hs:∀i (hi:i<l.length)(s:az Bool) nx,T nx (s,(i:Int))=aa (cond (!(dD l[i] 0 (n-1))) (some true) (aa (idx s l[i]) λx=>some x)) λq=>
  cond q (some false) (aa (idx s l[i]) λ_=>aa (idx s l[i]) λ_=>nx (s.set l[i].toNat true,((i+1:Nat):Int)))) (hf:∀s nx,T nx (s,(l.length:Int))=some true):
 bp T fuel (List.replicate n.toNat false,0)=some ((range l.length).all (Dz n l)):=by
 have e0:(List.replicate n.toNat false,(0:Int))=(Fp n (l.take 0),((0:Nat):Int)):=by congr 1;simp only[Fp,List.take_zero,List.contains_nil,List.map_const',List.length_range]
 rw[e0,RE (hit:=some false) (fin:=some true) (λi=>(Fp n (l.take i),(i:Int))) (Dz n l) l.length (by omega) (λi nx hi hp=>?hs) (λ_ nx=>hf _ nx)]
 case hs=>
  rw[hs i hi]
  unfold Dz
  rw[cO hi]
  by_cases ux:dD l[i] 0 (n-1)=true
  ·have hb:=ux
   rw[aS]at hb
   obtain⟨k,hk⟩:∃k:Nat,l[i]=(k:Int):=⟨l[i].toNat,by omega⟩
   have hkn:k<(Fp n (l.take i)).length:=by rw[S6];omega
   rw[ux,hk,bK hkn,G6]
   simp only[ak,af,ab,bC,hU,ax]
   rw[aeU _ _ _ (by rw[S6]at hkn;exact hkn),<-hk,<-bZ hi]
  ·have alM:dD l[i] 0 (n-1)=false:=by simpa using ux
   rw[alM];rfl
 cases (range l.length).all (Dz n l)<;>rfl
theorem zO (p:dy)(h:p.2.2.2.length<=10^9):mj p=some (du p):=by
 unfold mj du;simp only[dR,ab,cb];by_cases hn:dD p.2.2.1 0 16=true
 ·have hb:=hn;rw[aS]at hb;rw[zip,bf,XD p.2.2.1 p.2.2.2 h (λi hi s nx=>?hs) (λs nx=>?hf)]
  case hs=>
   simp only[xA]
   rw[lH,bK hi,al (n:=(i:Int)+1),al (n:=p.2.2.1-1)]
   simp only[ah,ab,dR];rfl
  case hf=>
   simp only[xA]
   rw[dw];rfl
  rw[hn];cases dD p.1 0 130944<;>cases dD p.2.1 1 512<;>rfl
 have Eb:dD p.2.2.1 0 16=false:=by simpa using hn
 rw[Eb];cases dD p.1 0 130944<;>cases dD p.2.1 1 512<;>rfl
theorem wI (p:dy)(h:p.2.2.2.length<=10^9):jY p=some (du p):=by
 unfold jY du;simp only[dE,ab,cb];by_cases hn:dD p.2.2.1 0 16=true
 ·have hb:=hn;rw[aS]at hb;rw[zip,bf,XD p.2.2.1 p.2.2.2 h (λi hi s nx=>?hs) (λs nx=>?hf)]
  case hs=>
   simp only[wR]
   rw[lH,bK hi,al (n:=(i:Int)+1),al (n:=p.2.2.1-1)]
   simp only[ah,ab,dE];rfl
  case hf=>
   simp only[wR]
   rw[dw];rfl
  rw[hn];cases dD p.1 0 130944<;>cases dD p.2.1 1 512<;>rfl
 have Eb:dD p.2.2.1 0 16=false:=by simpa using hn
 rw[Eb];cases dD p.1 0 130944<;>cases dD p.2.1 1 512<;>rfl
def jA (n:Int):Bool:=(n==2)||((n==4)||((n==8)||(n==16)))
theorem EE (n:Int):tY n=some (jA n):=by simp only[tY,cb,ab,jA,cT]
theorem Gl (n:Int):uK n=some (jA n):=EE n
theorem ig {n:Int}:jA n=true↔n=2\/n=4\/n=8\/n=16:=by simp[jA]
theorem Ea (x:Int)(k:Nat)(hk:k<=64:=by omega):ar x%(2^k:Int)=x%(2^k:Int):=by
 obtain⟨c,hc⟩:∃c:Int,(18446744073709551616:Int)=2^k*c:=⟨2^(64-k),by rw[<-Int.pow_add,show k+(64-k)=64 by omega];rfl⟩
 have:ar x=x\/∃q:Int,ar x=x+18446744073709551616*q:=by
  right;simp only[ar,gX,IntKind.wrap,IntKind.bits,IntKind.signed];simp;have h1:x=x%18446744073709551616+18446744073709551616*(x/18446744073709551616):=by omega
  split;exact⟨-(x/18446744073709551616)-1,by omega⟩;exact⟨-(x/18446744073709551616),by omega⟩
 rcases this with h|⟨q,h⟩;rw[h];rw[h,hc,Int.mul_assoc,Int.add_mul_emod_self_left]
theorem Fz (x:Int)(k:Nat)(hk:k<63:=by omega):((gM x&&&gM (2^k-1)).toNat:Int)=x%2^k:=by
 have h2:(2:Int)^k<=2^62:=by have:(2:Nat)^k<=2^62:=Nat.pow_le_pow_right (by omega) (by omega);exact_mod_cast this
 have h0:(1:Int)<=2^k:=by have:1<=(2:Nat)^k:=Nat.one_le_two_pow;exact_mod_cast this
 have hm:(gM (2^k-1)).toNat=2^k-1:=by
  show(BitVec.ofInt 64 (2^k-1)).toNat=2^k-1;rw[BitVec.toNat_ofInt,Int.emod_eq_of_lt (by omega) (by omega)];have:((2:Int)^k-1)=((2^k-1:Nat):Int):=by have:1<=(2:Nat)^k:=Nat.one_le_two_pow;push_cast [this];rfl
  rw[this];rfl
 rw[BitVec.toNat_and,hm,Nat.and_two_pow_sub_one_eq_mod];show(((BitVec.ofInt 64 x).toNat%2^k:Nat):Int)=x%2^k;rw[BitVec.toNat_ofInt];have hx:0<=x%18446744073709551616:=by omega
 have e:(((x%18446744073709551616).toNat%2^k:Nat):Int)=(x%18446744073709551616)%2^k:=by push_cast;rw[Int.toNat_of_nonneg hx]
 refine e.trans ?_;exact Int.emod_emod_of_dvd x ⟨2^(64-k),by rw[<-Int.pow_add,show k+(64-k)=64 by omega];rfl⟩
theorem K7 (x n:Int)(h0:0<n:=by omega)(h1:n<=4611686018427387904:=by omega):jZ x n=some (x%n):=by
 unfold jZ;have:=fV x (show n≠0 by omega);have:=fY x h0;have hn:(n.natAbs:Int)=n:=by omega
 rw[kz,Int.tmod_eq_emod];split;rw[dw];simp;rw[lH,al];simp only[ah,hn];congr 1;omega
def bN (r:na):Int:=if jA r.2.1 then(r.2.2.2-r.2.2.1)%(2*r.2.1) else 0
theorem Yd (r:na):uT r=some (bN r):=by
 unfold uT bN;rw[EE,ab];cases hs:jA r.2.1 with
 |false=>rfl
 |true=>
  simp only[ak,af,cr];congr 1;rcases ig.1 hs with h|h|h|h<;>rw[h];have e:ar (ar (2*2)-1)=2^2-1:=by decide
  rw[e,Fz _ 2,Ea _ 2,al];rfl;have e:ar (ar (2*4)-1)=2^3-1:=by decide
  rw[e,Fz _ 3,Ea _ 3,al];rfl;have e:ar (ar (2*8)-1)=2^4-1:=by decide
  rw[e,Fz _ 4,Ea _ 4,al];rfl;have e:ar (ar (2*16)-1)=2^5-1:=by decide
  rw[e,Fz _ 5,Ea _ 5,al];rfl
theorem BZ (r:na):kD r=some (bN r):=by unfold kD bN;rw[Gl,ab];cases hs:jA r.2.1 with|false=>rfl|true=>simp only[ak,af,cr];have hb:=ig.1 hs;rw[al (n:=2*r.2.1)];have a1:=fV r.2.2.2 (show 2*r.2.1≠0 by omega);have a2:=fY r.2.2.2 (show 0<2*r.2.1 by omega);have a3:=fV r.2.2.1 (show 2*r.2.1≠0 by omega);have a4:=fY r.2.2.1 (show 0<2*r.2.1 by omega);simp only[K7 _ (2*r.2.1) (show 0<2*r.2.1 by omega),ab];rw[al,<-Int.sub_emod]
def dB (r:na):Bool:=dD r.1 0 130944&&(jA r.2.1&&(dD r.2.2.1 0 (2*r.2.1-1)&&(dD r.2.2.2 0 (2*r.2.1-1)&&decide (bN r<=r.2.1))))
theorem yi {n:Int}(h:jA n=true):ar (ar (2*n)-1)=2*n-1:=by have:=ig.1 h;rw[al (n:=2*n),al]
theorem Gt (r:na):pZ r=some (dB r):=by unfold pZ dB;simp only[dR,EE,Yd,ab,cb,cF];cases hs:jA r.2.1 with|false=>rfl|true=>rw[yi hs]
theorem zA (r:na):kR r=some (dB r):=by unfold kR dB;simp only[dE,Gl,BZ,ab,cb,cF];cases hs:jA r.2.1 with|false=>rfl|true=>rw[yi hs]
theorem Pm (p:dy)(h:p.2.2.2.length<=10^9):tZ p=some p:=by unfold tZ;rw[bf (by simp;omega)];rfl
theorem nz (l:dA)(h:l.length<=10^9):ie l=some l:=by unfold ie;rw[bf (by simp;omega)];rfl
theorem vN (p:dy)(h:p.2.2.2.length<=10^9):jH p=some p:=by unfold jH;rw[nz _ h];rfl
def ix (p:dy)(l:dA):dy:=(p.1,p.2.1,p.2.2.1,p.2.2.2++l)
def xX (p:dy)(l:dA):Bool:=du p&&du (ix p l)
def Ad (p:dy)(l:dA):dy×Bool:=bif xX p l then(ix p l,true) else(p,false)
theorem ain (p:dy)(l:dA)(h:p.2.2.2.length+l.length<=10^9):mC p l=some (Ad p l):=by unfold mC;rw[Pm p (by omega),ab,bf,zO p (by omega)];rw[zO (p.1,p.2.1,p.2.2.1,p.2.2.2++l) (by simp;omega)];simp only[ab,cb,Ad,xX];show _=some (bif du p&&du (p.1,p.2.1,p.2.2.1,p.2.2.2++l) then _ else _);cases du p<;>cases du (p.1,p.2.1,p.2.2.1,p.2.2.2++l)<;>rfl
theorem Pa (p:dy)(l:dA)(h:p.2.2.2.length+l.length<=10^9):ic p l=some (Ad p l):=by unfold ic;rw[vN p (by omega),ab,bf,wI p (by omega)];rw[wI (p.1,p.2.1,p.2.2.1,p.2.2.2++l) (by simp;omega)];simp only[ab,cb,Ad,xX];show _=some (bif du p&&du (p.1,p.2.1,p.2.2.1,p.2.2.2++l) then _ else _);cases du p<;>cases du (p.1,p.2.1,p.2.2.1,p.2.2.2++l)<;>rfl
theorem agR (p:dy)(l:dA):(Ad p l).2=xX p l:=by unfold Ad;cases xX p l<;>rfl
def kF (n:Int)(s:pS):Bool:=dD s.2.1 1 n&&dD s.1 0 65535
def bG (l:az pS):dA:=l.flatMap (·.2.2)
def dT (l:az pS):Int:=(l.map (·.2.1)).sum
def MQ (t:dN):Bool:=dB t.1&&(du t.2.1&&(dD t.2.2.2 0 65535&&(t.2.2.1.all (kF t.1.2.1)&&(xX t.2.1 (bG t.2.2.1)&&decide (dT t.2.2.1<=t.1.2.1)))))
theorem AH (n:Int):∀l:az pS,l.all (kF n)=true->0<=dT l
 |[],_=>by simp[dT]
 |x::l,h=>by simp only[cw,ae]at h;have:=AH n l h.2;have hx:=h.1;unfold kF at hx;simp only[ae,aS]at hx;simp only[dT,cS,gv]at this⊢;omega
theorem Tc (p:dy)(n:Int)(hn:0<=n/\n<=16)(fin:Int×dA->aC Bool)(qb:∀s:Int×dA,p.2.2.2.length+s.2.length<=10^9->fin s=some (xX p s.2&&decide (s.1<=n))):
 ∀(l:az pS)(sum:Int)(acc:dA),0<=sum->sum+16*l.length<=100000000000->p.2.2.2.length+(acc.length+(bG l).length)<=10^9->
 Ay (λx (s:Int×dA) k=>cond (!(kF n x)) (some false) (room (s.2.length+x.2.2.length) (k (ar (s.1+x.2.1),s.2++x.2.2)))) fin l (sum,acc)
  =some (l.all (kF n)&&(xX p (acc++bG l)&&decide (sum+dT l<=n)))
 |[],sum,acc,h0,h1,h2=>by rw[Ay,qb _ (by simp[bG]at h2;exact h2)];simp[bG,dT]
 |x::l,sum,acc,h0,h1,h2=>by
  have hb:bG (x::l)=x.2.2++bG l:=by simp[bG]
  rw[hb,aj]at h2;rw[Ay,cw];cases hx:kF n x with
  |false=>rfl
  |true=>
   have BE:=hx;unfold kF at BE;simp only[ae,aS]at BE;simp only[aV,Int.natCast_add,Int.natCast_one]at h1;simp only[ak,af,bC];rw[bf,al,Tc p n hn fin qb l _ _ (by omega) (by omega) (by rw[aj];omega)];rw[hb,aE];have e:sum+x.2.1+dT l=sum+dT (x::l):=by simp only[dT,cS,gv];omega
   rw[e]
theorem Sj (p:dy)(n:Int)(hn:n<=16)(fin:Int×dA->aC Bool)(qb:∀s:Int×dA,p.2.2.2.length+s.2.length<=10^9->fin s=some (xX p s.2)):
 ∀(l:az pS)(left:Int)(acc:dA),0<=left->left<=n->p.2.2.2.length+(acc.length+(bG l).length)<=10^9->
 Ay (λx (s:Int×dA) k=>cond (decide (x.2.1<1)||(decide (x.2.1>s.1)|| !(dD x.1 0 65535))) (some false) (room (s.2.length+x.2.2.length) (k (ar (s.1-x.2.1),s.2++x.2.2)))) fin l (left,acc)
  =some (l.all (kF n)&&(xX p (acc++bG l)&&decide (dT l<=left)))
 |[],left,acc,h0,h1,h2=>by rw[Ay,qb _ (by simp[bG]at h2;exact h2)];simp[bG,dT,h0]
 |x::l,left,acc,h0,h1,h2=>by
  have hb:bG (x::l)=x.2.2++bG l:=by simp[bG]
  have hc:dT (x::l)=x.2.1+dT l:=by simp only[dT,cS,gv]
  rw[hb,aj]at h2;rw[Ay,cw,hb,hc];by_cases c1:x.2.1<1;have e:kF n x=false:=by unfold kF dD;rw[au (show¬1<=x.2.1 by omega)];rfl
  rw[e,aw c1];rfl;rw[au c1];by_cases c2:x.2.1>left;rw[aw c2];simp only[ly,cj,jU,ah];cases ha:l.all (kF n)with|false=>simp|true=>have:=AH n l ha;rw[au (show¬x.2.1+dT l<=left by omega)];simp
  rw[au c2];have e:kF n x=dD x.1 0 65535:=by have:dD x.2.1 1 n=true:=aS.2 ⟨by omega,by omega⟩;unfold kF;rw[this];rfl
  rw[e];cases dD x.1 0 65535 with
  |false=>rfl
  |true=>
   simp only[cj,ak,af,bC];rw[bf,al,Sj p n hn fin qb l _ _ (by omega) (by omega) (by rw[aj];omega),aE];have e:decide (dT l<=left-x.2.1)=decide (x.2.1+dT l<=left):=by rw[dU];simp;omega
   rw[e]
theorem amU (t:dN)(h1:t.2.2.1.length<=10^9)(h2:t.2.1.2.2.2.length+(bG t.2.2.1).length<=10^9):Hd t=some (MQ t):=by
 unfold Hd MQ;simp only[Gt,zO _ (show t.2.1.2.2.2.length<=10^9 by omega),dR,ab,cb];cases hr:dB t.1 with
 |false=>rfl
 |true=>
  have hn:0<=t.1.2.1/\t.1.2.1<=16:=by unfold dB at hr;simp only[ae]at hr;have:=ig.1 hr.2.1;omega
  have C9:=eR;have key:=BH (R:=Bool) (T:=xE (λ(y9:Int) (Ed:dA) (_:Int)=>aa (mC t.2.1 Ed) λsU=>some (bif sU.2 then decide (y9<=t.1.2.1) else false)) (λ(GH:Bool) (_:Int) (_:dA) (_:Int)=>some GH) false t) t.2.2.1 (λ(s:Int×dA) i=>(s.1,s.2,(i:Int))) (λx (s:Int×dA) k=>cond (!(kF t.1.2.1 x)) (some false) (room (s.2.length+x.2.2.length) (k (ar (s.1+x.2.1),s.2++x.2.2)))) (λs=>aa (mC t.2.1 s.2) λsU=>some (sU.2&&decide (s.1<=t.1.2.1))) (λi hi s nx=>by simp only[xE];rw[lH,bK hi,al (n:=(i:Int)+1)];simp only[ah,ab,dR,cb,kF];cases dD t.2.2.1[i].2.1 1 t.1.2.1<;>cases dD t.2.2.1[i].1 0 65535<;>rfl) (λs nx=>by simp only[xE];rw[dw];simp only[af,cb,ab,cF]) fuel 0 (0,([]:dA)) (by omega) (by omega);rw[eI,Tc t.2.1 t.1.2.1 hn _ (λs hs=>by rw[ain _ _ hs,ab,agR]) _ _ _ (by omega) (by omega) (by simpa using h2)]at key;cases du t.2.1 with|false=>rfl|true=>cases dD t.2.2.2 0 65535 with|false=>rfl|true=>refine key.trans ?_;simp
theorem aao (t:dN)(h1:t.2.2.1.length<=10^9)(h2:t.2.1.2.2.2.length+(bG t.2.2.1).length<=10^9):BG t=some (MQ t):=by
 unfold BG MQ;simp only[zA,wI _ (show t.2.1.2.2.2.length<=10^9 by omega),dE,ab,cb];cases hr:dB t.1 with
 |false=>rfl
 |true=>
  have hn:0<=t.1.2.1/\t.1.2.1<=16:=by unfold dB at hr;simp only[ae]at hr;have:=ig.1 hr.2.1;omega
  have C9:=eR;have key:=BH (R:=Bool) (T:=wV (λ(_:Int) (y9:dA) (_:Int)=>aa (ic t.2.1 y9) λxP=>some xP.2) (λ(Kt:Bool) (_:Int) (_:dA) (_:Int)=>some Kt) false t.2.2.1 ((List.length t.2.2.1:Int)) t) t.2.2.1 (λ(s:Int×dA) i=>(s.1,s.2,(i:Int))) (λx (s:Int×dA) k=>cond (decide (x.2.1<1)||(decide (x.2.1>s.1)|| !(dD x.1 0 65535))) (some false) (room (s.2.length+x.2.2.length) (k (ar (s.1-x.2.1),s.2++x.2.2)))) (λs=>aa (ic t.2.1 s.2) λsU=>some sU.2) (λi hi s nx=>by simp only[wV];rw[lH,bK hi,al (n:=(i:Int)+1)];simp only[ah,ab,dE,cb,cT];rfl) (λs nx=>by simp only[wV];rw[dw];rfl) fuel 0 (t.1.2.1,([]:dA)) (by omega) (by omega);rw[eI,Sj t.2.1 t.1.2.1 (by omega) _ (λs hs=>by rw[Pa _ _ hs,ab,agR]) _ _ _ (by omega) (by omega) (by simpa using h2)]at key;cases du t.2.1 with|false=>rfl|true=>cases dD t.2.2.2 0 65535 with|false=>rfl|true=>refine key.trans ?_;simp
def sA (s:fE):Bool:=dD s.2.1 0 65535&&(dD s.2.2.1 0 65535&&(!decide ((List.length s.2.2.2.2.2.2.2:Int)>320)&&
 (bif s.1==17 then(s.2.2.2.1==0)&&((s.2.2.2.2.1==0)&&((s.2.2.2.2.2.1==0)&&(s.2.2.2.2.2.2.1==0)))
  else(s.1==6)&&(dD s.2.2.2.1 0 4294967295&&(dD s.2.2.2.2.1 0 4294967295&&(dD s.2.2.2.2.2.1 0 31&&dD s.2.2.2.2.2.2.1 0 65535))))))
theorem acI (s:fE):sY s=some (sA s):=by simp only[sY,dR,ab,cb,cF,cT,cN,Bool.not_or,hU,Bool.and_assoc,sA]
theorem acj (s:fE):sK s=some (sA s):=by simp only[sK,dE,ab,cb,cF,cT,cN,Bool.not_or,hU,Bool.and_assoc,sA];by_cases h:s.1=17;rw[h];rfl;rw[show(s.1==17)=false from by simpa using h];cases s.1==6<;>rfl
def BR (f:Int):Bool:=(f==16)||(f==17)||(f==24)||(f==25)
theorem OB (f:Int)(h:dD f 0 31=true):(ar (toNat (gM f&&&~~~ gM 9))==16)=BR f:=by
 have key:∀k:Fin 32,(ar (toNat (gM (k.val:Int)&&&~~~ gM 9))==16)=BR (k.val:Int):=by decide
 rw[aS]at h;have:=key ⟨f.toNat,by omega⟩;rwa[show((f.toNat:Nat):Int)=f by omega]at this
theorem OA (f:Int)(h:dD f 0 31=true):sO f=some (BR f):=by
 have key:∀k:Fin 32,((ar (toNat (gM (k.val:Int)&&&gM 16)) !=0)&&(ar (toNat (gM (k.val:Int)&&&~~~ gM 25))==0))=BR (k.val:Int):=by decide
 rw[aS]at h;have:=key ⟨f.toNat,by omega⟩;rw[show((f.toNat:Nat):Int)=f by omega]at this;simp only[sO,cb,ab,cF];rw[this]
theorem G7 {s:fE}(h:sA s=true)(h6:(s.1==6)=true):dD s.2.2.2.2.2.1 0 31=true:=by
 have:s.1=6:=by simpa using h6
 unfold sA at h;rw[this]at h;simp only[ae]at h;have h:=h.2.2.2;simp at h;exact h.2.2.1
def ov (p:aM):Bool:=dD p.1 0 281474976710655&&(dD p.2.1 0 281474976710655&&(dD p.2.2.1 (-1) 4095&&(dD p.2.2.2.1 0 255&&(dD p.2.2.2.2.2.1 0 255&&(dD p.2.2.2.2.1 0 65535&&(dD p.2.2.2.2.2.2.1 0 4294967295&&(dD p.2.2.2.2.2.2.2.1 0 4294967295&&sA p.2.2.2.2.2.2.2.2)))))))
def cH (p:aM):Bool:=ov p&&(decide ((List.length p.2.2.2.2.2.2.2.2.2.2.2.2.2.2.2:Int)<=128)||(p.2.2.2.2.2.2.2.2.1==6)&&BR p.2.2.2.2.2.2.2.2.2.2.2.2.2.1)
theorem wE (h:ov p=true):sA p.2.2.2.2.2.2.2.2=true:=by unfold ov at h;simp only[ae]at h;exact h.2.2.2.2.2.2.2.2
theorem yl (p:aM):kG p=some (cH p):=by unfold kG cH;simp only[dR,acI,ab,cb,cF,cT,cN,Bool.not_or,hU];rw[show(dD p.1 0 281474976710655&&(dD p.2.1 0 281474976710655&&(dD p.2.2.1 (-1) 4095&&(dD p.2.2.2.1 0 255&&(dD p.2.2.2.2.2.1 0 255&&(dD p.2.2.2.2.1 0 65535&&(dD p.2.2.2.2.2.2.1 0 4294967295&&(dD p.2.2.2.2.2.2.2.1 0 4294967295&&sA p.2.2.2.2.2.2.2.2))))))))=ov p from rfl];cases hh:ov p with|false=>rfl|true=>cases h6:p.2.2.2.2.2.2.2.2.1==6 with|false=>simp|true=>rw[OB _ (G7 (wE hh) h6)];simp[Bool.or_comm]
theorem rm (p:aM):iO p=some (cH p):=by
 unfold iO cH;simp only[dE,acj,ab];have e:∀X:aC Bool,(cond (dD p.1 0 281474976710655) (cond (dD p.2.1 0 281474976710655) (cond (dD p.2.2.1 (-1) 4095) (cond (dD p.2.2.2.1 0 255) (cond (dD p.2.2.2.2.2.1 0 255) (cond (dD p.2.2.2.2.1 0 65535) (cond (dD p.2.2.2.2.2.2.1 0 4294967295) (cond (dD p.2.2.2.2.2.2.2.1 0 4294967295) (cond (sA p.2.2.2.2.2.2.2.2) X (some false)) (some false)) (some false)) (some false)) (some false)) (some false)) (some false)) (some false)) (some false))=cond (ov p) X (some false):=by intro X;unfold ov;cases dD p.1 0 281474976710655;rfl;cases dD p.2.1 0 281474976710655;rfl;cases dD p.2.2.1 (-1) 4095;rfl;cases dD p.2.2.2.1 0 255;rfl;cases dD p.2.2.2.2.2.1 0 255;rfl;cases dD p.2.2.2.2.1 0 65535;rfl;cases dD p.2.2.2.2.2.2.1 0 4294967295;rfl;cases dD p.2.2.2.2.2.2.2.1 0 4294967295<;>rfl
 rw[e];cases hh:ov p with|false=>rfl|true=>cases h6:p.2.2.2.2.2.2.2.2.1==6 with|false=>simp[cb]|true=>rw[OA _ (G7 (wE hh) h6)];simp only[ah,ab,cb,cT,bC]
def gD (q:MT):Bool:=dD q.1 0 130944&&(jA q.2.1&&dD q.2.2 0 (ar ((ar (2*q.2.1))-1)))
theorem afa (q:MT):xB q=some (gD q):=by simp only[xB,dR,EE,ab,cb,cF,gD]
theorem KV (q:MT):ql q=some (gD q):=by simp only[ql,dE,Gl,ab,cb,cF,gD]
def afn:nr:=((0,0,0,0,0,0,0,0,0,0,0,0,0,0,0,([]:Bytes)),0,0)
def Yi (p:nr):Bool:=(p.1.1==0)&&((p.1.2.1==0)&&((p.1.2.2.1==0)&&((p.1.2.2.2.1==0)&&((p.1.2.2.2.2.1==0)&&((p.1.2.2.2.2.2.1==0)&&((p.1.2.2.2.2.2.2.1==0)&&((p.1.2.2.2.2.2.2.2.1==0)&&((p.1.2.2.2.2.2.2.2.2.1==0)&&((p.1.2.2.2.2.2.2.2.2.2.1==0)&&((p.1.2.2.2.2.2.2.2.2.2.2.1==0)&&((p.1.2.2.2.2.2.2.2.2.2.2.2.1==0)&&((p.1.2.2.2.2.2.2.2.2.2.2.2.2.1==0)&&((p.1.2.2.2.2.2.2.2.2.2.2.2.2.2.1==0)&&((p.1.2.2.2.2.2.2.2.2.2.2.2.2.2.2.1==0)&&((p.1.2.2.2.2.2.2.2.2.2.2.2.2.2.2.2==([]:Bytes))&&((p.2.1==0)&&((p.2.2==0)&&true)))))))))))))))))
def BK (r:bt):Bool:=(dB r.1&&(gD r.2.1&&(gD r.2.2.1&&((r.2.1.1==r.2.2.1.1)&&((r.2.1.2.1==r.2.2.1.2.1)&&dD r.2.2.2.2.2 0 1000000000000)))))&&
 (bif r.2.2.2.2.1 then cH r.2.2.2.1.1&&(dD r.2.2.2.1.2.1 0 320&&dD r.2.2.2.1.2.2 1 320) else Yi r.2.2.2.1)
theorem aiw (p:nr):Yi p=true↔p=afn:=by obtain⟨⟨a,b,c,d,e,f,g,h,i,j,k,l,m,n,o,q⟩,r,s⟩:=p;simp only[Yi,afn,iI,ae,bn,Prod.mk.injEq,and_assoc]
theorem amT (r:bt):Hc r=some (BK r):=by unfold Hc BK Yi;simp only[Gt,afa,dR,yl,ab,cb,cF,cT,cN,Bool.not_or,hU,bne];cases r.2.2.2.2.1<;>rfl
theorem Pd (r:bt):vU r=some (BK r):=by unfold vU BK Yi;simp only[zA,KV,dE,rm,ab,cb,cF,cT,cN,Bool.not_or,hU,bne];cases r.2.2.2.2.1<;>rfl
def dW (v:Vector):Bool:=(mn v).getD false
theorem ES (v:Vector):mn v=some (dW v):=by
 have:∃b,mn v=some b:=by simp only[mn,wg,dR,ab,cb];exact⟨_,rfl⟩
 obtain⟨b,hb⟩:=this;rw[dW,hb];rfl
theorem B0 (v:Vector):nZ v=some (dW v):=ES v
theorem Lp (l:az α)(p:α->Bool):(range l.length).all (λi=>l[i]?.all p)=l.all p:=by rw[dU,aL,aL];constructor;intro h x hx;obtain⟨i,hi,rfl⟩:=gA hx;have:=h i (cB.2 hi);rwa[aq hi]at this;intro h i hi;rw[aq (cB.1 hi)];exact h _ (bF _)
theorem abG (l:az α)(p q:α->Bool):l.all (λx=>p x&&q x)=(l.all p&&l.all q):=by induction l with|nil=>rfl|cons x l ih=>simp only[cw,ih];cases p x<;>cases q x<;>cases l.all p<;>rfl
def iD (h:Host):dA:=[h.2.2.2.2.2.2.2.2.2.2.2.2.2.2.1,h.2.2.2.2.2.2.2.2.2.2.2.2.2.2.2.1,h.2.2.2.2.2.2.2.2.2.2.2.2.2.2.2.2.1,h.2.2.2.2.2.2.2.2.2.2.2.2.2.2.2.2.2.1,h.2.2.2.2.2.2.2.2.2.2.2.2.2.2.2.2.2.2]
def po (h:Host):Bool:=dD (h.2.2.2.1.length:Int) 1 2&&(((h.2.2.2.2.1.length:Int)==(h.2.2.2.1.length:Int))&&(((h.2.2.2.2.2.1.length:Int)==(h.2.2.2.1.length:Int))&&((h.2.2.2.2.2.2.1.length:Int)==(h.2.2.2.1.length:Int))))
def S0 (h:Host):Bool:=h.2.2.2.1.all BK&&(h.2.2.2.2.1.all du&&h.2.2.2.2.2.1.all dW)
def fb (h:Host):Bool:=cY h.1&&(gy h.2.1&&(MQ h.2.2.1&&(nB h.2.2.2.2.2.2.2.1&&(po h&&(fu h.2.2.2.2.2.2.2.2.1 (h.2.2.2.1.length:Int)&&(S0 h&&(iD h).all (λx=>dD x 0 1000000000000)))))))
structure HR (h:Host):Prop where
 a1:h.1.length<=10^9
 a2:h.2.1.length<=10^9
 t1:h.2.2.1.2.2.1.length<=10^9
 t2:h.2.2.1.2.1.2.2.2.length+(bG h.2.2.1.2.2.1).length<=10^9
 f1:h.2.2.2.2.2.2.2.1.2.2.length<=10^9
 s1:h.2.2.2.2.2.2.2.2.1.1.length<=10^9
 s2:h.2.2.2.2.2.2.2.2.1.2.1.length<=10^9
 s3:h.2.2.2.2.2.2.2.2.1.2.2.2.length<=10^9
 p1:∀p∈h.2.2.2.2.1,p.2.2.2.length<=10^9
theorem nM {h:Host}(l:po h=true):h.2.2.2.1.length<=2/\h.2.2.2.2.1.length=h.2.2.2.1.length/\h.2.2.2.2.2.1.length=h.2.2.2.1.length/\h.2.2.2.2.2.2.1.length=h.2.2.2.1.length:=by unfold po at l;simp only[ae,aS,bn]at l;omega
theorem S1 {T:(Int->aC R)->Int->aC R}{fin hit:aC R}{h:Host}(l:po h=true)(hs:∀i (hi:i<h.2.2.2.1.length) nx,T nx (i:Int)=cond (!(BK h.2.2.2.1[i]&&(du (h.2.2.2.2.1[i]'((nM l).2.1▸hi))&&dW (h.2.2.2.2.2.1[i]'((nM l).2.2.1▸hi))))) hit (nx ((i+1:Nat):Int)))(hf:∀nx,T nx (h.2.2.2.1.length:Int)=fin):bp T fuel 0=cond (S0 h) fin hit:=by
 have hl:=nM l;rw[th (fin:=fin) (hit:=hit) (λi=>h.2.2.2.1[i]?.all BK&&(h.2.2.2.2.1[i]?.all du&&h.2.2.2.2.2.1[i]?.all dW)) h.2.2.2.1.length (by omega) ?hs hf]
 case hs=>
  intro i nx hi
  rw[hs i hi,aq hi,aq (hl.2.1▸hi),aq (hl.2.2.1▸hi)]
  rfl
 rw[abG,abG,Lp];have e1:=Lp h.2.2.2.2.1 du;have e2:=Lp h.2.2.2.2.2.1 dW;rw[hl.2.1]at e1;rw[hl.2.2.1]at e2;rw[e1,e2];rfl
theorem LR {T:(Int->aC R)->Int->aC R}{fin hit:aC R}(h:Host)(hs:∀i (hi:i<(iD h).length) nx,T nx (i:Int)=cond (!(dD (iD h)[i] 0 1000000000000)) hit (nx ((i+1:Nat):Int)))(hf:∀nx,T nx ((iD h).length:Int)=fin):bp T fuel 0=cond ((iD h).all (λx=>dD x 0 1000000000000)) fin hit:=rj (λx=>dD x 0 1000000000000) (iD h) (by simp[iD]) hs hf
theorem aip (h:Host)(z:HR h):CR h=some (fb h):=by
 unfold CR fb;simp only[ER _ z.a1,J7 _ z.a2,amU _ z.t1 z.t2,EP _ z.f1,Bb _ _ z.s1 z.s2 z.s3,dR,ab,cb];cases cY h.1;rfl;cases gy h.2.1;rfl;cases MQ h.2.2.1;rfl;cases nB h.2.2.2.2.2.2.2.1;rfl;simp only[ak,af,cT,bne];rw[show(!dD (h.2.2.2.1.length:Int) 1 2||(!((h.2.2.2.2.1.length:Int)==(h.2.2.2.1.length:Int))||(!((h.2.2.2.2.2.1.length:Int)==(h.2.2.2.1.length:Int))||(!((h.2.2.2.2.2.2.1.length:Int)==(h.2.2.2.1.length:Int))|| !fu h.2.2.2.2.2.2.2.2.1 (h.2.2.2.1.length:Int)))))= !(po h&&fu h.2.2.2.2.2.2.2.2.1 (h.2.2.2.1.length:Int)) by unfold po;simp only[Bool.not_and,Bool.or_assoc]];cases hl:po h;rfl;cases fu h.2.2.2.2.2.2.2.2.1 (h.2.2.2.1.length:Int);rfl;have hL:=nM hl;simp only[iI,ak,af,bC];rw[S1 (h:=h) (hit:=some false) (fin:=some ((iD h).all (λx=>dD x 0 1000000000000))) hl ?hs ?hf]
 case hs=>
  intro i hi nx
  simp only[xu]
  rw[lH,bK hi,bK (hL.2.1▸hi),bK (hL.2.2.1▸hi),al (n:=(i:Int)+1)]
  simp only[ah,ab,amT,ES,zO _ (z.p1 _ (bF _)),cb,cT,Bool.not_and]
  rfl
 case hf=>
  intro nx
  simp only[xu]
  rw[dw]
  simp only[af]
  refine(LR (fin:=some true) (hit:=some false) h ?_ ?_).trans ?_
  ·intro i hi nx
   simp only[vr]
   have wF:i<5:=hi
   change (bif decide ((i:Int)<5) then aa (idx (iD h) (i:Int)) _ else _)=_
   rw[lH,bK hi,al (n:=(i:Int)+1),ab,dR]
   rfl
  ·intro nx
   simp only[vr]
   rw[au (by simp[iD])];rfl
  ·cases (iD h).all (λx=>dD x 0 1000000000000)<;>rfl
 cases S0 h<;>rfl
theorem wH (h:Host)(z:HR h):jX h=some (fb h):=by
 unfold jX fb;simp only[Ib _ z.a1,Jm _ z.a2,aao _ z.t1 z.t2,O7 _ z.f1,Js _ _ z.s1 z.s2 z.s3,dE,ab,cb];cases cY h.1;rfl;cases gy h.2.1;rfl;cases MQ h.2.2.1;rfl;cases nB h.2.2.2.2.2.2.2.1;rfl;simp only[ak,af,cT,bne];rw[show(!dD (h.2.2.2.1.length:Int) 1 2||(!((h.2.2.2.2.1.length:Int)==(h.2.2.2.1.length:Int))||(!((h.2.2.2.2.2.1.length:Int)==(h.2.2.2.1.length:Int))|| !((h.2.2.2.2.2.2.1.length:Int)==(h.2.2.2.1.length:Int)))))= !(po h) by unfold po;simp only[Bool.not_and]];cases hl:po h;rfl;have hL:=nM hl;simp only[ak,af,bC];rw[S1 (h:=h) (hit:=some false) (fin:=some ((iD h).all (λx=>dD x 0 1000000000000)&&fu h.2.2.2.2.2.2.2.2.1 (h.2.2.2.1.length:Int))) hl ?hs ?hf]
 case hs=>
  intro i hi nx
  simp only[wN]
  rw[lH,bK hi,bK (hL.2.1▸hi),bK (hL.2.2.1▸hi),al (n:=(i:Int)+1)]
  simp only[ah,ab,Pd,B0,wI _ (z.p1 _ (bF _)),cb,cT,Bool.not_and]
  rfl
 case hf=>
  intro nx
  simp only[wN]
  rw[dw]
  simp only[af]
  refine(LR (fin:=some (fu h.2.2.2.2.2.2.2.2.1 (h.2.2.2.1.length:Int))) (hit:=some false) h ?_ ?_).trans ?_
  ·intro i hi nx
   simp only[uZ]
   have wF:i<5:=hi
   change (bif decide ((i:Int)<5) then aa (idx (iD h) (i:Int)) _ else _)=_
   rw[lH,bK hi,al (n:=(i:Int)+1),ab,dE]
   rfl
  ·intro nx
   simp only[uZ]
   rw[au (by simp[iD])];rfl
  ·cases (iD h).all (λx=>dD x 0 1000000000000)<;>rfl
 cases S0 h<;>cases fu h.2.2.2.2.2.2.2.2.1 (h.2.2.2.1.length:Int)<;>cases (iD h).all (λx=>dD x 0 1000000000000)<;>rfl
theorem iZ (h:n<9223372036854775808:=by omega):ar (n:Int)=(n:Int):=al
theorem Kq (h:n<4294967296:=by omega):IntKind.wrap .u32 (n:Int)=(n:Int):=by simp only[ar,gX,IntKind.wrap,IntKind.bits,IntKind.signed];simp;omega
theorem nv (b:UInt8):b.toNat<256:=b.toNat_lt
def aW (v:Int):Bytes:=(di v).getD []
theorem lF (v:Int):di v=some (aW v):=by
 unfold aW;have:∃x,di v=some x:=by simp only[di,dR,ab];cases dD v 0 65535<;>exact⟨_,rfl⟩
 obtain⟨x,hx⟩:=this;rw[hx];rfl
theorem mK (v:Int):cA v=some (aW v):=lF v
theorem E4 (v:Int):(aW v).length=bif dD v 0 65535 then 2 else 0:=by have h:=lF v;simp only[di,dR,ab]at h;cases hb:dD v 0 65535<;>rw[hb]at h<;>(rw[<-bQ h];rfl)
theorem bO (v:Int):(aW v).length<=2:=by rw[E4];cases dD v 0 65535<;>simp
def eo (v:Int):Bytes:=(gE v).getD []
theorem od (v:Int):gE v=some (eo v):=by
 unfold eo;have:∃x,gE v=some x:=by simp only[gE,dR,ab];cases dD v 0 4294967295<;>exact⟨_,rfl⟩
 obtain⟨x,hx⟩:=this;rw[hx];rfl
theorem B4 (v:Int):iE v=some (eo v):=od v
theorem IA (v:Int):(eo v).length=bif dD v 0 4294967295 then 4 else 0:=by have h:=od v;simp only[gE,dR,ab]at h;cases hb:dD v 0 4294967295<;>rw[hb]at h<;>(rw[<-bQ h];rfl)
theorem eP (v:Int):(eo v).length<=4:=by rw[IA];cases dD v 0 4294967295<;>simp
def bR (s:Bytes)(i:Nat):Nat:=(s.getD i 0).toNat
theorem fS (s:Bytes)(i:Nat):bR s i<256:=nv _
theorem nC (h:i<s.length:=by omega):∃x,idx s (i:Int)=some x/\x.toNat=bR s i:=⟨s[i],bK h,by rw[bR,cO h]⟩
def fR (s:Bytes)(a n:Int):Bool:=decide (0<=a/\a+n<=(s.length:Int))
theorem Gv (s:Bytes)(a n:Int)(h:s.length<=10^9)(hn:0<=n:=by omega):pK s a n=some (fR s a n):=by
 unfold pK fR;by_cases h0:0<=a;by_cases h1:a<=(s.length:Int)
 rw[aw (show a>=0 from h0),aw h1,al];simp only[ah,ab];congr 1;rw[decide_eq_decide];omega;rw[aw (show a>=0 from h0),au h1,au (show¬(0<=a/\a+n<=(s.length:Int)) by omega)];rfl;rw[au (show¬a>=0 from h0),au (show¬(0<=a/\a+n<=(s.length:Int)) by omega)];rfl
def cv (s:Bytes)(a:Int):Int:=bif fR s a 2 then((bR s a.toNat*256+bR s (a.toNat+1):Nat):Int) else-1
def gn (s:Bytes)(a:Int):Int:=bif fR s a 4 then(((bR s a.toNat*256+bR s (a.toNat+1))*65536+(bR s (a.toNat+2)*256+bR s (a.toNat+3)):Nat):Int) else-1
theorem D6 (s:Bytes)(a:Int)(h:s.length<=10^9):jw s a=some (cv s a):=by unfold jw cv;rw[Gv s a 2 h,ab];cases hw:fR s a 2 with|false=>rfl|true=>simp only[fR,aG]at hw;obtain⟨n,rfl⟩:=aA hw.1;obtain⟨x,hx,ex⟩:=nC (s:=s) (i:=n);obtain⟨y,hy,ey⟩:=nC (s:=s) (i:=n+1);have hxl:=fS s n;have hyl:=fS s (n+1);rw[al (n:=(n:Int)+1),hx,show(n:Int)+1=((n+1:Nat):Int) by omega,hy];simp only[ak,af,ab,ax,ah];rw[kz,ex,ey,iZ,iZ];have e8:ow 8=8:=rfl;rw[e8,al (n:=((bR s n:Nat):Int)*2^8),al];congr 1;all_goals omega
theorem LB (s:Bytes)(a:Int)(h:s.length<=10^9):qw s a=some (gn s a):=by
 unfold qw gn;rw[Gv s a 4 h,ab];cases hw:fR s a 4 with
 |false=>rfl
 |true=>
  simp only[fR,aG]at hw;obtain⟨n,rfl⟩:=aA hw.1;have w1:fR s (n:Int) 2=true:=by simp only[fR,aG];omega
  have w2:fR s ((n:Int)+2) 2=true:=by simp only[fR,aG];omega
  have b0:=fS s n;have b1:=fS s (n+1);have b2:=fS s (n+2);have b3:=fS s (n+3);rw[al (n:=(n:Int)+2),D6 s _ h,D6 s _ h];simp only[ak,af,ab,ah,cv,w1,w2,ax];rw[kz,show((n:Int)+2).toNat=n+2 by omega,show n+2+1=n+3 by omega];have e8:ow 16=16:=rfl;rw[e8,al (n:=((bR s n*256+bR s (n+1):Nat):Int)*2^16),al];congr 1;all_goals omega
theorem as8 (a b:Nat)(ha:a<9223372036854775808)(hb:b<9223372036854775808):toNat (gM (a:Int)|||gM (b:Int))=a|||b:=by show(BitVec.ofInt 64 (a:Int)|||BitVec.ofInt 64 (b:Int)).toNat=_;rw[dY,dY,BitVec.toNat_or,eU,eU,fi (by omega),fi (by omega)]
theorem afK (a b:Nat)(ha:a<9223372036854775808:=by omega)(hb:b<9223372036854775808:=by omega):toNat (gM (a:Int)&&&gM (b:Int))=a&&&b:=by show(BitVec.ofInt 64 (a:Int)&&&BitVec.ofInt 64 (b:Int)).toNat=_;rw[dY,dY,BitVec.toNat_and,eU,eU,fi (by omega),fi (by omega)]
theorem acV (a b:Nat)(ha:a<9223372036854775808)(hb:b<9223372036854775808):toNat (gM (a:Int)^^^gM (b:Int))=a^^^b:=by show(BitVec.ofInt 64 (a:Int)^^^BitVec.ofInt 64 (b:Int)).toNat=_;rw[dY,dY,BitVec.toNat_xor,eU,eU,fi (by omega),fi (by omega)]
theorem anv (a b:Nat)(ha:a<4294967296)(hb:b<4294967296):toNat (BitVec.ofInt (IntKind.bits .u32) (a:Int)&&&BitVec.ofInt (IntKind.bits .u32) (b:Int))=a&&&b:=by show(BitVec.ofInt 32 (a:Int)&&&BitVec.ofInt 32 (b:Int)).toNat=_;rw[dY,dY,BitVec.toNat_and,eU,eU,fi (by omega),fi (by omega)]
theorem alg (a b:Nat)(ha:a<4294967296)(hb:b<4294967296):toNat (BitVec.ofInt (IntKind.bits .u32) (a:Int)^^^BitVec.ofInt (IntKind.bits .u32) (b:Int))=a^^^b:=by show(BitVec.ofInt 32 (a:Int)^^^BitVec.ofInt 32 (b:Int)).toNat=_;rw[dY,dY,BitVec.toNat_xor,eU,eU,fi (by omega),fi (by omega)]
theorem Il (x k y:Nat)(hy:y<2^k:=by omega)(h:2^k*x+y<9223372036854775808:=by omega):ar (toNat (gM ((2^k*x:Nat):Int)|||gM (y:Int)):Int)=((2^k*x+y:Nat):Int):=by rw[as8 _ _ (by omega) (by omega),<-Nat.two_pow_add_eq_or_of_lt hy];exact iZ h
theorem MN (s:Bytes)(a n:Int):(cond (decide (a<0)) (some true) (some (decide (a>(s.length:Int)-n))))=some (!fR s a n):=by cases hw:fR s a n with|true=>simp only[fR,aG]at hw;rw[au (show¬a<0 by omega),au (show¬a>(s.length:Int)-n by omega)];rfl|false=>simp only[fR,cG]at hw;by_cases h0:a<0;rw[aw h0];rfl;rw[au h0,aw (show a>(s.length:Int)-n by omega)];rfl
theorem yd (s:Bytes)(a:Int)(h:s.length<=10^9):gu s a=some (cv s a):=by unfold gu cv;rw[al (n:=(s.length:Int)-2)];rw[MN,ab];cases hw:fR s a 2 with|false=>rfl|true=>simp only[fR,aG]at hw;obtain⟨n,rfl⟩:=aA hw.1;obtain⟨x,hx,ex⟩:=nC (s:=s) (i:=n);obtain⟨y,hy,ey⟩:=nC (s:=s) (i:=n+1);have hxl:=fS s n;have hyl:=fS s (n+1);rw[al (n:=(n:Int)+1),hx,show(n:Int)+1=((n+1:Nat):Int) by omega,hy];simp only[ak,af,ah,ab,ax];rw[kz,ex,ey,iZ (n:=bR s n),iZ (n:=bR s (n+1))];have e8:ow 8=8:=rfl;rw[e8,show((bR s n:Nat):Int)*2^8=((2^8*bR s n:Nat):Int) by omega,iZ (n:=2^8*bR s n),Il (bR s n) 8 (bR s (n+1))];congr 1;all_goals omega
theorem BF (s:Bytes)(a:Int)(h:s.length<=10^9):jL s a=some (gn s a):=by
 unfold jL gn;rw[al (n:=(s.length:Int)-4)];rw[MN,ab];cases hw:fR s a 4 with
 |false=>rfl
 |true=>
  simp only[fR,aG]at hw;obtain⟨n,rfl⟩:=aA hw.1;obtain⟨x0,h0,e0⟩:=nC (s:=s) (i:=n);obtain⟨x1,h1,e1⟩:=nC (s:=s) (i:=n+1);obtain⟨x2,h2,e2⟩:=nC (s:=s) (i:=n+2);obtain⟨x3,h3,e3⟩:=nC (s:=s) (i:=n+3);have b0:=fS s n;have b1:=fS s (n+1);have b2:=fS s (n+2);have b3:=fS s (n+3)
  rw[al (n:=(n:Int)+1),al (n:=(n:Int)+2),al (n:=(n:Int)+3),h0,show(n:Int)+1=((n+1:Nat):Int) by omega,h1,
   show(n:Int)+2=((n+2:Nat):Int) by omega,h2,show(n:Int)+3=((n+3:Nat):Int) by omega,h3]
  simp only[ak,af,ah,ab,ax];rw[kz,kz,kz,e0,e1,e2,e3];generalize bR s n=p0 at*;generalize bR s (n+1)=p1 at*;generalize bR s (n+2)=p2 at*;generalize bR s (n+3)=p3 at*;have f24:ow 24=24:=rfl;have f16:ow 16=16:=rfl;have f8:ow 8=8:=rfl
  rw[iZ (n:=p0),iZ (n:=p1),iZ (n:=p2),iZ (n:=p3),f24,f16,f8,
   show((p0:Nat):Int)*2^24=((2^24*p0:Nat):Int) by omega,show((p1:Nat):Int)*2^16=((2^16*p1:Nat):Int) by omega,show((p2:Nat):Int)*2^8=((2^8*p2:Nat):Int) by omega,
   iZ (n:=2^24*p0),iZ (n:=2^16*p1),iZ (n:=2^8*p2),Il p0 24 (2^16*p1),
   show 2^24*p0+2^16*p1=2^16*(2^8*p0+p1) by omega,Il _ 16 (2^8*p2),
   show 2^16*(2^8*p0+p1)+2^8*p2=2^8*(2^8*(2^8*p0+p1)+p2) by omega,Il _ 8 p3]
  congr 1;all_goals omega
def HY (c:Nat):Nat:=if c%2=1 then(c/2)^^^3988292384 else c/2
def wk:Nat->Nat->Nat
 |0,c=>c
 |n+1,c=>HY (wk n c)
def arS (c:Nat)(s:Bytes):Nat:=s.foldl (λc b=>wk 8 (c^^^b.toNat)) c
def afT (s:Bytes):Int:=4294967295-(arS 4294967295 s:Int)
theorem Dp {b:Nat}(ha:a<4294967296:=by omega)(hb:b<4294967296:=by omega):a^^^b<4294967296:=Nat.xor_lt_two_pow (n:=32) ha hb
theorem ac6 (h:c<4294967296):HY c<4294967296:=by unfold HY;split;exact Dp;omega
theorem IV (h:c<4294967296):∀n,wk n c<4294967296
 |0=>h
 |n+1=>ac6 (IV h n)
theorem aij (k0:Int->Int->aC R)(k:Int->aC R)(hk:∀x y,k0 x y=k x)(v0:Bytes)(v4:Int)(c:Nat)(h:c<4294967296):bp (rz k0 v0 v4) fuel ((c:Int),0)=k (wk 8 c:Int):=by
 have C9:=eR
 have key:=JD (T:=rz k0 v0 v4) 8 (λ(_:Unit) i=>((wk i c:Int),(i:Int))) (λ_ s nx=>nx s) (λ_=>k (wk 8 c:Int))
  (λi s nx hi=>by
   have hc:=IV h i;simp only[rz];have a1:=afK (wk i c) 1;have x1:=acV (wk i c/2) 3988292384 (by omega) (by omega);simp only[Int.natCast_one]at a1
   rw[lH,ah,a1,Nat.and_one_is_mod,
    show ow 1=1 from rfl,show fdiv ((wk i c:Nat):Int) (2^1)=((wk i c/2:Nat):Int) from by rw[Int.fdiv_eq_ediv_of_nonneg _ (by omega)];rfl,
    show(3988292384:Int)=((3988292384:Nat):Int) from rfl,x1,
    iZ (n:=wk i c%2),iZ (n:=(wk i c/2)^^^3988292384) (by have:=Dp (a:=wk i c/2) (b:=3988292384);omega),kz,kz,al (n:=(i:Int)+1)]
   show _=nx ((HY (wk i c):Int),((i+1:Nat):Int));unfold HY;by_cases hp:wk i c%2=1;rw[hp,aJ rfl];rfl;have h0:wk i c%2=0:=by omega
   rw[h0,kz];rfl)
  (λs nx=>by simp only[rz];rw[dw,af,hk])
  fuel 0 () (by omega) (by omega)
 refine key.trans ?_;rfl
theorem ahg (k0:Int->Int->aC R)(k:Int->aC R)(hk:∀x y,k0 x y=k x)(v0:Bytes)(v4:Int)(c:Nat)(h:c<4294967296):bp (rn k0 v0 v4) fuel ((c:Int),0)=k (wk 8 c:Int):=by
 have C9:=eR
 have key:=JD (T:=rn k0 v0 v4) 8 (λ(_:Unit) i=>((wk i c:Int),(i:Int))) (λ_ s nx=>nx s) (λ_=>k (wk 8 c:Int))
  (λi s nx hi=>by
   have hc:=IV h i;simp only[rn];have a1:=anv (wk i c) 1 (by omega) (by omega);have x1:=alg (wk i c/2) 3988292384 (by omega) (by omega);simp only[Int.natCast_one]at a1
   rw[lH,ah,a1,Nat.and_one_is_mod,
    show min (Int.toNat 1) (IntKind.bits .u32)=1 from rfl,show fdiv ((wk i c:Nat):Int) (2^1)=((wk i c/2:Nat):Int) from by rw[Int.fdiv_eq_ediv_of_nonneg _ (by omega)];rfl,
    show(3988292384:Int)=((3988292384:Nat):Int) from rfl,x1,
    Kq (n:=wk i c%2),Kq (n:=(wk i c/2)^^^3988292384) (Dp),kz,al (n:=(i:Int)+1)]
   show _=nx ((HY (wk i c):Int),((i+1:Nat):Int));unfold HY;by_cases hp:wk i c%2=1;rw[hp,aJ rfl];rfl;have h0:wk i c%2=0:=by omega
   rw[h0,kz];rfl)
  (λs nx=>by simp only[rn];rw[dw,af,hk])
  fuel 0 () (by omega) (by omega)
 refine key.trans ?_;rfl
theorem akd (s:Bytes)(h:s.length<=10^9):ET s=some (afT s):=by
 unfold ET;have:=JZ (T:=uO (λ(y4:Int) (_:Int)=>some (ar (4294967295-y4))) s) s (λ(c:Nat) i=>((c:Int),(i:Int))) (λ_ c=>c<4294967296) (λb c=> .ok (wk 8 (c^^^b.toNat))) (λc=>some (4294967295-(c:Int))) (by omega) (λi hi c nx hI=>?hs) (λi hi c c' hI hg=>?hn) (λc nx hI=>?hf) 4294967295 (by omega)
 case hs=>
  have hb:=nv s[i]
  simp only[uO]
  rw[lH,bK hi,ah,ab,iZ (n:=s[i].toNat),acV c s[i].toNat (by omega) (by omega)]
  have hx:=Dp hI (show s[i].toNat<4294967296 by omega)
  rw[iZ,aij _ (λy=>nx (y,(i:Int)+1)) (λx y=>by rw[al]) _ _ _ hx];rfl
 case hn=>
  cases hg
  exact IV (Dp hI (by have:=nv s[i];omega)) 8
 case hf=>
  simp only[uO]
  rw[dw,af,al]
 rw[ND]at this;exact this
theorem not_xor (c:Nat)(h:c<4294967296):toNat (BitVec.ofInt (IntKind.bits .u32) (IntKind.max .u32)^^^BitVec.ofInt (IntKind.bits .u32) (c:Int))=4294967295-c:=by show(BitVec.ofInt 32 4294967295^^^BitVec.ofInt 32 (c:Int)).toNat=_;rw[show BitVec.ofInt 32 4294967295=BitVec.allOnes 32 by decide,dY,BitVec.allOnes_xor,BitVec.toNat_not,eU,fi (show c<2^32 by omega)]
theorem ajC (s:Bytes)(h:s.length<=10^9):Ew s=some (afT s):=by
 unfold Ew;have:=JZ (T:=uA (λ(y4:Int) (_:Int)=>some (ar (IntKind.wrap .u32 (toNat (BitVec.ofInt (IntKind.bits .u32) (IntKind.max .u32)^^^BitVec.ofInt (IntKind.bits .u32) y4))))) s) s (λ(c:Nat) i=>((c:Int),(i:Int))) (λ_ c=>c<4294967296) (λb c=> .ok (wk 8 (c^^^b.toNat))) (λc=>some (4294967295-(c:Int))) (by omega) (λi hi c nx hI=>?hs) (λi hi c c' hI hg=>?hn) (λc nx hI=>?hf) 4294967295 (by omega)
 case hs=>
  have hb:=nv s[i]
  simp only[uA]
  rw[lH,bK hi,ah,ab,Kq (n:=s[i].toNat),alg c s[i].toNat (by omega) (by omega)]
  have hx:=Dp hI (show s[i].toNat<4294967296 by omega)
  rw[Kq hx,ahg _ (λy=>nx (y,(i:Int)+1)) (λx y=>by rw[al]) _ _ _ hx];rfl
 case hn=>
  cases hg
  exact IV (Dp hI (by have:=nv s[i];omega)) 8
 case hf=>
  simp only[uA]
  rw[dw,af,not_xor c hI,Kq,iZ]
  congr 1
  all_goals omega
 rw[ND]at this;exact this
theorem N2 (s:Bytes):aR (dQ s)=s:=by
 unfold aR dQ;rw[List.map_map];conv=>rhs;rw[<-List.map_id s]
 refine List.map_congr_left λb _=>?_;simp
theorem ahs (s t:Bytes):dQ (s++t)=dQ s++dQ t:=cu
theorem Jz (s:Bytes):(dQ s).length=s.length:=cz ..
theorem Vg (l:az α)(i j:Nat)(h:i<=j)(h2:j<=l.length):sub l (i:Int) (j:Int)=some ((l.drop i).take (j-i)):=by unfold sub;rw[zip];simp[List.take_drop,Nat.add_sub_cancel' h]
theorem Yo (a k:Nat):tdiv (a:Int) (k:Int)=((a/k:Nat):Int):=(Int.ofNat_tdiv a k).symm
theorem GA (a k:Nat):tmod (a:Int) (k:Int)=((a%k:Nat):Int):=(Int.ofNat_tmod a k).symm
theorem mem_iff:cY m=true↔(∀x∈m,x.length=128)/\m.length<=64:=by simp only[cY,ae,aL,bn,aG];constructor;rintro⟨h1,h2⟩;exact⟨λx hx=>by have:=h1 x hx;omega,by omega⟩;rintro⟨h1,h2⟩;exact⟨λx hx=>by have:=h1 x hx;omega,by omega⟩
theorem V2:∀{m:cg},(∀x∈m,x.length=128)->m.flatten.length=128*m.length
 |[],_=>rfl
 |x::m,h=>by have:=V2 (m:=m) (λy hy=>h y (by simp[hy]));have:=h x (by simp);simp only[List.flatten_cons,aj,aV];omega
theorem R3:∀{m:cg}(_:∀x∈m,x.length=128)(p:Nat)(hp:p<m.length)(o c:Nat),o+c<=128->(m.flatten.drop (128*p+o)).take c=(m[p].drop o).take c
 |x::m,h,0,hp,o,c,ho=>by have:=h x (by simp);simp only[List.flatten_cons,List.getElem_cons_zero];rw[List.drop_append_of_le_length (by omega),List.take_append_of_le_length (by simp;omega)];simp
 |x::m,h,p+1,hp,o,c,ho=>by have hx:=h x (by simp);simp only[List.flatten_cons,List.getElem_cons_succ];rw[show 128*(p+1)+o=x.length+(128*p+o) by omega,List.drop_length_add_append];exact R3 (m:=m) (λy hy=>h y (by simp[hy])) p (by simpa using hp) o c ho
def CN (m:cg)(a n:Nat):Bytes:=(m.flatten.drop a).take n
theorem Lq (h:cY m=true)(hn:a+n<=128*m.length):(CN m a n).length=n:=by have:=V2 (mem_iff.1 h).1;simp only[CN,aY,aP];omega
theorem ah2 (m:cg)(a n:Nat):(CN m a n).length<=n:=by simp[CN];omega
theorem aeP (m:cg)(a k c:Nat):CN m a (k+c)=CN m a k++CN m (a+k) c:=by unfold CN;rw[List.take_add,eZ]
theorem P3 (h:cY m=true){p:Nat}(hp:p<m.length)(ho:o+c<=128)(ha:a=128*p+o):(m[p].drop o).take c=CN m a c:=by subst ha;exact(R3 (mem_iff.1 h).1 p hp o c ho).symm
def iT (m:cg)(a n:Int):Bool:=cY m&&decide (0<=n/\0<=a/\a+n<=128*(m.length:Int))
theorem F5 (m:cg)(a n:Int)(h:m.length<=10^9):vW m a n=some (iT m a n):=by unfold vW iT;rw[Ib m h,ab,al (n:=(m.length:Int)*128)];cases hm:cY m with|false=>rfl|true=>simp only[ah,bC];by_cases h1:n>=0;by_cases h2:n<=(m.length:Int)*128;rw[al (n:=(m.length:Int)*128-n)];by_cases h3:a>=0;simp only[aw h1,aw h2,aw h3,ah,ab];exact congrArg some (decide_eq_decide.2 (by omega));simp only[aw h1,aw h2,au h3,ah,af,ab];exact congrArg some (dw).symm;simp only[aw h1,au h2,ah,af,ab];exact congrArg some (dw).symm;simp only[au h1,af,ab];exact congrArg some (dw).symm
theorem Mz (m:cg)(a n:Int)(h:m.length<=10^9):pN m a n=some (iT m a n):=by unfold pN iT;rw[ER m h,ab,al (n:=128*(m.length:Int))];cases hm:cY m with|false=>rfl|true=>simp only[ah,bC];by_cases h1:n>=0;by_cases h3:a>=0;by_cases h2:a<=128*(m.length:Int);rw[al (n:=128*(m.length:Int)-a)];simp only[aw h1,aw h2,aw h3,ah,ab];exact congrArg some (decide_eq_decide.2 (by omega));simp only[aw h1,au h2,aw h3,ah,af,ab];exact congrArg some (dw).symm;simp only[aw h1,au h3,ah,af,ab];exact congrArg some (dw).symm;simp only[au h1,af,ab];exact congrArg some (dw).symm
theorem Jp (hm:cY m=true)(K:Int->dA->aC R):∀(n r k a f:Nat),r<=n->n<f->a+k+r<=128*m.length->
 bp (mN K ((k+r:Nat):Int) m) f (((a+k:Nat):Int),dQ (CN m a k))=K ((a+k+r:Nat):Int) (dQ (CN m a (k+r)))
 |n,r,k,a,0,_,hf,_=>by omega
 |n,0,k,a,f+1,hr,hf,hb=>by rw[bp];simp only[mN,Jz,Lq hm (show a+k<=128*m.length by omega),eE];rw[dw,af]
 |0,r+1,k,a,f+1,hr,hf,hb=>by omega
 |n+1,r+1,k,a,f+1,hr,hf,hb=>by
  have h64:=(mem_iff.1 hm).2;have hl:=Lq hm (show a+k<=128*m.length by omega);obtain⟨p,hp⟩:∃p,(a+k)/128=p:=⟨_,rfl⟩
  obtain⟨o,ho⟩:∃o,(a+k)%128=o:=⟨_,rfl⟩
  have hpo:a+k=128*p+o:=by omega
  have ho2:o<128:=by omega
  have Er:p<m.length:=by omega
  obtain⟨c,hc⟩:∃c,min (r+1) (128-o)=c:=⟨_,rfl⟩
  have hpg:=(mem_iff.1 hm).1 _ (bF Er);have e1:tdiv ((a+k:Nat):Int) 128=(p:Int):=by rw[<-hp];exact Yo (a+k) 128
  have e2:tmod ((a+k:Nat):Int) 128=(o:Int):=by rw[<-ho];exact GA (a+k) 128
  have key:=Jp hm K n (r+1-c) (k+c) a f (by omega) (by omega) (by omega);rw[bp];simp only[mN,Jz,hl,e1,e2];rw[lH,ah,kz,al (n:=(p:Int)),bK Er,ab,kz];rw[al (n:=(o:Int)+((k+(r+1):Nat):Int)),al (n:=(o:Int)+((k+(r+1):Nat):Int)-(k:Int))];rw[show(if(o:Int)+((k+(r+1):Nat):Int)-(k:Int)<128 then(o:Int)+((k+(r+1):Nat):Int)-(k:Int) else 128)=((o+c:Nat):Int) by split<;>omega];rw[Vg _ _ _ (by omega) (by omega),ab,show o+c-o=c by omega,P3 hm Er (show o+c<=128 by omega) hpo];have BD:=Lq hm (show a+k+c<=128*m.length by omega);rw[BD,bf,al,<-ahs,<-aeP];rw[show((a+k:Nat):Int)+(c:Int)=((a+(k+c):Nat):Int) by omega];rw[show k+c+(r+1-c)=k+(r+1) by omega,show a+(k+c)+(r+1-c)=a+k+(r+1) by omega]at key;exact key
theorem ahp (m:cg)(a n:Int)(h:m.length<=10^9):qK m a n=some (bif iT m a n then(CN m a.toNat n.toNat,true) else([],false)):=by have C9:=eR;unfold qK;rw[F5 m a n h,ab];cases hw:iT m a n with|false=>rfl|true=>simp only[iT,ae,aG]at hw;obtain⟨hm,h1,h2,h3⟩:=hw;have h64:=(mem_iff.1 hm).2;simp only[ak,af,ah];rw[zip,bf];obtain⟨a,rfl⟩:=aA h2;obtain⟨n,rfl⟩:=aA h1;have:=Jp hm (λ(y4:Int) (y5:dA)=>some (aR y5,true)) n n 0 a fuel (by omega) (by omega) (by omega);rw[cP,eE]at this;refine Eq.trans this ?_;simp only[N2,ax]
def Ii (d p:Int)(w:Bool)(x:aH):Bool:=sQ d p x&&(x.2.2.2|| !w)
def sR (l:az aH)(d p:Int)(w:Bool):Int:=match l.findIdx? (Ii d p w)with|some i=>(l.getD i M9).2.2.1|none=> -1
theorem ais (l:az aH)(d p:Int)(w:Bool)(h:l.length<=10^9):Bn l d p w=some (sR l d p w):=by unfold Bn sR;refine Eq.trans (GO (p:=Ii d p w) (hit:=λi=>aa (idx l i) λx=>some x.2.2.1) (fin:=some (-1)) l (by omega) (λi hi nx=>?_) (λnx=>?_)) ?_;simp only[vz];rw[lH,bK hi,al];simp only[ah,ab,Ii,sQ];cases l[i].1==d<;>cases l[i].2.1==p<;>cases l[i].2.2.2<;>cases w<;>rfl;simp only[vz];rw[dw];rfl;cases hf:l.findIdx? (Ii d p w)with|none=>rfl|some i=>obtain⟨hi,_⟩:=List.findIdx?_eq_some_iff_getElem.1 hf;simp only[bK hi,ab,cO hi]
theorem JL (h:gy l=true)(hi:i<l.length):K4 l[i]=true/\∀j (hj:j<i),sQ l[i].1 l[i].2.1 (l[j]'(by omega))=false:=by simp only[gy,ae,aL,cB]at h;have:=h.2 i hi;simp only[Pv,ae,aL,cB,cO hi,aN]at this;exact⟨this.1,λj hj=>by have:=this.2 j hj;rwa[cO (by omega)]at this⟩
theorem K3 {p:Int}{m:aH}:sQ d p m=true↔m.1=d/\m.2.1=p:=by simp[sQ]
theorem ahB (h:gy l=true){p:Int}{j:Nat}(hi:i<l.length)(hj:j<l.length)(h1:sQ d p l[i]=true)(h2:sQ d p l[j]=true):i=j:=by have a:=K3.1 h1;have b:=K3.1 h2;rcases Nat.lt_trichotomy i j with h3|h3|h3;have:=(JL h hj).2 i h3;rw[b.1,b.2,h1]at this;cases this;exact h3;have:=(JL h hi).2 j h3;rw[a.1,a.2,h2]at this;cases this
theorem PH (h:gy l=true)(d p:Int)(w:Bool)(h1:0<=sR l d p w):sR l d p w<=63/\0<=p/\p<=1023:=by unfold sR at h1⊢;cases hf:l.findIdx? (Ii d p w)with|none=>rw[hf]at h1;simp at h1|some i=>obtain⟨hi,h2,_⟩:=List.findIdx?_eq_some_iff_getElem.1 hf;have h3:=(JL h hi).1;simp only[Ii,ae,K3]at h2;simp only[K4,ae,aS]at h3;simp only[cO hi];omega
theorem adM (l:az aH)(d:Int)(a:Nat)(w:Bool)(h:l.length<=10^9)(hm:gy l=true)(ha:a<=9223372036854775807): EA l d (a:Int) w=some (if 0<=sR l d ((a/128:Nat):Int) w then sR l d ((a/128:Nat):Int) w*128+((a%128:Nat):Int) else-1):=by
 have e1:tdiv (a:Int) 128=((a/128:Nat):Int):=Yo a 128;have e2:tmod (a:Int) 128=((a%128:Nat):Int):=GA a 128;unfold EA;rw[dw,af,kz,e1,e2,al,WO l _ _ h,ab];generalize ((a/128:Nat):Int)=p;have ux:=PH hm d p w;unfold Xz;cases hf:l.findIdx? (sQ d p)with
 |none=>
  have hn:sR l d p w= -1:=by unfold sR;rw[List.findIdx?_eq_none_iff]at hf;rw[List.findIdx?_eq_none_iff.2 (λx hx=>by rw[Ii,hf x hx];rfl)]
  rw[hn];rfl
 |some i=>
  obtain⟨hi,h2,h3⟩:=List.findIdx?_eq_some_iff_getElem.1 hf;simp only;rw[dw,bK hi];simp only[af,ab];cases hq:l[i].2.2.2|| !w with
  |true=>
   have hF:sR l d p w=l[i].2.2.1:=by unfold sR;rw[List.findIdx?_eq_some_iff_getElem.2 ⟨hi,by rw[Ii,h2,hq];rfl,λj hj=>by have:=h3 j hj;rw[Ii,Bool.eq_false_iff.2 this];simp⟩];exact congrArg (λx:aH=>x.2.2.1) (cO hi M9)
   have h4:=(JL hm hi).1;simp only[K4,ae,aS]at h4
   rw[hF,aJ (show 0<=l[i].2.2.1 by omega),show(aa (cond w (some (!l[i].2.2.2)) (some false)) λq3=>cond q3 (some (-1:Int)) _)=_ from by
    have:(cond w (some (!l[i].2.2.2)) (some false))=some false:=by cases w<;>cases hz:l[i].2.2.2<;>rw[hz]at hq<;>first|rfl|cases hq
    rw[this,ab,af]]
   rw[aI (show¬(128:Nat)=0 by omega),al (n:=l[i].2.2.1*128),al]
  |false=>
   have hF:sR l d p w= -1:=by unfold sR;rw[List.findIdx?_eq_none_iff.2 (λx hx=>by obtain⟨j,hj,rfl⟩:=gA hx;cases hx2:sQ d p l[j]with|false=>rw[Ii,hx2];rfl|true=>have:=ahB hm hi hj h2 hx2;subst this;rw[Ii,hq];simp)]
   rw[hF,aI (show¬(0:Int)<= -1 by omega)];cases w with|false=>simp at hq|true=>simp only[ak,Bool.or_false]at hq;simp only[ah,hq,ab,cl]
def lY (l:az aH)(m:cg)(d:Int)(w:Bool):Nat->Nat->Nat->aC (az (Int×Int))
 |0,_,_=>some []
 |n+1,a,r=>if r=0 then some [] else
  if 0<=sR l d ((a/128:Nat):Int) w/\sR l d ((a/128:Nat):Int) w<(m.length:Int) then
   (lY l m d w n (a+min (128-a%128) r) (r-min (128-a%128) r)).map (λq=>(sR l d ((a/128:Nat):Int) w*128+((a%128:Nat):Int),((min (128-a%128) r:Nat):Int))::q)
  else none
theorem E3 (hm:cY m=true){f:Int}(h0:0<=f)(hc:0<c:=by omega)(ho:o+c<=128:=by omega):iT m (f*128+(o:Int)) (c:Int)=decide (f<(m.length:Int)):=by rw[iT,hm,bC];exact decide_eq_decide.2 (by omega)
theorem Yy (hm:cY m=true){f:Int}(h0:0<=f):iT m (f*128) 128=decide (f<(m.length:Int)):=by rw[iT,hm,bC];exact decide_eq_decide.2 (by omega)
theorem Jr (hl:gy l=true)(hL:l.length<=10^9)(hm:cY m=true)(d:Int)(w:Bool):∀(n a r f:Nat)(acc:az (Int×Int)),r<=n->n<f->acc.length+n<=1000000->a<=9223372036854775807->
 bp (sM (λ(y9:Int) (Ed:Int) (Fq:az (Int×Int))=>some (Fq,true)) (λ(Kt:Int) (Kr:Int) (GH:az (Int×Int)) (IC:Bool) (Ku:az (Int×Int))=>some (GH,IC)) l d w ([]:az (Int×Int)) false m) f ((a:Int),(r:Int),acc)
  =match lY l m d w n a r with|some q=>some (acc++q,true)|none=>some ([],false)
 |n,a,r,0,acc,_,hf,_,_=>by omega
 |0,a,r,f+1,acc,hr,hf,hA,ha=>by rw[bp];simp only[sM];rw[dw];simp[lY]
 |n+1,a,r,f+1,acc,hr,hf,hA,ha=>by
  have h64:=(mem_iff.1 hm).2;rw[bp];simp only[sM,lY];by_cases h0:r=0;rw[dw,aJ h0];simp;have e2:tmod (a:Int) 128=((a%128:Nat):Int):=GA a 128;have ux:=PH hl d ((a/128:Nat):Int) w;rw[lH,aI h0,adM l d a w hL hl ha,ab,kz,e2,al (n:=128-((a%128:Nat):Int))];obtain⟨c,hc⟩:∃c,min (128-a%128) r=c:=⟨_,rfl⟩
  rw[hc,show(if 128-((a%128:Nat):Int)<(r:Int) then 128-((a%128:Nat):Int) else(r:Int))=(c:Int) by split<;>omega];generalize hP:sR l d ((a/128:Nat):Int) w=P at ux⊢;by_cases hP0:0<=P;have ux:=ux hP0;simp only[aJ hP0,ah];rw[au (show¬P*128+((a%128:Nat):Int)<0 by omega),F5 m _ _ (by omega),E3 hm hP0];simp only[af,ab];by_cases hP1:P<(m.length:Int);rw[aw hP1,aJ ⟨hP0,hP1⟩];simp only[ak,af];rw[bf (by simp;omega),al (n:=(a:Int)+(c:Int)),al (n:=(r:Int)-(c:Int)),au (show¬(a:Int)+(c:Int)<0 by omega)];simp only[af,ab];have key:=Jr hl hL hm d w n (a+c) (r-c) f (acc++[(P*128+((a%128:Nat):Int),(c:Int))]) (by omega) (by omega) (by simp;omega) (by omega);rw[show((a+c:Nat):Int)=(a:Int)+(c:Int) by omega,show((r-c:Nat):Int)=(r:Int)-(c:Int) by omega]at key;rw[key];cases lY l m d w n (a+c) (r-c)with|none=>rfl|some q=>simp
  rw[au hP1,kz];rfl;simp only[aI hP0,ah];rw[kz,lH];rfl
theorem J9 (hl:gy l=true)(hL:l.length<=10^9)(hm:cY m=true)(d:Int)(w:Bool):∀(n a r f:Nat)(acc:az (Int×Int)),r<=n->n<f->acc.length+n<=1000000->a<=9223372036854775807->
 bp (mE (λ(Ed:Int) (Fq:Int) (Kt:dA) (Kr:dA)=>some (Kt,Kr,true)) (λ(GH:Int) (IC:Int) (Ku:dA) (Tq:dA) (QG:Bool) (Vu:dA) (y20:dA)=>some (Ku,Tq,QG)) l d w ([]:dA) ([]:dA) false m) f ((a:Int),(r:Int),acc.map (·.1),acc.map (·.2))
  =match lY l m d w n a r with|some q=>some ((acc++q).map (·.1),(acc++q).map (·.2),true)|none=>some ([],[],false)
 |n,a,r,0,acc,_,hf,_,_=>by omega
 |0,a,r,f+1,acc,hr,hf,hA,ha=>by rw[bp];simp only[mE];rw[dw];simp[lY]
 |n+1,a,r,f+1,acc,hr,hf,hA,ha=>by
  have h64:=(mem_iff.1 hm).2;rw[bp];simp only[mE,lY];by_cases h0:r=0;rw[dw,aJ h0];simp;have e1:tdiv (a:Int) 128=((a/128:Nat):Int):=Yo a 128;have e2:tmod (a:Int) 128=((a%128:Nat):Int):=GA a 128;have ux:=PH hl d ((a/128:Nat):Int) w;rw[aw (show(r:Int)>0 by omega),aw (show(a:Int)>=0 by omega),aI h0];simp only[ah];rw[kz,e1,e2,al (n:=((a/128:Nat):Int)),ais l _ _ w hL,ab,kz,al (n:=128-((a%128:Nat):Int))];obtain⟨c,hc⟩:∃c,min (128-a%128) r=c:=⟨_,rfl⟩
  rw[hc,show(if 128-((a%128:Nat):Int)<(r:Int) then 128-((a%128:Nat):Int) else(r:Int))=(c:Int) by split<;>omega];generalize hP:sR l d ((a/128:Nat):Int) w=P at ux⊢;by_cases hP0:0<=P;have ux:=ux hP0;rw[au (show¬P<0 by omega),al (n:=P*128),Mz m _ _ (by omega),Yy hm hP0];simp only[af,ab];by_cases hP1:P<(m.length:Int);rw[aw hP1,aJ ⟨hP0,hP1⟩];simp only[ak,af];rw[bf (by simp;omega),bf (by simp;omega),al (n:=P*128+((a%128:Nat):Int)),al (n:=(a:Int)+(c:Int)),al (n:=(r:Int)-(c:Int))];have key:=J9 hl hL hm d w n (a+c) (r-c) f (acc++[(P*128+((a%128:Nat):Int),(c:Int))]) (by omega) (by omega) (by simp;omega) (by omega);rw[show((a+c:Nat):Int)=(a:Int)+(c:Int) by omega,show((r-c:Nat):Int)=(r:Int)-(c:Int) by omega,cu,cu]at key;refine Eq.trans key ?_;cases lY l m d w n (a+c) (r-c)with|none=>rfl|some q=>simp
  rw[au hP1,kz];rfl;rw[kz,lH];rfl
def lP (l:az aH)(m:cg)(d a n:Int)(w:Bool):az (Int×Int)×Bool:=
 bif gy l&&(cY m&&dD n 0 4096) then
  (bif n==0 then([],true) else bif decide (a<0) then([],false) else match lY l m d w n.toNat a.toNat n.toNat with|some q=>(q,true)|none=>([],false))
 else([],false)
theorem WT (l:az aH)(m:cg)(d a n:Int)(w:Bool)(hl:l.length<=10^9)(hm:m.length<=10^9)(ha:a<=9223372036854775807):zF l m d a n w=some (lP l m d a n w):=by
 have C9:=eR;unfold zF lP;simp only[Jm l hl,Ib m hm,dE,ab];cases hB:gy l;rfl;cases hM:cY m;rfl;cases hN:dD n 0 4096;rfl;have hn:=aS.1 hN;simp only[ak,af,ab,cK,ah];cases h0:n==0;case true=>rfl
 by_cases hA:a<0;rw[aw hA];rfl;rw[au hA];simp only[af];obtain⟨a,rfl⟩:=aA (show 0<=a by omega);obtain⟨n,rfl⟩:=aA hn.1;rw[Jr hB hl hM d w n a n fuel [] (by omega) (by omega) (by simp;omega) (by omega)];simp only[ax];cases lY l m d w n a n<;>rfl
theorem ae9 (l:az aH)(m:cg)(d a n:Int)(w:Bool)(hl:l.length<=10^9)(hm:m.length<=10^9)(ha:a<=9223372036854775807):zl l m d a n w=some ((lP l m d a n w).1.map (·.1),(lP l m d a n w).1.map (·.2),(lP l m d a n w).2):=by
 have C9:=eR;unfold zl lP;simp only[J7 l hl,ER m hm,dR,ab];cases hB:gy l;rfl;cases hM:cY m;rfl;cases hN:dD n 0 4096;rfl;have hn:=aS.1 hN;simp only[ak,af,ab,cK,ah];obtain⟨n,rfl⟩:=aA hn.1;cases h0:((n:Int)==0)with
 |true=>
  have:n=0:=by simpa using h0
  subst this;obtain⟨f,hf⟩:∃f,fuel=f+1:=⟨fuel-1,by omega⟩
  rw[hf,bp];rfl
 |false=>
  have hn0:n≠0:=by simpa using h0
  by_cases hA:a<0;obtain⟨f,hf⟩:∃f,fuel=f+1:=⟨fuel-1,by omega⟩
  rw[aw hA,hf,bp];simp only[mE];rw[lH,dw];rfl;rw[au hA];simp only[af];obtain⟨a,rfl⟩:=aA (show 0<=a by omega);refine Eq.trans (J9 hB hl hM d w n a n fuel [] (by omega) (by omega) (by simp;omega) (by omega)) ?_;simp only[ax];cases lY l m d w n a n<;>rfl
def acW (a b:Int):Int:=(nR a b).getD 0
theorem NF (a b:Int):nR a b=some (acW a b):=by
 unfold acW;have:∃x,nR a b=some x:=by simp only[nR,dR,ab];cases dD a 0 65535<;>cases dD b 0 65535<;>cases decide (ar (a+b)>65535)<;>exact⟨_,rfl⟩
 obtain⟨x,hx⟩:=this;rw[hx];rfl
theorem WH (a b:Int):AO a b=some (acW a b):=NF a b
theorem ajc {a b:Int}(h:0<=a/\a<=65535)(k:0<=b/\b<=65535):0<=acW a b/\acW a b<=65535:=by have e:=NF a b;simp only[nR,dR,ab,aS.2 h,aS.2 k,ak,af]at e;rw[al (n:=a+b)]at e;by_cases hc:a+b>65535;rw[aw hc,ah,al]at e;rw[<-bQ e];omega;rw[au hc,af]at e;rw[<-bQ e];omega
def sw (s:Bytes):Nat->Int
 |0=>0
 |j+1=>acW (sw s j) ((bR s (2*j)*256+bR s (2*j+1):Nat):Int)
theorem acM (s:Bytes):∀j,0<=sw s j/\sw s j<=65535
 |0=>by simp[sw]
 |j+1=>by have b0:=fS s (2*j);have b1:=fS s (2*j+1);exact ajc (acM s j) (by omega)
theorem HX (h:s.length<=i:=by omega):bR s i=0:=by unfold bR;rw[bc,bS h];rfl
theorem akj (s:Bytes)(h:s.length<=10^9):zh s=some (sw s ((s.length+1)/2)):=by
 unfold zh;refine fe (λj=>(sw s j,((2*j:Nat):Int))) ((s.length+1)/2) (by omega) (λj nx hj=>?_) (λnx=>?_);have b0:=fS s (2*j);have b1:=fS s (2*j+1);obtain⟨x,hx,ex⟩:=nC (s:=s) (i:=2*j);simp only[tR];rw[lH,ah,hx,ab,kz,al (n:=((2*j:Nat):Int)+1),al (n:=((2*j:Nat):Int)+2),ex,iZ];have e8:ow 8=8:=rfl;have en:((2*j:Nat):Int)+2=((2*(j+1):Nat):Int):=by omega
 rw[e8,al (n:=((bR s (2*j):Nat):Int)*2^8)];by_cases hc:2*j+1<s.length;obtain⟨y,hy,ey⟩:=nC (s:=s) (i:=2*j+1) hc;rw[lH,ah,show((2*j:Nat):Int)+1=((2*j+1:Nat):Int) by omega,hy,ab,ey,iZ (n:=bR s (2*j+1)),al,NF,ab,en,show((bR s (2*j):Nat):Int)*2^8+((bR s (2*j+1):Nat):Int)=((bR s (2*j)*256+bR s (2*j+1):Nat):Int) by omega];rfl;have hz:=HX (s:=s) (i:=2*j+1);rw[dw,af,NF,ab,en,show((bR s (2*j):Nat):Int)*2^8=((bR s (2*j)*256+bR s (2*j+1):Nat):Int) by rw[hz];omega];rfl;simp only[tR];rw[dw];rfl
theorem ajJ (s:Bytes)(h:s.length<=10^9):yO s=some (sw s ((s.length+1)/2)):=by
 unfold yO;refine fe (λj=>(sw s j,((2*j:Nat):Int))) ((s.length+1)/2) (by omega) (λj nx hj=>?_) (λnx=>?_);have b0:=fS s (2*j);have b1:=fS s (2*j+1);obtain⟨x,hx,ex⟩:=nC (s:=s) (i:=2*j);simp only[tC];rw[lH,ah,hx,ab,kz,al (n:=((2*j:Nat):Int)+1),al (n:=((2*j:Nat):Int)+2),ex,iZ];have e8:ow 8=8:=rfl;have en:((2*j:Nat):Int)+2=((2*(j+1):Nat):Int):=by omega
 rw[e8,show((bR s (2*j):Nat):Int)*2^8=((2^8*bR s (2*j):Nat):Int) by omega,iZ (n:=2^8*bR s (2*j))];by_cases hc:2*j+1<s.length;obtain⟨y,hy,ey⟩:=nC (s:=s) (i:=2*j+1) hc;rw[lH,ah,show((2*j:Nat):Int)+1=((2*j+1:Nat):Int) by omega,hy,ab,ey,iZ (n:=bR s (2*j+1)),Il (bR s (2*j)) 8 (bR s (2*j+1)),WH,ab,en,show 2^8*bR s (2*j)+bR s (2*j+1)=bR s (2*j)*256+bR s (2*j+1) by omega];rfl;have hz:=HX (s:=s) (i:=2*j+1);rw[dw,af,WH,ab,en,show((2^8*bR s (2*j):Nat):Int)=((bR s (2*j)*256+bR s (2*j+1):Nat):Int) by rw[hz];omega];rfl;simp only[tC];rw[dw];rfl
def MX (s:Bytes):Int:=65535-sw s ((s.length+1)/2)
theorem U0 (s:Bytes)(h:s.length<=10^9):ry s=some (MX s):=by have:=acM s ((s.length+1)/2);simp only[ry,akj s h,ab];rw[al];rfl
theorem Nz (s:Bytes)(h:s.length<=10^9):kC s=some (MX s):=by have:=acM s ((s.length+1)/2);simp only[kC,ajJ s h,ab];rw[al];rfl
def xi (s:Bytes)(a:Int)(p:Bytes):Bytes:=bif fR s a (p.length:Int) then(s.take a.toNat++p)++s.drop (a.toNat+p.length) else s
theorem zL (s:Bytes)(a:Int)(p:Bytes):(xi s a p).length=s.length:=by unfold xi;cases hw:fR s a (p.length:Int)with|false=>rfl|true=>simp only[fR,aG]at hw;simp only[ah,aj,aY,aP];omega
theorem XM (s:Bytes)(a:Int)(p:Bytes)(h:s.length<=10^9)(hw:fR s a (p.length:Int)=true): (aa (sub s 0 a) λx2=>room (List.length x2+List.length p) (aa (sub s (ar (a+((List.length p:Int)))) ((List.length s:Int))) λx3=>room (List.length (x2++p)+List.length x3) (some ((x2++p)++x3))))=some (xi s a p):=by
 have hw':=hw;simp only[fR,aG]at hw';obtain⟨n,rfl⟩:=aA hw'.1;have e1:sub s 0 (n:Int)=some (s.take n):=by unfold sub;rw[zip];rfl
 have e2:sub s (((n+p.length:Nat):Int)) (s.length:Int)=some (s.drop (n+p.length)):=by unfold sub;rw[zip,ax,ax,fg]
 rw[e1,al,show(n:Int)+(p.length:Int)=((n+p.length:Nat):Int) by omega,e2,ab,bf (by simp only[aY];omega),ab,bf (by simp only[aj,aY,aP];omega)];unfold xi;rw[hw];rfl
theorem J8 (s:Bytes)(a:Int)(p:Bytes)(h:s.length<=10^9:=by omega):jI s a p=some (xi s a p):=by unfold jI;rw[Gv s a _ h,ab];cases hw:fR s a (p.length:Int)with|false=>simp only[cl,ah,xi,hw,af]|true=>exact XM s a p h hw
theorem Ev (s:Bytes)(a:Int)(p:Bytes)(h:s.length<=10^9:=by omega)(hp:p.length<=10^9:=by omega):gS s a p=some (xi s a p):=by
 unfold gS;rw[al (n:=(s.length:Int)-(p.length:Int))];cases hw:fR s a (p.length:Int)with
 |true=>have hw':=hw;simp only[fR,aG]at hw';rw[au (show¬a<0 by omega),au (show¬a>(s.length:Int)-(p.length:Int) by omega)];exact XM s a p h hw
 |false=>
  have hp:xi s a p=s:=by unfold xi;rw[hw];rfl
  rw[hp];simp only[fR,cG]at hw;by_cases h0:a<0;rw[aw h0];rfl;rw[au h0,aw (show a>(s.length:Int)-(p.length:Int) by omega)];rfl
def bs2 (x y:Int):Bytes:=aR [x,y]
theorem TA (x y:Int):(bs2 x y).length=2:=rfl
def yT (a b k n:Int):Bool:=dD a 0 4294967295&&(dD b 0 4294967295&&(dD k 0 255&&dD n 0 65535))
def xh (a b k n:Int):Bytes:=((eo a++eo b)++bs2 0 (gX k))++aW n
theorem Ln (a b k n:Int):(xh a b k n).length<=12:=by have:=eP a;have:=eP b;have:=bO n;simp only[xh,aj,TA];omega
theorem Ir (a b k n:Int):nS a b k n=some (bif yT a b k n then(xh a b k n,true) else([],false)):=by have:=eP a;have:=eP b;have:=bO n;unfold nS yT;simp only[dR,ab,od,lF];cases dD a 0 4294967295;rfl;cases dD b 0 4294967295;rfl;cases dD k 0 255;rfl;cases dD n 0 65535;rfl;simp only[ak,af,cK,ah,ab];have e:(aR [0,gX k]).length=2:=rfl;rw[bf,bf (by simp only[aj,e];omega),bf (by simp only[aj,e];omega)];rfl
theorem Pc (a b k n:Int):rX a b k n=some (bif yT a b k n then(xh a b k n,true) else([],false)):=Ir a b k n
def bare (g:fE):Bytes:=bif g.1==6 then
    (((((aW g.2.1++aW g.2.2.1)++eo g.2.2.2.1)++eo g.2.2.2.2.1)++bs2 80 (gX g.2.2.2.2.2.1))++aW g.2.2.2.2.2.2.1)++eo 0++g.2.2.2.2.2.2.2
 else(((aW g.2.1++aW g.2.2.1)++aW (8+(g.2.2.2.2.2.2.2.length:Int)))++aW 0)++g.2.2.2.2.2.2.2
theorem Nl (g:fE):(bare g).length<=20+g.2.2.2.2.2.2.2.length:=by have:=bO g.2.1;have:=bO g.2.2.1;have:=eP g.2.2.2.1;have:=eP g.2.2.2.2.1;have:=bO g.2.2.2.2.2.2.1;have:=eP 0;have:=bO 0;have:=bO (8+(g.2.2.2.2.2.2.2.length:Int));unfold bare;cases g.1==6<;>simp only[ah,af,aj,TA]<;>omega
theorem To:aW 0++aW 0=eo 0:=by rfl
theorem ahf (g:fE)(h:g.2.2.2.2.2.2.2.length<=1000000):tH g=some (bare g):=by have:=bO g.2.1;have:=bO g.2.2.1;have:=eP g.2.2.2.1;have:=eP g.2.2.2.2.1;have:=bO g.2.2.2.2.2.2.1;have:=bO 0;have:=bO (8+(g.2.2.2.2.2.2.2.length:Int));have e:∀x,(aR [80,gX x]).length=2:=λ_=>rfl;unfold tH bare;rw[al (n:=8+(g.2.2.2.2.2.2.2.length:Int))];simp only[mK,B4,ab];rw[bf];cases g.1==6 with|true=>simp only[ah];rw[bf (by simp only[aj,e];omega),bf (by simp only[aj,e];omega),bf (by simp only[aj,e];omega),bf (by simp only[aj,e];omega),bf (by simp only[aj,e];omega),bf (by simp only[aj,e];omega),bf (by simp only[aj,e];omega)];rw[<-To];simp only[bs2,aE]|false=>simp only[af];rw[bf (by simp only[aj];omega),bf (by simp only[aj];omega),bf (by simp only[aj];omega)]
def Th (a b:Int)(g:fE):Int:=bif (MX (xh a b g.1 ((bare g).length:Int)++bare g)==0)&&(g.1==17) then 65535 else MX (xh a b g.1 ((bare g).length:Int)++bare g)
def CO (a b:Int)(g:fE):Bytes:=xi (bare g) (bif g.1==6 then 16 else 6) (aW (Th a b g))
def EO (a b:Int)(g:fE):Bool:=sA g&&yT a b g.1 ((bare g).length:Int)
def Ak (a b:Int)(g:fE):Bytes×Bool:=bif EO a b g then(CO a b g,true) else([],false)
theorem D4 {g:fE}(h:sA g=true):g.2.2.2.2.2.2.2.length<=320:=by simp only[sA,ae,aN,cG]at h;omega
theorem Gu (a b:Int)(g:fE):lp a b g=some (Ak a b g):=by
 unfold lp Ak EO;rw[acI,ab];cases hg:sA g;rfl;have hb:=D4 hg;have hl:=Nl g;have hp:=Ln a b g.1 ((bare g).length:Int);have:=bO g.2.1;have:=bO g.2.2.1;have:=eP g.2.2.2.1;have:=eP g.2.2.2.2.1;have:=bO g.2.2.2.2.2.2.1;have:=eP 0;have:=bO 0;have:=bO (8+(g.2.2.2.2.2.2.2.length:Int));have e:∀x,(aR [80,gX x]).length=2:=λ_=>rfl;rw[al (n:=8+(g.2.2.2.2.2.2.2.length:Int))];simp only[lF,od,ab,ak,af,bC];rw[bf];cases h6:g.1==6 with
 |true=>
  have agT:bare g=(((((aW g.2.1++aW g.2.2.1)++eo g.2.2.2.1)++eo g.2.2.2.2.1)++aR [80,gX g.2.2.2.2.2.1])++aW g.2.2.2.2.2.2.1)++eo 0++g.2.2.2.2.2.2.2:=by unfold bare;rw[h6];rfl
  simp only[ah];rw[bf (by simp only[aj,e];omega),bf (by simp only[aj,e];omega),bf (by simp only[aj,e];omega),bf (by simp only[aj,e];omega),bf (by simp only[aj,e];omega),bf (by simp only[aj,e];omega),<-agT,Ir,ab];cases yT a b g.1 ((bare g).length:Int);rfl;simp only[ah,ak,af];rw[bf,U0 _ (by simp only[aj];omega)];simp only[ab,cb,J8 _ _ _ (show(bare g).length<=10^9 by omega),CO,Th,h6,ah,cF];cases (MX (xh a b g.1 ((bare g).length:Int)++bare g)==0)&&(g.1==17)<;>rfl
 |false=>
  have agT:bare g=(((aW g.2.1++aW g.2.2.1)++aW (8+(g.2.2.2.2.2.2.2.length:Int)))++aW 0)++g.2.2.2.2.2.2.2:=by unfold bare;rw[h6];rfl
  simp only[af];rw[bf (by simp only[aj];omega),bf (by simp only[aj];omega),bf (by simp only[aj];omega),<-agT,Ir,ab];cases yT a b g.1 ((bare g).length:Int);rfl;simp only[ah,ak,af];rw[bf,U0 _ (by simp only[aj];omega)];simp only[ab,cb,J8 _ _ _ (show(bare g).length<=10^9 by omega),CO,Th,h6,af,cF];cases (MX (xh a b g.1 ((bare g).length:Int)++bare g)==0)&&(g.1==17)<;>rfl
theorem F4 (a b:Int)(g:fE):kZ a b g=some (Ak a b g):=by
 unfold kZ Ak EO;rw[acj,ab];cases hg:sA g;rfl;have hb:=D4 hg;have hl:=Nl g;have hp:=Ln a b g.1 ((bare g).length:Int);have KQ:gK g.1=some (bif g.1==6 then 16 else 6):=by unfold gK;rw[cb]
 have w1:=bO 65535;have w2:=bO (MX (xh a b g.1 ((bare g).length:Int)++bare g));simp only[ahf g (by omega),Pc,ab,ak,af,bC];cases yT a b g.1 ((bare g).length:Int);rfl;simp only[ah,ak,af];rw[bf,Nz _ (by simp only[aj];omega)];simp only[ab,cb,KQ,mK,Ev _ _ _ (show(bare g).length<=10^9 by omega) (show(aW 65535).length<=10^9 by omega),Ev _ _ _ (show(bare g).length<=10^9 by omega) (show(aW (MX (xh a b g.1 ((bare g).length:Int)++bare g))).length<=10^9 by omega),CO,Th,cF];rw[Bool.and_comm];cases (MX (xh a b g.1 ((bare g).length:Int)++bare g)==0)&&(g.1==17)<;>rfl
theorem acE (a b:Int)(g:fE):(Ak a b g).1.length<=340:=by unfold Ak;cases h:EO a b g with|false=>exact bM _|true=>simp only[EO,ae]at h;have:=D4 h.1;have:=Nl g;show(xi _ _ _).length<=340;rw[zL];omega
theorem ia (a:cg)(h:a.length<=1073741824:=by omega):dJ a=some a:=by simp only[dJ,mz];rw[bf (by simpa using h)];rfl
theorem ED (a:cg)(h:a.length<=1073741824:=by omega):nU a=some a:=by simp only[nU];rw[bf (by simpa using h)];rfl
def AD (x:Bytes)(o:Nat)(t:Bytes):Bytes:=x.take o++(t++x.drop (o+t.length))
theorem SI (h:o+t.length<=x.length):(AD x o t).length=x.length:=by simp only[AD,aj,aY,aP];omega
theorem aeE (x:Bytes)(o:Nat)(t:Bytes):aR (DU (dQ x) o (dQ t))=AD x o t:=by
 have e:DU (dQ x) o (dQ t)=dQ (AD x o t):=by simp only[DU,AD,dQ,cu,List.map_take,List.map_drop,cz]
 rw[e,N2]
theorem ahZ (h:o+t.length<=x.length):xi x (o:Int) t=AD x o t:=by unfold xi fR;rw[aw ⟨by omega,by omega⟩];simp only[ah,ax,AD,aE]
def xO:Nat->cg->Nat->Bytes->cg
 |0,m,_,_=>m
 |n+1,m,a,s=>if s.length=0 then m else
  xO n (m.set (a/128) (AD (m.getD (a/128) []) (a%128) (s.take (128-a%128)))) (a+min (128-a%128) s.length) (s.drop (128-a%128))
def EG (m:cg):Prop:=(∀x∈m,x.length=128)/\m.length<=64
theorem pz:cY m=true↔EG m:=mem_iff
theorem Li {p:Nat}(h:EG m)(hx:x.length=128):EG (m.set p x):=by refine⟨λy hy=>?_,by rw[aD];exact h.2⟩;rcases fI hy with g|g;exact h.1 y g;rw[g];exact hx
theorem IB (h:EG m)(hs:s.length≠0)(ha:a+s.length<=128*m.length): ∃(hp:a/128<m.length),(m[a/128]'hp).length=128/\(AD (m[a/128]'hp) (a%128) (s.take (128-a%128))).length=128:=by
 have hp:a/128<m.length:=by omega
 have hl:=h.1 _ (bF hp);refine⟨hp,hl,?_⟩;rw[SI (by rw[aY,hl];omega),hl]
theorem Bw:∀(n:Nat){m:cg}{a:Nat}{s:Bytes},EG m->a+s.length<=128*m.length->EG (xO n m a s)/\(xO n m a s).length=m.length
 |0,m,a,s,h,_=>⟨h,rfl⟩
 |n+1,m,a,s,h,ha=>by rw[xO];split;exact⟨h,rfl⟩;rename_i hs;obtain⟨hp,hl,ho⟩:=IB h hs ha;rw[cO hp];have:=Bw n (m:=m.set (a/128) (AD m[a/128] (a%128) (s.take (128-a%128)))) (a:=a+min (128-a%128) s.length) (s:=s.drop (128-a%128)) (Li h ho) (by rw[aD,aP];omega);rw[aD]at this;exact this
theorem HB (K:Int->Bytes->cg->aC R)(K':cg->aC R)(hK:∀a m,K a [] m=K' m):∀(n:Nat)(m:cg)(a:Nat)(s:Bytes)(f:Nat),s.length<=n->n<f->EG m->a+s.length<=128*m.length->
 bp (oG K ([]:cg)) f ((a:Int),s,m)=K' (xO n m a s)
 |n,m,a,s,0,_,hf,_,_=>by omega
 |n,m,a,s,f+1,hs,hf,hm,ha=>by
  rw[bp];simp only[oG];by_cases h0:s.length=0;have:s=[]:=cp h0;subst this;rw[au (by simp),af,hK];cases n<;>simp[xO];cases n with
  |zero=>omega
  |succ n=>
   obtain⟨hp,hl,ho⟩:=IB hm h0 ha;have h64:=hm.2;have e1:tdiv (a:Int) 128=((a/128:Nat):Int):=Yo a 128;have e2:tmod (a:Int) 128=((a%128:Nat):Int):=GA a 128;rw[lH,ah,kz,e1,e2,al (n:=((a/128:Nat):Int)),bK hp,ab,bf,kz];have rE:sub (dQ m[a/128]) ((a%128:Nat):Int) ((dQ m[a/128]).length:Int)=some ((dQ m[a/128]).drop (a%128)):=by rw[Vg _ _ _ (by rw[Jz];omega) (aX _),bW (by rw[aP];exact aX _)]
   rw[rE,ab,kz,ab,ab];have hd:((dQ m[a/128]).drop (a%128)).length=128-a%128:=by rw[aP,Jz,hl]
   rw[hd];have hdr:s.drop (min (128-a%128) s.length)=s.drop (128-a%128):=by by_cases h3:128-a%128<=s.length;rw[jv h3];rw[Nat.min_eq_right (by omega),cx (aX _),cx (by omega)]
   have an4:sub s (((min (128-a%128) s.length:Nat)):Int) ((s.length:Int))=some (s.drop (128-a%128)):=by rw[<-hdr];unfold sub;rw[zip];simp
   rw[an4,ab,al (n:=(a:Int)+((min (128-a%128) s.length:Nat):Int)),ax,ax,aeE];rw[xO,aI h0,cO hp,show(a:Int)+((min (128-a%128) s.length:Nat):Int)=((a+min (128-a%128) s.length:Nat):Int) by omega];exact HB K K' hK n _ _ _ f (by rw[aP];omega) (by omega) (Li hm ho) (by rw[aD,aP];omega)
theorem HK (K:Int->Bytes->cg->aC R)(K':cg->aC R)(hK:∀a m,K a [] m=K' m):∀(n:Nat)(m:cg)(a:Nat)(s:Bytes)(f:Nat),s.length<=n->n<f->EG m->a+s.length<=128*m.length->
 bp (oM K ([]:cg)) f ((a:Int),s,m)=K' (xO n m a s)
 |n,m,a,s,0,_,hf,_,_=>by omega
 |n,m,a,s,f+1,hs,hf,hm,ha=>by
  rw[bp];simp only[oM];by_cases h0:s.length=0;have:s=[]:=cp h0;subst this;rw[au (by simp),af,hK];cases n<;>simp[xO];cases n with
  |zero=>omega
  |succ n=>
   obtain⟨hp,hl,ho⟩:=IB hm h0 ha;have h64:=hm.2;have e1:tdiv (a:Int) 128=((a/128:Nat):Int):=Yo a 128;have e2:tmod (a:Int) 128=((a%128:Nat):Int):=GA a 128;rw[lH,ah,kz,kz,kz,e1,e2,al (n:=((a/128:Nat):Int)),al (n:=128-((a%128:Nat):Int)),bK hp,ab];obtain⟨c,hc⟩:∃c,min (128-a%128) s.length=c:=⟨_,rfl⟩
   rw[show(if 128-((a%128:Nat):Int)<(s.length:Int) then 128-((a%128:Nat):Int) else(s.length:Int))=(c:Int) by split<;>omega];have ht:s.take c=s.take (128-a%128):=by by_cases h3:128-a%128<=s.length;rw[<-hc,jv h3];rw[<-hc,Nat.min_eq_right (by omega),bW (aX _),bW (by omega)]
   have hdr:s.drop c=s.drop (128-a%128):=by by_cases h3:128-a%128<=s.length;rw[<-hc,jv h3];rw[<-hc,Nat.min_eq_right (by omega),cx (aX _),cx (by omega)]
   have hs1:sub s 0 (c:Int)=some (s.take (128-a%128)):=by rw[<-ht];unfold sub;rw[zip];simp
   have hs2:sub s (c:Int) (s.length:Int)=some (s.drop (128-a%128)):=by rw[<-hdr];unfold sub;rw[zip];simp
   rw[hs1,ab,J8 _ _ _,ab,ab,ab,hs2,ab,ahZ (by rw[aY,hl];omega),al (n:=(a:Int)+(c:Int)),ax];rw[xO,aI h0,cO hp,hc,show(a:Int)+(c:Int)=((a+c:Nat):Int) by omega];exact HK K K' hK n _ _ _ f (by rw[aP];omega) (by omega) (Li hm ho) (by rw[aD,aP];omega)
def nV (m:cg)(a:Int)(s:Bytes):cg×Bool:=bif iT m a (s.length:Int) then(xO s.length m a.toNat s,true) else(m,false)
theorem aap (m:cg)(a:Int)(s:Bytes)(h:m.length<=10^9)(hs:s.length<=10^9):tG m a s=some (nV m a s):=by have C9:=eR;unfold tG nV;rw[ia m,ab,F5 m _ _ h,ab];cases hw:iT m a (s.length:Int);rfl;simp only[iT,ae,aG]at hw;obtain⟨a,rfl⟩:=aA hw.2.2.1;simp only[ak,af,ah,ax];exact HB _ (λm=>some (m,true)) (λ_ _=>rfl) s.length m a s fuel (aX _) (by omega) (pz.1 hw.1) (by omega)
theorem abm (m:cg)(a:Int)(s:Bytes)(h:m.length<=10^9)(hs:s.length<=10^9):tT m a s=some (nV m a s):=by have C9:=eR;unfold tT nV;rw[ED m,ab,Mz m _ _ h,ab];cases hw:iT m a (s.length:Int);rfl;simp only[iT,ae,aG]at hw;obtain⟨a,rfl⟩:=aA hw.2.2.1;simp only[ak,af,ah,ax];exact HK _ (λm=>some (m,true)) (λ_ _=>rfl) s.length m a s fuel (aX _) (by omega) (pz.1 hw.1) (by omega)
theorem GG (m:cg)(a:Int)(s:Bytes):(nV m a s).1.length=m.length:=by unfold nV;cases hw:iT m a (s.length:Int);rfl;simp only[iT,ae,aG]at hw;exact(Bw s.length (pz.1 hw.1) (by omega)).2
def Hn:az (Int×Int)->cg->Bytes->cg
 |[],m,_=>m
 |p::q,m,s=>Hn q (nV m p.1 (s.take p.2.toNat)).1 (s.drop p.2.toNat)
theorem XI:∀(q:az (Int×Int))(m:cg)(s:Bytes),(Hn q m s).length=m.length
 |[],m,s=>rfl
 |p::q,m,s=>by rw[Hn,XI q,GG]
def Nk (q:az (Int×Int)):Int:=(q.map (·.2)).sum
theorem acL:∀(q:az (Int×Int)),(∀p∈q,0<=p.2)->0<=Nk q
 |[],_=>eV _
 |p::q,h=>by have:=acL q (λx hx=>h x (by simp[hx]));have:=h p (by simp);simp only[Nk,cS,gv]at*;omega
theorem XN {p:Int×Int}{q:az (Int×Int)}(hc:∀x∈p::q,0<=x.2)(hs:(s.length:Int)=Nk (p::q)):0<=p.2/\p.2<=(s.length:Int)/\((s.drop p.2.toNat).length:Int)=Nk q:=by
 have h1:=hc p (by simp);have h2:=acL q (λx hx=>hc x (by simp[hx]));have h3:Nk (p::q)=p.2+Nk q:=by simp[Nk]
 rw[h3]at hs;refine⟨h1,by omega,?_⟩;rw[aP];omega
theorem Tg {c:Int}(h0:0<=c)(h1:c<=(s.length:Int)):sub s 0 c=some (s.take c.toNat):=by unfold sub;rw[zip];simp
theorem Yh {c:Int}(h0:0<=c)(h1:c<=(s.length:Int)):sub s c (s.length:Int)=some (s.drop c.toNat):=by unfold sub;rw[zip];simp
theorem Ma (K:Bytes->Int->cg->aC (cg×Bool))(hK:∀s i m,K s i m=some (m,true)):∀(rest pre:az (Int×Int))(m:cg)(s:Bytes)(f:Nat),rest.length<f->pre.length+rest.length<=1000000->(∀x∈rest,0<=x.2)->(s.length:Int)=Nk rest->m.length<=10^9->s.length<=1000000->
 bp (zE K (pre++rest) ((pre++rest).length:Int) ([]:cg)) f (s,(pre.length:Int),m)=some (Hn rest m s,true)
 |rest,pre,m,s,0,hf,_,_,_,_,_=>by omega
 |[],pre,m,s,f+1,_,_,_,_,_,_=>by rw[bp];simp only[zE];rw[au (by simp),af,hK];rfl
 |p::q,pre,m,s,f+1,hf,hn,hc,hs,hm,hl=>by
  obtain⟨h1,h2,h3⟩:=XN hc hs;simp only[aV]at hf hn;have hi:pre.length<(pre++p::q).length:=by simp
  have hp:(pre++p::q)[pre.length]=p:=by simp
  rw[bp];simp only[zE];rw[aw (by simp;omega),bK hi,hp,al];simp only[ah,ab,Tg h1 h2,Yh h1 h2,aap m _ _ hm (show(s.take p.2.toNat).length<=10^9 by rw[aY];omega)];have key:=Ma K hK q (pre++[p]) (nV m p.1 (s.take p.2.toNat)).1 (s.drop p.2.toNat) f (by omega) (by simp;omega) (λx hx=>hc x (by simp[hx])) h3 (by rw[GG];exact hm) (by rw[aP];omega);have el:((pre++[p]).length:Int)=(pre.length:Int)+1:=by simp
  rw[aE,gI,el]at key;rw[Hn];exact key
theorem My (K:Bytes->Int->cg->aC (cg×Bool))(hK:∀s i m,K s i m=some (m,true)):∀(rest pre:az (Int×Int))(m:cg)(s:Bytes)(f:Nat),rest.length<f->pre.length+rest.length<=1000000->(∀x∈rest,0<=x.2)->(s.length:Int)=Nk rest->m.length<=10^9->s.length<=1000000->
 bp (pE K ((pre++rest).map (·.1)) ((pre++rest).map (·.2)) ([]:cg)) f (s,(pre.length:Int),m)=some (Hn rest m s,true)
 |rest,pre,m,s,0,hf,_,_,_,_,_=>by omega
 |[],pre,m,s,f+1,_,_,_,_,_,_=>by rw[bp];simp only[pE];rw[au (by simp),af,hK];rfl
 |p::q,pre,m,s,f+1,hf,hn,hc,hs,hm,hl=>by
  obtain⟨h1,h2,h3⟩:=XN hc hs;simp only[aV]at hf hn;have hi:pre.length<(pre++p::q).length:=by simp
  have hp:(pre++p::q)[pre.length]=p:=by simp
  have i1:idx ((pre++p::q).map (·.1)) (pre.length:Int)=some p.1:=by rw[bK (by simp),List.getElem_map,hp]
  have i2:idx ((pre++p::q).map (·.2)) (pre.length:Int)=some p.2:=by rw[bK (by simp),List.getElem_map,hp]
  rw[bp];simp only[pE];rw[aw (by simp;omega),i1,i2,al];simp only[ah,ab,Tg h1 h2,Yh h1 h2,abm m _ _ hm (show(s.take p.2.toNat).length<=10^9 by rw[aY];omega)];have key:=My K hK q (pre++[p]) (nV m p.1 (s.take p.2.toNat)).1 (s.drop p.2.toNat) f (by omega) (by simp;omega) (λx hx=>hc x (by simp[hx])) h3 (by rw[GG];exact hm) (by rw[aP];omega);have el:((pre++[p]).length:Int)=(pre.length:Int)+1:=by simp
  rw[aE,gI,el]at key;rw[Hn];exact key
theorem PL (l:az aH)(m:cg)(d:Int)(w:Bool):∀(n a r:Nat)(q:az (Int×Int)),r<=n->lY l m d w n a r=some q->Nk q=(r:Int)/\(∀p∈q,0<=p.2)/\q.length<=n
 |0,a,r,q,hr,h=>by simp only[lY,bw]at h;subst h;exact⟨by show(0:Int)=_;omega,by simp,by simp⟩
 |n+1,a,r,q,hr,h=>by simp only[lY]at h;split at h;simp only[bw]at h;subst h;exact⟨by show(0:Int)=_;omega,by simp,by simp⟩;split at h;simp only[Option.map_eq_some_iff]at h;obtain⟨q',h1,rfl⟩:=h;obtain⟨i1,i2,i3⟩:=PL l m d w n _ _ q' (by omega) h1;refine⟨?_,?_,by simp only[aV];omega⟩;simp only[Nk,cS,gv]at i1⊢;rw[i1];omega;intro p hp;rcases cD.1 hp with rfl|hp;show(0:Int)<=((min (128-a%128) r:Nat):Int);omega;exact i2 p hp;cases h
theorem S4 (l:az aH)(m:cg)(d a n:Int)(w:Bool)(h:(lP l m d a n w).2=true):Nk (lP l m d a n w).1=n/\(∀p∈(lP l m d a n w).1,0<=p.2)/\(lP l m d a n w).1.length<=4096/\n<=4096:=by
 unfold lP at h⊢;cases hB:gy l&&(cY m&&dD n 0 4096)with|false=>rw[hB]at h;simp at h|true=>?_
 rw[hB]at h;simp only[ae,aS]at hB;simp only[ah]at h⊢;cases h0:n==0 with
 |true=>
  have:n=0:=by simpa using h0
  subst this;exact⟨rfl,by simp,by simp,by omega⟩
 |false=>rw[h0]at h;simp only[af]at h⊢;cases ha:decide (a<0)with|true=>rw[ha]at h;simp at h|false=>rw[ha]at h;simp only[af]at h⊢;cases hq:lY l m d w n.toNat a.toNat n.toNat with|none=>rw[hq]at h;cases h|some q=>obtain⟨i1,i2,i3⟩:=PL l m d w _ _ _ q (aX _) hq;exact⟨by simp only;rw[i1];omega,i2,by simp only;omega,by omega⟩
def hZ (l:az aH)(m:cg)(d a:Int)(s:Bytes)(w:Bool):cg×Bool:=
 bif (lP l m d a (s.length:Int) w).2 then(Hn (lP l m d a (s.length:Int) w).1 m s,true) else(m,false)
theorem lN (l:az aH)(m:cg)(d a:Int)(s:Bytes)(w:Bool):(hZ l m d a s w).1.length=m.length:=by unfold hZ;cases (lP l m d a (s.length:Int) w).2 with|false=>rfl|true=>exact XI _ _ _
theorem WS (l:az aH)(m:cg)(d a:Int)(s:Bytes)(w:Bool)(hl:l.length<=10^9)(hm:m.length<=10^9)(ha:a<=9223372036854775807):F7 l m d a s w=some (hZ l m d a s w):=by have C9:=eR;unfold F7 hZ;rw[ia m,ab,WT l m d a _ w hl hm ha,ab];have hS:=S4 l m d a (s.length:Int) w;generalize lP l m d a (s.length:Int) w=r at hS⊢;cases hr:r.2;rfl;obtain⟨h1,h2,h3,h4⟩:=hS hr;simp only[ak,af,ah];exact Ma _ (λ_ _ _=>rfl) r.1 [] m s fuel (by omega) (by simp;omega) h2 h1.symm hm (by omega)
theorem J5 (l:az aH)(m:cg)(d a:Int)(s:Bytes)(hl:l.length<=10^9)(hm:m.length<=10^9)(ha:a<=9223372036854775807):uP l m d a s=some (hZ l m d a s true):=by have C9:=eR;unfold uP hZ;rw[ae9 l m d a _ true hl hm ha,ab,ED m,ab];have hS:=S4 l m d a (s.length:Int) true;generalize lP l m d a (s.length:Int) true=r at hS⊢;cases hr:r.2;rfl;obtain⟨h1,h2,h3,h4⟩:=hS hr;simp only[ak,af,ah];exact My _ (λ_ _ _=>rfl) r.1 [] m s fuel (by omega) (by simp;omega) h2 h1.symm hm (by omega)
theorem Et (l:az aH)(m:cg)(d a:Int)(s:Bytes)(hl:l.length<=10^9)(hm:m.length<=10^9)(ha:a<=9223372036854775807):rp l m d a s=some (hZ l m d a s true):=by rw[rp,WS l m d a s true hl hm ha];rfl
def wrM (x:aH):aH:=(x.1,x.2.1,x.2.2.1,true)
theorem getD_map (hi:i<l.length):(l.map wrM).getD i M9=wrM (l.getD i M9):=by rw[cO (by simpa using hi),cO hi,List.getElem_map]
theorem UD (l:az aH):gy (l.map wrM)=gy l:=by
 unfold gy;rw[cz];congr 1;rw[dU,aL,aL];have key:∀i,i<l.length->Pv (l.map wrM) i=Pv l i:=by
  intro i hi;unfold Pv;rw[getD_map hi];congr 1;rw[dU,aL,aL];constructor;intro h j hj;have hjl:j<l.length:=by have:=cB.1 hj;omega
  have:=h j hj;rw[getD_map hjl]at this;exact this;intro h j hj;have hjl:j<l.length:=by have:=cB.1 hj;omega
  rw[getD_map hjl];exact h j hj
 constructor;intro h i hi;rw[<-key i (cB.1 hi)];exact h i hi;intro h i hi;rw[key i (cB.1 hi)];exact h i hi
theorem ahU (l:az aH)(d p:Int):sR (l.map wrM) d p true=sR l d p false:=by
 unfold sR;rw[List.findIdx?_map];have e:(Ii d p true∘wrM)=Ii d p false:=by funext x;simp only[Function.comp,Ii,sQ,wrM,cl,ly,jU]
 rw[e];cases hf:l.findIdx? (Ii d p false)with|none=>rfl|some i=>obtain⟨hi,_⟩:=List.findIdx?_eq_some_iff_getElem.1 hf;simp only[getD_map hi];rfl
theorem SL (l:az aH)(m:cg)(d:Int):∀n a r,lY (l.map wrM) m d true n a r=lY l m d false n a r
 |0,a,r=>rfl
 |n+1,a,r=>by simp only[lY,ahU,SL l m d n]
theorem aj5 (l:az aH)(m:cg)(d a:Int)(s:Bytes):hZ (l.map wrM) m d a s true=hZ l m d a s false:=by
 have e:lP (l.map wrM) m d a (s.length:Int) true=lP l m d a (s.length:Int) false:=by simp only[lP,UD,SL]
 simp only[hZ,e]
theorem Ro (l:az aH)(m:cg)(d a:Int)(s:Bytes)(hl:l.length<=10^9)(hm:m.length<=10^9)(ha:a<=9223372036854775807):xv l m d a s=some (hZ l m d a s false):=by unfold xv;refine fe (λi=>((l.take i).map wrM,(i:Int))) l.length (by omega) (λi nx hi=>?_) (λnx=>?_);simp only[si];rw[lH,bK hi,al];simp only[ah,ab];rw[bf (by simp;omega),bZ hi,cu];rfl;simp only[si];rw[dw,af,fg,J5 _ m d a s (by rw[cz];exact hl) hm ha,aj5];rfl
theorem Db (l:az aH)(m:cg)(d a:Int)(s:Bytes)(hl:l.length<=10^9)(hm:m.length<=10^9)(ha:a<=9223372036854775807:=by omega):kQ l m d a s=some (hZ l m d a s false):=by rw[kQ,WS l m d a s false hl hm ha];rfl
def pV (d:E5):Bool:=dD d.1 0 3&&(dD d.2.1 0 3&&(dD d.2.2.1 0 65535&&(dD d.2.2.2.2.1 0 65535&&(dD d.2.2.2.2.2 0 65535&&dD d.2.2.2.1 0 4294967295))))
theorem WK (d:E5):zB d=some (pV d):=by simp only[zB,dE,ab,pV];cases dD d.1 0 3<;>cases dD d.2.1 0 3<;>cases dD d.2.2.1 0 65535<;>cases dD d.2.2.2.2.1 0 65535<;>cases dD d.2.2.2.2.2 0 65535<;>rfl
theorem ail (d:E5):CQ d=some (pV d):=by simp only[CQ,dR,ab,pV];cases dD d.1 0 3<;>cases dD d.2.1 0 3<;>cases dD d.2.2.1 0 65535<;>cases dD d.2.2.2.2.1 0 65535<;>cases dD d.2.2.2.2.2 0 65535<;>rfl
def iJ (d:E5):Bytes:=
 bif pV d then((((aR [gX d.1,gX d.2.1]++aW d.2.2.1)++eo d.2.2.2.1)++aW d.2.2.2.2.1)++aW d.2.2.2.2.2)++eo 0 else []
theorem akf (d:E5):vq d=some (iJ d):=by have h1:=bO d.2.2.1;have h2:=eP d.2.2.2.1;have h3:=bO d.2.2.2.2.1;have h4:=bO d.2.2.2.2.2;have h5:=eP 0;have h0:(aR [gX d.1,gX d.2.1]).length=2:=rfl;unfold vq iJ;rw[ail,ab];cases pV d;rfl;simp only[ak,af,ah,lF,od,ab];rw[bf,bf (by simp only[aj];omega),bf (by simp only[aj];omega),bf (by simp only[aj];omega),bf (by simp only[aj];omega)]
theorem Uu (d:E5):nj d=some (iJ d):=by have h1:=bO d.2.2.1;have h2:=eP d.2.2.2.1;have h3:=bO d.2.2.2.2.1;have h4:=bO d.2.2.2.2.2;have h5:=eP 0;have h0:(aR [gX d.1,gX d.2.1]).length=2:=rfl;unfold nj iJ;rw[WK,ab];cases pV d;rfl;simp only[ak,af,ah,mK,B4,ab];rw[bf,bf (by simp only[aj];omega),bf (by simp only[aj];omega),bf (by simp only[aj];omega),bf (by simp only[aj];omega)]
def mJ (r:na):Int:=bif dB r then ar (r.2.1-bN r) else 0
def mi (r:na)(c:Int):Int:=bif !dB r||decide (c<0) then-1 else r.1+tmod c r.2.1*16
theorem mX {r:na}(h:dB r=true):0<=r.1/\r.1<=130944/\(r.2.1=2\/r.2.1=4\/r.2.1=8\/r.2.1=16)/\0<=r.2.2.1/\r.2.2.1<=2*r.2.1-1/\0<=r.2.2.2/\r.2.2.2<=2*r.2.1-1:=by simp only[dB,ae,aS]at h;exact⟨h.1.1,h.1.2,ig.1 h.2.1,h.2.2.1.1,h.2.2.1.2,h.2.2.2.1.1,h.2.2.2.1.2⟩
theorem Gr (r:na)(c:Int): -1<=mi r c/\mi r c<=200000:=by
 unfold mi;cases hc: !dB r||decide (c<0)with
 |true=>exact⟨eV _,by simp⟩
 |false=>
  simp only[cn,dM,cG]at hc;have h:=mX hc.1;have h2:0<=tmod c r.2.1/\tmod c r.2.1<r.2.1:=by rw[cZ (by omega)];exact⟨fV _ (by omega),fY _ (by omega)⟩
  simp only[af];omega
def cW (l:az aH)(m:cg)(d:Int)(r:na)(s:Bytes):cg×na×Bool:=
 bif (mJ r==0)||((s.length:Int) !=16) then(m,r,false) else
 bif !(hZ l m d (mi r r.2.2.2) s true).2 then(m,r,false) else
 ((hZ l m d (mi r r.2.2.2) s true).1,(r.1,r.2.1,r.2.2.1,tmod (r.2.2.2+1) (2*r.2.1)),true)
theorem Lo {a:Int}{w:Bool}(h:(hZ l m d a s w).2=false):(hZ l m d a s w).1=m:=by unfold hZ at h⊢;cases hr:(lP l m d a (s.length:Int) w).2 with|false=>rfl|true=>rw[hr]at h;cases h
theorem LA (r:na):uS r=some (mJ r):=by unfold uS mJ;rw[Gt,ab];cases dB r;rfl;simp only[ak,af,ah,Yd,ab]
theorem afc (r:na)(c:Int):tN r c=some (mi r c):=by
 have ux:=Gr r c;unfold tN;rw[Gt,ab];unfold mi at ux⊢;cases hb:dB r;rfl;have h:=mX hb;by_cases hc:c<0;rw[aw hc];rfl;rw[hb,au hc]at ux;rw[au hc];have h2:0<=tmod c r.2.1/\tmod c r.2.1<r.2.1:=by rw[cZ (by omega)];exact⟨fV _ (by omega),fY _ (by omega)⟩
 simp only[ak,af,ab,bJ]at ux⊢;rw[kz,al (n:=16*tmod c r.2.1),al];congr 1;omega
theorem Ya (l:az aH)(m:cg)(d:Int)(r:na)(s:Bytes)(hl:l.length<=10^9)(hm:m.length<=10^9):Bh l m d r s=some (cW l m d r s):=by
 have hA:=Gr r r.2.2.2;unfold Bh cW;simp only[LA,ab,afc,J5 l m d _ s hl hm (show mi r r.2.2.2<=9223372036854775807 by omega),ED m (show m.length<=1073741824 by omega)];cases hf:mJ r==0;case true=>rfl
 cases (s.length:Int) !=16;case true=>rfl
 have hb:dB r=true:=by cases hb:dB r with|true=>rfl|false=>unfold mJ at hf;rw[hb]at hf;cases hf
 have h:=mX hb;simp only[af,ab,bJ];cases hp:(hZ l m d (mi r r.2.2.2) s true).2 with|false=>simp only[cl,ah,Lo hp]|true=>simp only[ak,af];rw[al (n:=2*r.2.1),kz,al (n:=r.2.2.2+1)]
theorem Se (r:na):uH r=some (mJ r):=by unfold uH mJ;rw[zA,ab];cases dB r;rfl;simp only[ak,af,ah,BZ,ab]
theorem Sk (r:na)(c:Int):pa r c=some (mi r c):=by
 have ux:=Gr r c;unfold pa;rw[zA,ab];unfold mi at ux⊢;cases hb:dB r;rfl;have h:=mX hb;by_cases hc:c<0;rw[aw hc];rfl;rw[hb,au hc]at ux;rw[au hc];have h2:0<=tmod c r.2.1/\tmod c r.2.1<r.2.1:=by rw[cZ (by omega)];exact⟨fV _ (by omega),fY _ (by omega)⟩
 simp only[ak,af,ab,bJ]at ux⊢;rw[kz,al (n:=tmod c r.2.1*16),al]
theorem Mb (l:az aH)(m:cg)(d:Int)(r:na)(s:Bytes)(hl:l.length<=10^9)(hm:m.length<=10^9):wT l m d r s=some (cW l m d r s):=by
 have hA:=Gr r r.2.2.2;unfold wT cW;simp only[Se,ab,Sk,Et l m d _ s hl hm (show mi r r.2.2.2<=9223372036854775807 by omega),ia m (show m.length<=1073741824 by omega)];cases hf:mJ r==0;case true=>rfl
 cases (s.length:Int) !=16;case true=>rfl
 have hb:dB r=true:=by cases hb:dB r with|true=>rfl|false=>unfold mJ at hf;rw[hb]at hf;cases hf
 have h:=mX hb;simp only[af,ab,bJ];cases hp:(hZ l m d (mi r r.2.2.2) s true).2 with|false=>simp only[cl,ah,Lo hp]|true=>simp only[ak,af];rw[al (n:=2*r.2.1),kz,al (n:=r.2.2.2+1)]
theorem AZ {p:dy}(h:du p=true):0<=p.1/\p.1<=130944/\1<=p.2.1/\p.2.1<=512/\0<=p.2.2.1/\p.2.2.1<=16:=by simp only[du,ae,aS]at h;exact⟨h.1.1,h.1.2,h.2.1.1,h.2.1.2,h.2.2.1.1,h.2.2.1.2⟩
def oy (p:dy)(i:Int):Int:=bif !du p|| !dD i 0 (p.2.2.1-1) then-1 else p.1+i*p.2.1
theorem abN {p:dy}{i:Int}(hp:du p=true)(hi:dD i 0 (p.2.2.1-1)=true):ar (p.1+ar (i*p.2.1))=p.1+i*p.2.1:=by have h:=AZ hp;have h2:=aS.1 hi;have h3:0<=i*p.2.1:=Int.mul_nonneg h2.1 (by omega);have h4:i*p.2.1<=16*512:=Int.mul_le_mul (by omega) (by omega) (by omega) (by omega);rw[al (n:=i*p.2.1),al]
theorem aik (p:dy)(i:Int)(h:p.2.2.2.length<=10^9):qv p i=some (oy p i):=by unfold qv oy;rw[zO p h,ab];cases hp:du p;rfl;have ux:=AZ hp;rw[al (n:=p.2.2.1-1),dR];cases hi:dD i 0 (p.2.2.1-1);rfl;simp only[ak,af,ab,bJ,abN hp hi]
theorem Ji (p:dy)(i:Int)(h:p.2.2.2.length<=10^9):gY p i=some (oy p i):=by unfold gY oy;rw[wI p h,ab];cases hp:du p;rfl;have ux:=AZ hp;rw[al (n:=p.2.2.1-1),dE];cases hi:dD i 0 (p.2.2.1-1);rfl;simp only[ak,af,ab,bJ,abN hp hi]
def upto (n:Nat):dA:=(range n).map Int.ofNat
theorem Tk (n:Nat):upto (n+1)=upto n++[(n:Int)]:=by simp[upto,List.range_succ]
theorem aiZ (h:i<n):(upto n).getD i 0=(i:Int):=by rw[cO (by simpa[upto]using h)];simp[upto]
theorem aa3 (a b:Int)(n:Nat)(hn:n<=16):du (a,b,(n:Int),upto n)=du (a,b,(n:Int),[]):=by
 unfold du;congr 3;have h1:(range (upto n).length).all (Dz (n:Int) (upto n))=true:=by
  rw[aL];intro i hi;have hi:i<n:=by simpa[upto]using hi
  simp only[Dz,aiZ hi,ae,aS,aN];refine⟨by omega,?_⟩;rw[Bool.eq_false_iff,ne_eq,List.contains_iff_mem];intro hm;simp only[upto,<-List.map_take,dx]at hm;obtain⟨j,hj,he⟩:=hm;rw[List.take_range]at hj;have:=cB.1 hj;have:(j:Int)=(i:Int):=he;omega
 rw[h1];rfl
def gP (a b n:Int):dy×Bool:=bif du (a,b,n,[]) then((a,b,n,upto n.toNat),true) else((0,0,0,[]),false)
theorem L9 (a b n:Int):wP a b n=some (gP a b n):=by
 unfold wP gP;rw[wI _ (by simp),ab];cases hp:du (a,b,n,[]);rfl;have ux:=AZ hp;obtain⟨n,rfl⟩:=aA (show 0<=n from ux.2.2.2.2.1);have Uf:n<=16:=by have:=ux.2.2.2.2.2;simp only at this;omega
 simp only[ak,af,ah,ax];refine fe (λi=>((i:Int),a,b,(n:Int),upto i)) n (by omega) (λi nx hi=>?_) (λnx=>?_);simp only[vd];rw[lH,bf (by simp[upto];omega),al,Tk];rfl;simp only[vd];rw[dw];rfl
theorem Mx (a b n:Int):xy a b n=some (gP a b n):=by
 have C9:=eR;unfold xy gP;by_cases hn:0<=n/\n<=16;obtain⟨n,rfl⟩:=aA hn.1;have Uf:n<=16:=by omega
 refine fe (λi=>((i:Int),a,b,(n:Int),upto i)) n (by omega) (λi nx hi=>?_) (λnx=>?_);simp only[qS];rw[aw (show(i:Int)<n by omega),aw (show(n:Int)<=16 by omega)];simp only[ah,ab];rw[bf (by simp[upto];omega),al,Tk];rfl;simp only[qS];rw[au (show¬(n:Int)<n by omega)];simp only[af,ab,zO (a,b,(n:Int),upto n) (show(upto n).length<=10^9 by simp[upto];omega),aa3 a b n Uf,ax];cases du (a,b,(n:Int),[])<;>rfl;have hb:du (a,b,n,[])=false:=by cases hp:du (a,b,n,[])with|false=>rfl|true=>have:=AZ hp;exact absurd ⟨this.2.2.2.2.1,this.2.2.2.2.2⟩ hn
 obtain⟨f,hf⟩:∃f,fuel=f+1:=⟨fuel-1,by omega⟩
 rw[hf,bp];simp only[qS];have hc:(cond (decide ((0:Int)<n)) (some (decide (n<=16))) (some false))=some false:=by by_cases h0:(0:Int)<n;rw[aw h0,dw];rfl;rw[au h0];rfl
 rw[hc];simp only[ab,af,zO (a,b,n,[]) (show([]:dA).length<=10^9 by simp),hb];rfl
def fP (p:dy)(b:Int):Bytes:=iJ (3,0,p.2.1,oy p b,0,b)
def kO (l:az aH)(d:Int)(p:dy):dA->cg->na->Nat×cg×na
 |[],m,r=>(0,m,r)
 |b::q,m,r=>bif (cW l m d r (fP p b)).2.2 then
   ((kO l d p q (cW l m d r (fP p b)).1 (cW l m d r (fP p b)).2.1).1+1,(kO l d p q (cW l m d r (fP p b)).1 (cW l m d r (fP p b)).2.1).2)
  else(0,m,r)
theorem xj (l:az aH)(m:cg)(d:Int)(r:na)(s:Bytes):(cW l m d r s).1.length=m.length:=by
 unfold cW;cases (mJ r==0)||((s.length:Int) !=16);case true=>rfl
 cases (hZ l m d (mi r r.2.2.2) s true).2 with|false=>rfl|true=>exact lN ..
theorem KH (l:az aH)(d:Int)(p:dy):∀(q:dA)(m:cg)(r:na),(kO l d p q m r).2.1.length=m.length/\(kO l d p q m r).1<=q.length
 |[],m,r=>⟨rfl,aX _⟩
 |b::q,m,r=>by rw[kO];cases (cW l m d r (fP p b)).2.2 with|false=>exact⟨rfl,bM _⟩|true=>have:=KH l d p q (cW l m d r (fP p b)).1 (cW l m d r (fP p b)).2.1;simp only[ah,aV];exact⟨by rw[this.1,xj],by omega⟩
theorem agN (r:na):0<=mJ r:=by
 unfold mJ;cases hb:dB r with
 |false=>exact eV _
 |true=>
  have h:=mX hb;simp only[dB,ae,aG]at hb;have hu:=hb.2.2.2.2;have h0:0<=bN r:=by unfold bN;split;exact fV _ (by omega);exact eV _
  simp only[ah];rw[al];omega
theorem UO {r:na}(h:¬mJ r>0):cW l m d r s=(m,r,false):=by
 have h0:=agN r;have:mJ r=0:=by omega
 unfold cW;rw[this];rfl
theorem Jk (K:Int->Int->na->cg->aC R)(K':Nat->na->cg->aC R)(hK:∀(c:Nat) i r m,K (c:Int) i r m=K' c r m)(l:az aH)(d:Int)(p p2 p3:dy)(hp:p.2.2.2.length<=10^9)(hl:l.length<=10^9):∀(rest pre:dA)(m:cg)(r:na)(f:Nat),rest.length<f->pre.length+rest.length<=10^9->m.length<=10^9->
 bp (oV K l d (pre++rest) ((pre++rest).length:Int) p ([]:cg) (0,0,0,0) p2 p3) f ((pre.length:Int),(pre.length:Int),r,m)=K' (pre.length+(kO l d p rest m r).1) (kO l d p rest m r).2.2 (kO l d p rest m r).2.1
 |rest,pre,m,r,0,hf,_,_=>by omega
 |[],pre,m,r,f+1,_,_,_=>by rw[bp];simp only[oV];rw[au (by simp),af,hK];rfl
 |b::q,pre,m,r,f+1,hf,hn,hm=>by
  simp only[aV]at hf hn;have hi:pre.length<(pre++b::q).length:=by simp
  have hb:(pre++b::q)[pre.length]=b:=by simp
  rw[bp];simp only[oV];rw[aw (by simp;omega),bK hi,hb];simp only[ah,ab,Ji p b hp,Uu,Mb l m d r _ hl hm];rw[show iJ (3,0,p.2.1,oy p b,0,b)=fP p b from rfl,kO];cases hq:(cW l m d r (fP p b)).2.2 with
  |false=>simp only[cl,ah,af,hK,eE]
  |true=>
   simp only[ak,af,ah];rw[al (n:=(pre.length:Int)+1)];have key:=Jk K K' hK l d p p2 p3 hp hl q (pre++[b]) (cW l m d r (fP p b)).1 (cW l m d r (fP p b)).2.1 f (by omega) (by simp;omega) (by rw[xj];exact hm);have el:((pre++[b]).length:Int)=(pre.length:Int)+1:=by simp
   have el2:(pre++[b]).length=pre.length+1:=by simp
   rw[aE,gI,el,el2]at key;rw[show pre.length+((kO l d p q (cW l m d r (fP p b)).1 (cW l m d r (fP p b)).2.1).1+1)=pre.length+1+(kO l d p q (cW l m d r (fP p b)).1 (cW l m d r (fP p b)).2.1).1 by omega];exact key
theorem J6 (K:Int->na->cg->dy->aC R)(l:az aH)(d:Int)(p p2:dy)(hp:p.2.2.2.length<=10^9)(hl:l.length<=10^9)(A B C:Int):∀(rest:dA)(c:Nat)(m:cg)(r:na)(f:Nat),rest.length<f->c+rest.length<=10^9->m.length<=10^9->
 bp (pG K l d p ([]:cg) (0,0,0,0) p2) f ((c:Int),r,m,A,B,C,rest)=K ((c+(kO l d p rest m r).1:Nat):Int) (kO l d p rest m r).2.2 (kO l d p rest m r).2.1 (A,B,C,rest.drop (kO l d p rest m r).1)
 |rest,c,m,r,0,hf,_,_=>by omega
 |[],c,m,r,f+1,_,_,_=>by
  rw[bp];simp only[pG,LA,ab];have hc:(cond (decide (mJ r>0)) (some (decide ((([]:dA).length:Int)>0))) (some false))=some false:=by cases decide (mJ r>0)<;>rfl
  rw[hc];rfl
 |b::q,c,m,r,f+1,hf,hn,hm=>by
  simp only[aV]at hf hn;rw[bp];simp only[pG,LA,ab];by_cases hr:mJ r>0;rw[aw hr,aw (show(((b::q).length:Nat):Int)>0 by simp)];have hi:idx (b::q) 0=some b:=rfl;have hs:sub (b::q) 1 ((b::q).length:Int)=some q:=by unfold sub;rw[aJ (by simp;omega)];simp
  simp only[ah,ab,hi,aik p b hp,akf,Ya l m d r _ hl hm];rw[show iJ (3,0,p.2.1,oy p b,0,b)=fP p b from rfl,kO];cases hq:(cW l m d r (fP p b)).2.2 with|false=>rfl|true=>simp only[ak,af,ah,hs,ab];rw[kT,al (n:=(c:Int)+1),bX];have key:=J6 K l d p p2 hp hl A B C q (c+1) (cW l m d r (fP p b)).1 (cW l m d r (fP p b)).2.1 f (by omega) (by omega) (by rw[xj];exact hm);rw[show((c+1:Nat):Int)=(c:Int)+1 by omega]at key;refine Eq.trans key ?_;rw[show c+1+(kO l d p q (cW l m d r (fP p b)).1 (cW l m d r (fP p b)).2.1).1=c+((kO l d p q (cW l m d r (fP p b)).1 (cW l m d r (fP p b)).2.1).1+1) by omega];rfl
  rw[au hr,kO,UO hr];rfl
def pW (l:az aH)(m:cg)(d:Int)(r:na)(p:dy):cg×na×dy×Int:=
 bif !dB r|| !du p then(m,r,p,0) else
 ((kO l d p p.2.2.2 m r).2.1,(kO l d p p.2.2.2 m r).2.2,(p.1,p.2.1,p.2.2.1,p.2.2.2.drop (kO l d p p.2.2.2 m r).1),((kO l d p p.2.2.2 m r).1:Int))
theorem WM (l:az aH)(m:cg)(d:Int)(r:na)(p:dy)(hl:l.length<=10^9)(hm:m.length<=10^9)(hp:p.2.2.2.length<=10^9):jG l m d r p=some (pW l m d r p):=by have C9:=eR;unfold jG pW;simp only[ia m (show m.length<=1073741824 by omega),vN p hp,zA,wI p hp,ab];cases dB r;rfl;cases du p;rfl;simp only[ak,af,ab,bJ];have hlen:=(KH l d p p.2.2.2 m r).2;refine(Jk _ (λc r m=>aa (sub p.2.2.2 (c:Int) (p.2.2.2.length:Int)) λx14=>aa (ie x14) λDY=>some (m,r,(p.1,p.2.1,p.2.2.1,DY),(c:Int))) (λ_ _ _ _=>rfl) l d p _ p hp hl p.2.2.2 [] m r fuel (by omega) (by simp;omega) hm).trans ?_;rw[dg,cP,Vg _ _ _ hlen (aX _),ab,bW (by rw[aP];exact aX _),nz _ (by rw[aP];omega)];rfl
theorem aim (l:az aH)(m:cg)(d:Int)(r:na)(p:dy)(hl:l.length<=10^9)(hm:m.length<=10^9)(hp:p.2.2.2.length<=10^9):yY l m d r p=some (pW l m d r p):=by have C9:=eR;unfold yY pW;simp only[ED m (show m.length<=1073741824 by omega),Pm p hp,Gt,zO p hp,ab];cases dB r;rfl;cases du p;rfl;simp only[ak,af,ab,bJ];refine(J6 _ l d p _ hp hl p.1 p.2.1 p.2.2.1 p.2.2.2 0 m r fuel (by omega) (by omega) hm).trans ?_;rw[cP]
theorem PK (l:az aH)(m:cg)(d:Int)(w:Bool):∀(n a r:Nat)(q:az (Int×Int)),lY l m d w n a r=some q->q.length<=n
 |0,a,r,q,h=>by simp only[lY,bw]at h;subst h;simp
 |n+1,a,r,q,h=>by simp only[lY]at h;split at h;simp only[bw]at h;subst h;simp;split at h;simp only[Option.map_eq_some_iff]at h;obtain⟨q',h1,rfl⟩:=h;have:=PK l m d w n _ _ q' h1;simp only[aV];omega;cases h
theorem Lv (l:az aH)(m:cg)(d a n:Int)(w:Bool):(lP l m d a n w).1.length<=4096:=by
 unfold lP;cases hB:gy l&&(cY m&&dD n 0 4096);simp;simp only[ae,aS]at hB;simp only[ah];cases n==0;case true=>simp
 cases decide (a<0);case true=>simp
 simp only[af];split;rename_i q hq;have:=PK _ _ _ _ _ _ _ _ hq;show q.length<=4096;omega;simp
def pA (m:cg)(p:Int×Int):Bytes:=bif iT m p.1 p.2 then CN m p.1.toNat p.2.toNat else []
theorem HH (m:cg)(p:Int×Int):(pA m p).length<=8192:=by unfold pA;cases h:iT m p.1 p.2 with|false=>simp|true=>simp only[iT,ae,aG]at h;have:=ah2 m p.1.toNat p.2.toNat;have:=(mem_iff.1 h.1).2;simp only[ah];omega
theorem xm (m:cg):∀q:az (Int×Int),(q.flatMap (pA m)).length<=8192*q.length
 |[]=>by simp
 |p::q=>by have:=xm m q;have:=HH m p;simp only[List.flatMap_cons,aj,aV];omega
def qE (l:az aH)(m:cg)(d a n:Int):Bytes×Bool:=
 bif (lP l m d a n false).2 then((lP l m d a n false).1.flatMap (pA m),true) else([],false)
theorem T9 {β:Type}(g:α->az β)(l:az α)(i:Nat)(hi:i<l.length):(l.take (i+1)).flatMap g=(l.take i).flatMap g++g l[i]:=by rw[bZ hi,List.flatMap_append];simp
theorem CG (l:az aH)(m:cg)(d a n:Int)(hl:l.length<=10^9)(hm:m.length<=10^9)(ha:a<=9223372036854775807):qc l m d a n=some (qE l m d a n):=by
 unfold qc qE;rw[WT l m d a n false hl hm ha,ab];have hL:=Lv l m d a n false;generalize lP l m d a n false=r at hL⊢;cases hr:r.2;rfl;simp only[ak,af,ah];refine(fe (λi=>((r.1.take i).flatMap (pA m),(i:Int))) r.1.length (by omega) (λi nx hi=>?_) (λnx=>?_));simp only[uY];rw[lH,bK hi,al];have e:qK m r.1[i].1 r.1[i].2=some (pA m r.1[i],iT m r.1[i].1 r.1[i].2):=by rw[ahp m _ _ hm,pA];cases iT m r.1[i].1 r.1[i].2<;>rfl
 have h1:=xm m (r.1.take i);have h2:=HH m r.1[i];simp only[ah,ab,e];rw[bf (by rw[aY]at h1;omega),<-T9];rfl;simp only[uY];rw[dw,fg];rfl
theorem Oi (l:az aH)(m:cg)(d a n:Int):(qE l m d a n).1.length<=100000000:=by have hL:=Lv l m d a n false;have h1:=xm m (lP l m d a n false).1;unfold qE;cases (lP l m d a n false).2 with|false=>simp|true=>simp only[ah];omega
def tn (s:Bytes):zW×Int×Bool:=
 bif ((s.length:Int) !=16)||decide (gn s 12>1) then((0,0,0,0,0),0,false) else((cv s 0,cv s 2,cv s 4,cv s 6,gn s 8),gn s 12,true)
theorem aae (s:Bytes)(h:s.length<=10^9):mT s=some (tn s):=by
 unfold mT tn;cases (s.length:Int) !=16;case true=>rfl
 simp only[yd s _ h,BF s _ h,ab,af,cj];cases decide (gn s 12>1)<;>rfl
def Aj (q:MT):Int:=bif decide (q.2.2<q.2.1) then 1 else 0
theorem Sg (q:MT):xa q=some (Aj q):=by unfold xa Aj;cases decide (q.2.2<q.2.1)<;>rfl
theorem xk {q:MT}(h:gD q=true):0<=q.1/\q.1<=130944/\(q.2.1=2\/q.2.1=4\/q.2.1=8\/q.2.1=16)/\0<=q.2.2/\q.2.2<=2*q.2.1-1:=by simp only[gD,ae,aS]at h;obtain⟨h1,h2,h3⟩:=h;rw[yi h2]at h3;exact⟨h1.1,h1.2,ig.1 h2,h3⟩
def sV (q:MT):Int:=q.1+tmod q.2.2 q.2.1*16
theorem Vm {a b:Int}(h:0<=a:=by omega)(hb:0<b:=by omega):0<=tmod a b/\tmod a b<b:=by rw[cZ h];exact⟨fV _ (by omega),fY _ hb⟩
theorem UZ {q:MT}(h:gD q=true):0<=tmod q.2.2 q.2.1/\tmod q.2.2 q.2.1<16:=by obtain⟨_,_,h3,h4,h5⟩:=xk h;have:=Vm h4 (show 0<q.2.1 by omega);omega
theorem Sl (q:MT)(h:gD q=true):pn q=some (sV q):=by obtain⟨h1,h2,h3,h4,h5⟩:=xk h;have:=UZ h;unfold pn sV;rw[kz,al (n:=tmod q.2.2 q.2.1*16),al]
def ahK (q:MT):MT:=(q.1,q.2.1,tmod (q.2.2+1) (2*q.2.1))
def JO (l:az aH)(m:cg)(d:Int)(q:MT):Bool:=
 gD q&&((qE l m d (sV q) 16).2&&((tn (qE l m d (sV q) 16).1).2.2&&((tn (qE l m d (sV q) 16).1).2.1==Aj q)))
def lM (l:az aH)(m:cg)(d:Int)(q:MT):zW×MT×Bool:=
 bif JO l m d q then((tn (qE l m d (sV q) 16).1).1,ahK q,true) else((0,0,0,0,0),q,false)
theorem WN (l:az aH)(m:cg)(d:Int)(q:MT)(hl:l.length<=10^9)(hm:m.length<=10^9):lK l m d q=some (lM l m d q):=by unfold lK lM JO;rw[KV q,ab];cases hq:gD q;rfl;obtain⟨h1,h2,h3,h4,h5⟩:=xk hq;have hs:=UZ hq;have hd:=Oi l m d (sV q) 16;simp only[ak,af,Sl q hq,ab,CG l m d (sV q) 16 hl hm (by unfold sV;omega),bC];cases (qE l m d (sV q) 16).2;rfl;simp only[ak,af,aae _ (bH hd (by omega)),ab,bC];cases (tn (qE l m d (sV q) 16).1).2.2;rfl;simp only[ak,af,Sg,ab,bC,bne];cases (tn (qE l m d (sV q) 16).1).2.1==Aj q;rfl;simp only[ak,af,ah];rw[al (n:=2*q.2.1),kz,al (n:=q.2.2+1)];rfl
def AJ (l:az aH)(m:cg)(d:Int)(r:bt):Bool:=BK r&&(lM l m d r.2.2.1).2.2
theorem aah (l:az aH)(m:cg)(d:Int)(r:bt)(hl:l.length<=10^9)(hm:m.length<=10^9):qe l m d r=some (AJ l m d r):=by simp only[qe,Pd,WN l m d _ hl hm,ab,AJ];cases BK r<;>rfl
def P0 (h:Host):Bool:=fb h&&(!(decide ((h.2.2.1.2.2.1.length:Int)>0))&&h.2.2.2.1.all (λr=> !(r.2.2.2.2.1||AJ h.2.1 h.1 0 r)))
theorem adN (h:Host)(z:HR h)(hl:dC 1000000000 eG h):tu h=some (P0 h):=by
 have hL:h.2.2.2.1.length<=10^9:=hl.2.2.2.1.1;unfold tu P0;rw[wH h z,ab];cases fb h;rfl;simp only[ak,af,ab,bC];cases decide ((h.2.2.1.2.2.1.length:Int)>0);case true=>rfl
 simp only[af,cl,bC];rw[rj (hit:=some false) (fin:=some true) (λr:bt=> !(r.2.2.2.2.1||AJ h.2.1 h.1 0 r)) h.2.2.2.1 (by omega) (λi hi nx=>?hs) (λnx=>?hf)]
 case hs=>
  simp only[vc]
  rw[lH,bK hi,al]
  simp only[ah,ab,aah _ _ _ _ hl.2.1.1 hl.1.1]
  cases h.2.2.2.1[i].2.2.2.2.1<;>cases AJ h.2.1 h.1 0 h.2.2.2.1[i]<;>rfl
 case hf=>
  simp only[vc]
  rw[dw];rfl
 cases h.2.2.2.1.all (λr=> !(r.2.2.2.2.1||AJ h.2.1 h.1 0 r))<;>rfl
def NV (s:Bytes)(i:Nat):Nat:=bR s (i/8)/2^(7-i%8)%2
theorem IP (s:Bytes)(i:Nat):NV s i<2:=Nat.mod_lt _ (by omega)
theorem VG (b k:Nat)(hb:b<256)(hk:k<=7):ar (toNat (gM (ar (fdiv (b:Int) ((2^k:Nat):Int)))&&&gM 1))=((b/2^k%2:Nat):Int):=by have e:fdiv (b:Int) ((2^k:Nat):Int)=((b/2^k:Nat):Int):=(Int.ofNat_fdiv b (2^k)).symm;have h1:b/2^k<=b:=Nat.div_le_self _ _;rw[e,iZ (n:=b/2^k)];have:=afK (b/2^k) 1;rw[show((1:Nat):Int)=1 from rfl]at this;rw[this,Nat.and_one_is_mod];exact iZ
theorem acf (s:Bytes)(i:Nat)(hi:i/8<s.length:=by omega)(h:s.length<=10^9:=by omega):zD s (i:Int)=some ((NV s i:Nat):Int):=by
 have e1:tdiv (i:Int) 8=((i/8:Nat):Int):=(Int.ofNat_tdiv i 8).symm;have e2:tmod (i:Int) 8=((i%8:Nat):Int):=(Int.ofNat_tmod i 8).symm;unfold zD;rw[kz,e1,al (n:=((i/8:Nat):Int)),bK hi,ab,kz,e2,al (n:=7-((i%8:Nat):Int)),kz];have e3:(2:Int)^(min (Int.toNat (7-((i%8:Nat):Int))) (IntKind.bits .u8))=((2^(7-i%8):Nat):Int):=by rw[show min (Int.toNat (7-((i%8:Nat):Int))) (IntKind.bits .u8)=7-i%8 from by show min _ 8=_;omega];push_cast;rfl
 rw[e3,VG _ _ (nv _) (by omega),NV,bR,cO hi]
theorem acG (s:Bytes)(i:Nat)(hi:i/8<s.length:=by omega)(h:s.length<=10^9:=by omega):zQ s (i:Int)=some ((NV s i:Nat):Int):=by
 have e1:tdiv (i:Int) 8=((i/8:Nat):Int):=(Int.ofNat_tdiv i 8).symm;have e2:tmod (i:Int) 8=((i%8:Nat):Int):=(Int.ofNat_tmod i 8).symm;have hb:=nv s[i/8];unfold zQ;rw[kz,e1,al (n:=((i/8:Nat):Int)),bK hi,ab,kz,e2,al (n:=7-((i%8:Nat):Int)),kz,iZ (n:=s[i/8].toNat)];have e3:(2:Int)^(min (Int.toNat (7-((i%8:Nat):Int))) (IntKind.bits .i64))=((2^(7-i%8):Nat):Int):=by rw[show min (Int.toNat (7-((i%8:Nat):Int))) (IntKind.bits .i64)=7-i%8 from by show min _ 64=_;omega];push_cast;rfl
 have e4:fdiv ((s[i/8].toNat:Nat):Int) ((2^(7-i%8):Nat):Int)=((s[i/8].toNat/2^(7-i%8):Nat):Int):=(Int.ofNat_fdiv _ _).symm;have h1:s[i/8].toNat/2^(7-i%8)<=s[i/8].toNat:=Nat.div_le_self _ _;have key:=VG s[i/8].toNat (7-i%8) hb (by omega);rw[e4,iZ (n:=s[i/8].toNat/2^(7-i%8))]at key;rw[e3,e4,key,NV,bR,cO hi]
def win (s:Bytes)(a:Nat):Nat->Nat
 |0=>0
 |j+1=>2*win s a j+NV s (a+j)
theorem ai1 (s:Bytes)(a:Nat):∀j,win s a j<2^j
 |0=>by simp[win]
 |j+1=>by have:=ai1 s a j;have:=IP s (a+j);rw[win,Nat.pow_succ];omega
theorem QE (s:Bytes)(a j:Nat)(hj:j<=32:=by omega):win s a j<4294967296:=Nat.lt_of_lt_of_le (ai1 s a j) (Nat.pow_le_pow_right (n:=2) (by omega) hj)
def Yw (s:Bytes)(a:Int):Int:=bif ((s.length:Int) !=16)|| !dD a 0 96 then-1 else((win s a.toNat 32:Nat):Int)
theorem ajL (s:Bytes)(a:Int):wO s a=some (Yw s a):=by
 unfold wO Yw;rw[dE];cases hs:(s.length:Int) !=16;case true=>rfl
 cases ha:dD a 0 96;rfl;have h1:=aS.1 ha;have h2:s.length=16:=by simp at hs;omega
 obtain⟨a,rfl⟩:=aA h1.1;simp only[af,ab,ak,bJ,ax];refine fe (λi=>(((win s a i:Nat):Int),((a+i:Nat):Int))) 32 (by omega) (λi nx hi=>?_) (λnx=>?_);have hw:=QE s a i;have hb:=IP s (a+i);simp only[rU];rw[al (n:=(a:Int)+32),lH,ah,kz,acf s (a+i),ab,al (n:=((a+i:Nat):Int)+1)];have e1:ar (((win s a i:Nat):Int)*2^(ow 1))=((2^1*win s a i:Nat):Int):=by have:(2:Int)^(ow 1)=2:=rfl;rw[this,al];omega
 rw[e1,Il _ _ _];rw[show(((a+i:Nat):Int)+1)=((a+(i+1):Nat):Int) by omega];rfl;simp only[rU];rw[al (n:=(a:Int)+32),dw];rfl
theorem akk (s:Bytes)(a:Int):xw s a=some (Yw s a):=by
 unfold xw Yw;rw[dR];cases hs:(s.length:Int) !=16;case true=>rfl
 cases ha:dD a 0 96;rfl;have h1:=aS.1 ha;have h2:s.length=16:=by simp at hs;omega
 obtain⟨a,rfl⟩:=aA h1.1;simp only[af,ab,ak,bJ,ax];refine fe (λi=>(((win s a i:Nat):Int),(i:Int))) 32 (by omega) (λi nx hi=>?_) (λnx=>?_);have hw:=QE s a i;have hb:=IP s (a+i);simp only[sk];rw[lH,ah,al (n:=(a:Int)+(i:Int)),show(a:Int)+(i:Int)=((a+i:Nat):Int) by omega,acG s (a+i),ab,al (n:=(i:Int)+1)];rw[al (n:=2*((win s a i:Nat):Int)),al,win];congr 1;simp only[sk];rw[dw];rfl
def Fg (s v:Bytes):Nat->Nat
 |0=>0
 |i+1=>if NV v i=1 then Fg s v i^^^win s i 32 else Fg s v i
theorem I9 (s v:Bytes):∀i,Fg s v i<4294967296
 |0=>by simp[Fg]
 |i+1=>by have:=I9 s v i;rw[Fg];split;exact Dp this (QE s i 32);exact this
def qG (s v:Bytes):Int:=bif ((s.length:Int) !=16)||decide ((v.length:Int)>12) then-1 else((Fg s v (8*v.length):Nat):Int)
theorem ahi (s v:Bytes):wL s v=some (qG s v):=by
 unfold wL qG;cases hs:(s.length:Int) !=16;case true=>rfl
 cases hv:decide ((v.length:Int)>12);case true=>rfl
 have h2:s.length=16:=by simp at hs;omega
 have h3:v.length<=12:=by simp at hv;omega
 simp only[af,ab,bJ];refine fe (λi=>(((Fg s v i:Nat):Int),(i:Int))) (8*v.length) (by omega) (λi nx hi=>?_) (λnx=>?_);have hw:=QE s i 32;have hh:=I9 s v i;have hb:=IP v i;have eW:Yw s (i:Int)=((win s i 32:Nat):Int):=by unfold Yw;rw[hs,aS.2 (show(0:Int)<=(i:Int)/\(i:Int)<=96 by omega)];rfl
 simp only[rQ];rw[al (n:=8*(v.length:Int)),lH,ah,acf v i,ab,ajL,ab,eW,acV _ _ (by omega) (by omega),al (n:=(i:Int)+1),iZ (Nat.lt_trans (Dp hh hw) (by omega)),Fg];by_cases h1:NV v i=1;rw[h1,aJ rfl];rfl;rw[aI h1,show(((NV v i:Nat):Int)==1)=false from by simp;omega];rfl;simp only[rQ];rw[al (n:=8*(v.length:Int)),dw];rfl
theorem aio (s v:Bytes):xq s v=some (qG s v):=by
 unfold xq qG;cases hs:(s.length:Int) !=16;case true=>rfl
 cases hv:decide ((v.length:Int)>12);case true=>rfl
 have h2:s.length=16:=by simp at hs;omega
 have h3:v.length<=12:=by simp at hv;omega
 simp only[af,ab,bJ];refine fe (λi=>(((Fg s v i:Nat):Int),(i:Int))) (8*v.length) (by omega) (λi nx hi=>?_) (λnx=>?_);have hw:=QE s i 32;have hh:=I9 s v i;have hb:=IP v i;have eW:Yw s (i:Int)=((win s i 32:Nat):Int):=by unfold Yw;rw[hs,aS.2 (show(0:Int)<=(i:Int)/\(i:Int)<=96 by omega)];rfl
 simp only[sg];rw[al (n:=8*(v.length:Int)),lH,ah,acG v i,ab,akk,ab,eW,acV _ _ (by omega) (by omega),al (n:=(i:Int)+1),iZ (Nat.lt_trans (Dp hh hw) (by omega)),Fg];by_cases h1:NV v i=1;rw[h1,aJ rfl];rfl;rw[aI h1,show(((NV v i:Nat):Int)==1)=false from by simp;omega];rfl;simp only[sg];rw[al (n:=8*(v.length:Int)),dw];rfl
def ng (f:zW):Bytes:=((eo f.2.1++eo f.2.2.1)++aW f.2.2.2.1)++aW f.2.2.2.2
theorem R7 (f:zW):(ng f).length<=12:=by have:=eP f.2.1;have:=eP f.2.2.1;have:=bO f.2.2.2.1;have:=bO f.2.2.2.2;simp only[ng,aj];omega
theorem aai (f:zW):wM f=some (ng f):=by have:=eP f.2.1;have:=eP f.2.2.1;have:=bO f.2.2.2.1;have:=bO f.2.2.2.2;simp only[wM,B4,mK,ab];rw[bf,bf (by simp only[aj];omega),bf (by simp only[aj];omega)];rfl
theorem abh (f:zW):xr f=some (ng f):=by have:=eP f.2.1;have:=eP f.2.2.1;have:=bO f.2.2.2.1;have:=bO f.2.2.2.2;simp only[xr,od,lF,ab];rw[bf,bf (by simp only[aj];omega),bf (by simp only[aj];omega)];rfl
theorem Jl (s:Bytes)(f:zW):uC s f=some (qG s (ng f)):=by simp only[uC,aai,ahi,ab]
theorem U4 (s:Bytes)(f:zW):zb s f=some (qG s (ng f)):=by simp only[zb,abh,aio,ab]
def zZ (s:lu)(f:zW):Int:=bif ((s.2.length:Int)==0)||decide (qG s.1 (ng f)<0) then-1 else tmod (qG s.1 (ng f)) (s.2.length:Int)
theorem adF (s:lu)(f:zW):AQ s f=some (zZ s f):=by
 unfold AQ zZ;rw[Jl,ab];cases h0:(s.2.length:Int)==0;case true=>rfl
 cases decide (qG s.1 (ng f)<0);case true=>rfl
 simp only[af,ab,bJ];rw[aI (by simpa using h0)]
theorem ae5 (s:lu)(f:zW):Bd s f=some (zZ s f):=by
 unfold Bd zZ;rw[U4,ab];cases h0:(s.2.length:Int)==0;case true=>rfl
 cases decide (qG s.1 (ng f)<0);case true=>rfl
 simp only[af,ab,bJ];rw[aI (by simpa using h0)]
theorem KF (s:lu)(f:zW)(h:¬zZ s f<0):∃n:Nat,zZ s f=(n:Int)/\n<s.2.length:=by
 unfold zZ at h⊢;cases hc:((s.2.length:Int)==0)||decide (qG s.1 (ng f)<0)with
 |true=>rw[hc]at h;simp at h
 |false=>
  rw[hc]at h;simp only[cn,cq,cG]at hc;simp only[af]at h⊢;have h1:0<=qG s.1 (ng f):=by omega
  rw[cZ h1]at h⊢;have:=fY (qG s.1 (ng f)) (show(0:Int)<s.2.length by omega);obtain⟨n,hn⟩:=aA (show 0<=qG s.1 (ng f)%(s.2.length:Int) by omega);exact⟨n,hn,by omega⟩
def He (s:lu)(q:Int)(f:zW):Int:=bif !qB s q||decide (zZ s f<0) then-1 else s.2.getD (zZ s f).toNat 0
theorem WV (s:lu)(q:Int)(f:zW)(h:s.2.length<=10^9):tA s q f=some (He s q f):=by
 unfold tA He;rw[adF,ab,Pe s q h,ab];cases qB s q;rfl;have ux:=KF s f;cases hd:decide (zZ s f<0);case true=>rfl
 obtain⟨n,hn,hl⟩:=ux (fZ hd);simp only[ak,af,ab,bJ,hn,bK hl,ax,cO hl]
theorem Yb (s:lu)(q:Int)(f:zW)(h:s.2.length<=10^9):tP s q f=some (He s q f):=by
 unfold tP He;rw[ae5,ab,Is s q h,ab];cases qB s q;rfl;have ux:=KF s f;cases hd:decide (zZ s f<0);case true=>rfl
 obtain⟨n,hn,hl⟩:=ux (fZ hd);simp only[ak,af,ab,bJ,hn,bK hl,ax,cO hl]
theorem Tm (t:az Slot)(f:zW)(h:∀j,j<8->rf (ir t j) f=false):∀n k,walk t f n k= -1
 |0,_=>rfl
 |n+1,k=>by unfold walk;rw[h _ (Hh f k),Tm t f h n (k+1)];split<;>rfl
theorem LW (f:zW):∀(t:az Slot)(m:Int),(∀s∈t,rf s f=false)->Aa f t m= -1
 |[],_,_=>rfl
 |s::r,m,h=>by unfold Aa;rw[h s (by simp)];exact LW f r (m+1) (λx hx=>h x (by simp[hx]))
theorem ZS (t:az Slot)(f:zW)(h:om t=true):Aa f t 0=walk t f 8 0:=by simp only[om,ae,bn,aL,cB]at h;obtain⟨h8,hs⟩:=h;by_cases hex:∃j,j<t.length/\rf (ir t j) f=true;obtain⟨j,hj,hu,e⟩:=FM f t 0 hex;have:=hs j (by omega);simp only[pD,ae,cJ,aN,bn]at this;simp only[rf,ae,bn,aG]at hu;rcases this.2 with g|g;rw[hu.1]at g;simp at g;rw[hu.2]at g;rw[show((0:Int))=((0:Nat):Int) from rfl,e,g];omega;have hn:∀j,j<t.length->rf (ir t j) f=false:=λj hj=>Bool.eq_false_iff.2 λhu=>hex ⟨j,hj,hu⟩;rw[Tm t f (λj hj=>hn j (by omega)),LW];intro s Af;obtain⟨j,hj,rfl⟩:=gA Af;have:=hn j hj;rwa[yk hj]at this
def findF (t:az Slot)(f:zW):Int:=bif om t then walk t f 8 0 else-1
theorem Uv (t:az Slot)(f:zW)(h:t.length<=10^9):yG t f=some (findF t f):=by unfold yG findF;rw[Sm,ab];cases ht:om t;rfl;simp only[ak,af,ah,WU t f h,ab,ZS t f ht]
theorem U3 (t:az Slot)(f:zW):yZ t f=some (findF t f):=by
 unfold yZ findF;rw[LC,ab];cases ht:om t;rfl;have h8:t.length=8:=by simp only[om,ae,bn]at ht;exact ht.1
 simp only[ak,af,ah,Qf t f h8,ab]
theorem acT (t:az Slot)(f:zW):∀n k,walk t f n k= -1\/∃m:Nat,walk t f n k=(m:Int)/\m<8
 |0,_=> .inl rfl
 |n+1,k=>by unfold walk;split;exact .inl rfl;split;exact .inr ⟨_,rfl,Hh f k⟩;exact acT t f n (k+1)
theorem Ox (t:az Slot)(f:zW)(h:findF t f>=0):∃m:Nat,findF t f=(m:Int)/\m<t.length:=by
 unfold findF at h⊢;cases ht:om t with
 |false=>rw[ht]at h;simp at h
 |true=>
  rw[ht]at h;simp only[ah]at h⊢;have h8:t.length=8:=by simp only[om,ae,bn]at ht;exact ht.1
  rcases acT t f 8 0 with g|⟨m,g,hm⟩;omega;exact⟨m,g,by omega⟩
def hasB (l:dA)(v:Int):Bool:=l.any (·==v)
theorem akh (l:dA)(v:Int)(h:l.length<=10^9):we l v=some (hasB l v):=by
 unfold we hasB;rw[IK (hit:=some true) (fin:=some false) (λx:Int=>x==v) l (by omega) (λi hi nx=>?hs) (λnx=>?hf)]
 case hs=>
  simp only[xK]
  rw[lH,bK hi,al];rfl
 case hf=>
  simp only[xK]
  rw[dw];rfl
 cases l.any (λx=>x==v)<;>rfl
theorem ajF (l:dA)(v:Int)(h:l.length<=10^9):vV l v=some (hasB l v):=by
 unfold vV hasB;rw[IK (hit:=some true) (fin:=some false) (λx:Int=>x==v) l (by omega) (λi hi nx=>?hs) (λnx=>?hf)]
 case hs=>
  simp only[wZ]
  rw[lH,bK hi,al];rfl
 case hf=>
  simp only[wZ]
  rw[dw];rfl
 cases l.any (λx=>x==v)<;>rfl
theorem Yg (l:az α)(j:Nat)(h:j<=l.length):sub l (j:Int) (l.length:Int)=some (l.drop j):=by unfold sub;rw[zip];simp
def kK (f:Filter)(p:aM):Bool:=nB f&&(((p.1==f.1)||((p.1==281474976710655)||f.2.1))&&((p.2.2.1== -1)||hasB f.2.2 p.2.2.1))
theorem WG (f:Filter)(p:aM)(h:f.2.2.length<=10^9):AN f p=some (kK f p):=by simp only[AN,O7 f h,ajF f.2.2 _ h,ab,kK];cases nB f<;>cases p.1==f.1<;>cases p.1==281474976710655<;>cases f.2.1<;>cases p.2.2.1== -1<;>rfl
theorem X4 (f:Filter)(p:aM)(h:f.2.2.length<=10^9):Bc f p=some (kK f p):=by simp only[Bc,EP f h,akh f.2.2 _ h,ab,kK];cases nB f<;>cases p.1==f.1<;>cases p.1==281474976710655<;>cases f.2.1<;>cases p.2.2.1== -1<;>rfl
def preB (a b n:Int):Bool:=fdiv a (2^(min (Int.toNat (ar (32-n))) (IntKind.bits .i64)))==fdiv b (2^(min (Int.toNat (ar (32-n))) (IntKind.bits .i64)))
theorem S2 {r:kc}(h:Cd r=true):0<=r.2.2.2.1/\r.2.2.2.1<=32:=by rw[<-aS];unfold Cd at h;simp only[mm,dR,ab,cb]at h;cases hp:dD r.2.2.2.1 0 32 with|true=>rfl|false=>rw[hp]at h;revert h;cases dD r.1 0 1000<;>cases r.2.1 !=0<;>cases r.2.1 !=6<;>cases r.2.1 !=17<;>cases dD r.2.2.1 0 4294967295<;>simp
def afS (r:kc)(p:aM):Bool:=preB r.2.2.1 p.2.2.2.2.2.2.1 r.2.2.2.1&&(dD p.2.2.2.2.2.2.2.2.2.2.1 r.2.2.2.2.1 r.2.2.2.2.2.1&&((r.2.2.2.2.2.2.1== -2)||(r.2.2.2.2.2.2.1==p.2.2.1)))
def Gb (r:kc)(p:aM):Bool:=Cd r&&(cH p&&(((r.2.1==0)||(r.2.1==p.2.2.2.2.2.2.2.2.1))&&afS r p))
theorem ajI (a b n:Int)(h0:0<=n)(h1:n<=32):qM a b n=some (preB a b n):=by unfold qM preB;rw[aI (by rw[al (n:=32-n)];omega),aI (by rw[al (n:=32-n)];omega)]
theorem adL (r:kc)(p:aM):tz r p=some (Gb r p):=by unfold tz Gb;rw[ahq,ab];cases hr:Cd r;rfl;have hp:=S2 hr;simp only[rm,ajI _ _ _ hp.1 hp.2,dE,ab,afS];cases cH p<;>cases r.2.1==0<;>cases r.2.1==p.2.2.2.2.2.2.2.2.1<;>cases preB r.2.2.1 p.2.2.2.2.2.2.1 r.2.2.2.1<;>cases dD p.2.2.2.2.2.2.2.2.2.2.1 r.2.2.2.2.1 r.2.2.2.2.2.1<;>cases r.2.2.2.2.2.2.1== -2<;>rfl
theorem ae8 (r:kc)(p:aM):tM r p=some (Gb r p):=by
 unfold tM Gb;rw[Qj,ab];cases hr:Cd r;rfl;have hp:=S2 hr;have hw:¬ar (32-r.2.2.2.1)<0:=by rw[al (n:=32-r.2.2.2.1)];omega
 simp only[yl,Aq,aI hw,dR,ab,afS];rw[show(fdiv r.2.2.1 (2^(min (Int.toNat (ar (32-r.2.2.2.1))) (IntKind.bits .i64)))==fdiv p.2.2.2.2.2.2.1 (2^(min (Int.toNat (ar (32-r.2.2.2.1))) (IntKind.bits .i64))))=preB r.2.2.1 p.2.2.2.2.2.2.1 r.2.2.2.1 from rfl];cases cH p<;>cases r.2.1==0<;>cases r.2.1==p.2.2.2.2.2.2.2.2.1<;>cases preB r.2.2.1 p.2.2.2.2.2.2.1 r.2.2.2.1<;>cases dD p.2.2.2.2.2.2.2.2.2.2.1 r.2.2.2.2.1 r.2.2.2.2.2.1<;>cases r.2.2.2.2.2.2.1== -2<;>rfl
def Mu:kc:=(0,0,0,0,0,0,0,0,0)
def Av (l:az kc)(p:aM):Nat->Int
 |0=> -1
 |i+1=>bif Gb (l.getD i Mu) p&&(decide (Av l p i<0)||decide ((l.getD i Mu).1<(l.getD (Av l p i).toNat Mu).1)) then(i:Int) else Av l p i
theorem NS (l:az kc)(p:aM):∀i,Av l p i= -1\/∃n:Nat,Av l p i=(n:Int)/\n<i
 |0=> .inl rfl
 |i+1=>by rw[Av];cases Gb (l.getD i Mu) p&&(decide (Av l p i<0)||decide ((l.getD i Mu).1<(l.getD (Av l p i).toNat Mu).1))with|true=>exact .inr ⟨i,rfl,by omega⟩|false=>rcases NS l p i with h|⟨n,h,hn⟩;exact .inl h;exact .inr ⟨n,h,by omega⟩
theorem RG (l:az kc)(p:aM)(i:Nat)(hi:i<l.length)(nx:Int×Int->aC R): (aa (cond (Gb l[i] p) (cond (decide (Av l p i<0)) (some true) (aa (idx l (Av l p i)) λx4=>some (decide (l[i].1<x4.1)))) (some false)) λq5=>cond q5 (nx ((i:Int),((i+1:Nat):Int))) (nx (Av l p i,((i+1:Nat):Int))))=nx (Av l p (i+1),((i+1:Nat):Int)):=by
 rw[Av,cO hi];cases Gb l[i] p;rfl;rcases NS l p i with h|⟨n,h,hn⟩;rw[h];rfl;have hl:n<l.length:=by omega
 rw[h,au (show¬(n:Int)<0 by omega),bK hl];simp only[ah,af,ab,ax,cO hl,bC,cj];cases decide (l[i].1<l[n].1)<;>rfl
def Dy (l:az kc)(p:aM):Int:=bif yh l then Av l p l.length else-1
theorem Oy (l:az kc)(p:aM)(h:Dy l p>=0):∃n:Nat,Dy l p=(n:Int)/\n<l.length:=by unfold Dy at h⊢;cases hr:yh l with|false=>rw[hr]at h;simp at h|true=>rw[hr]at h;simp only[ah]at h⊢;rcases NS l p l.length with g|g;omega;exact g
theorem adI (l:az kc)(p:aM)(h:l.length<=10^9):yH l p=some (Dy l p):=by unfold yH Dy;rw[Sh l h,ab];cases yh l;rfl;simp only[ak,af,ah];refine fe (λi=>(Av l p i,(i:Int))) l.length (by omega) (λi nx hi=>?_) (λnx=>?_);simp only[tr];rw[lH,bK hi,al (n:=(i:Int)+1)];simp only[ah,ab,adL];exact RG l p i hi nx;simp only[tr];rw[dw];rfl
theorem ae6 (l:az kc)(p:aM)(h:l.length<=10^9):za l p=some (Dy l p):=by
 have C9:=eR;unfold za Dy;cases hr:yh l with
 |false=>
  obtain⟨f,hf⟩:∃f,fuel=f+1:=⟨fuel-1,by omega⟩
  rw[hf,bp];simp only[pH,Ha l h,hr,ab];cases decide ((0:Int)<(l.length:Int))<;>rfl
 |true=>simp only[ah];refine fe (λi=>(Av l p i,(i:Int))) l.length (by omega) (λi nx hi=>?_) (λnx=>?_);simp only[pH,Ha l h,hr];rw[lH,bK hi,al (n:=(i:Int)+1)];simp only[ah,ab,ae8];exact RG l p i hi nx;simp only[pH];rw[dw];rfl
def dP (p:aM):zW:=(p.2.2.2.2.2.2.2.2.1,p.2.2.2.2.2.2.1,p.2.2.2.2.2.2.2.1,p.2.2.2.2.2.2.2.2.2.1,p.2.2.2.2.2.2.2.2.2.2.1)
theorem O8 (p:aM):vT p=some (dP p):=rfl
theorem Qg (p:aM):wa p=some (dP p):=rfl
def aoz:Slot:=(0,(0,0,0,0,0),0)
def iS (s:dj)(q:Int)(p:aM):Int:=
 bif !fu s q|| !cH p then-1 else
 bif decide (Dy s.1 p>=0) then(bif (s.1.getD (Dy s.1 p).toNat Mu).2.2.2.2.2.2.2.1==1 then-1 else(s.1.getD (Dy s.1 p).toNat Mu).2.2.2.2.2.2.2.2) else
 bif decide (findF s.2.1 (dP p)>=0) then(s.2.1.getD (findF s.2.1 (dP p)).toNat aoz).2.2 else He s.2.2 q (dP p)
theorem adT (s:dj)(q:Int)(p:aM)(h1:s.1.length<=10^9)(h2:s.2.1.length<=10^9)(h3:s.2.2.2.length<=10^9):tB s q p=some (iS s q p):=by
 unfold tB iS;rw[Js s q h1 h2 h3,ab,rm,ab];cases fu s q;rfl;cases cH p;rfl;simp only[ak,af,ab,bJ,adI s.1 p h1,O8,Uv s.2.1 _ h2,WV s.2.2 q _ h3];cases hd:decide (Dy s.1 p>=0)with
 |true=>obtain⟨n,hn,hl⟩:=Oy s.1 p (bz hd);simp only[ah,hn,bK hl,ab,ax,cO hl];cases s.1[n].2.2.2.2.2.2.2.1==1<;>rfl
 |false=>
  simp only[af];cases MZ:decide (findF s.2.1 (dP p)>=0)with
  |true=>obtain⟨n,hn,hl⟩:=Ox s.2.1 (dP p) (bz MZ);simp only[ah,hn,bK hl,ab,ax,cO hl]
  |false=>rfl
theorem afd (s:dj)(q:Int)(p:aM)(h1:s.1.length<=10^9)(h2:s.2.1.length<=10^9)(h3:s.2.2.2.length<=10^9):tQ s q p=some (iS s q p):=by
 unfold tQ iS;rw[Bb s q h1 h2 h3,ab,yl,ab];cases fu s q;rfl;cases cH p;rfl;simp only[ak,af,ab,bJ,ae6 s.1 p h1,Qg,U3 s.2.1 _,Yb s.2.2 q _ h3];cases hd:decide (Dy s.1 p>=0)with
 |true=>obtain⟨n,hn,hl⟩:=Oy s.1 p (bz hd);simp only[ah,hn,bK hl,ab,ax,cO hl];cases s.1[n].2.2.2.2.2.2.2.1==1<;>rfl
 |false=>
  simp only[af];cases MZ:decide (findF s.2.1 (dP p)>=0)with
  |true=>obtain⟨n,hn,hl⟩:=Ox s.2.1 (dP p) (bz MZ);simp only[ah,hn,bK hl,ab,ax,cO hl]
  |false=>rfl
def Uz (d:Ip):Bool:=dD d.1 0 255&&(dD d.2.2.1 0 255&&(dD d.2.2.2.1 0 255&&(dD d.2.1 0 65535&&(dD d.2.2.2.2.1 0 4294967295&&(dD d.2.2.2.2.2.1 0 4294967295&&decide ((d.2.2.2.2.2.2.length:Int)<=380))))))
theorem X7 (d:Ip):Hb d=some (Uz d):=by simp only[Hb,dR,ab,cb,cF,Uz]
theorem ahl (d:Ip):KX d=some (Uz d):=X7 d
def JB (d:Ip):Bytes:=((((((bs2 69 (gX d.1)++aW (20+(d.2.2.2.2.2.2.length:Int)))++aW d.2.1)++aW 16384)++bs2 (gX d.2.2.1) (gX d.2.2.2.1))++aW 0)++eo d.2.2.2.2.1)++eo d.2.2.2.2.2.1
theorem Pk (d:Ip):(JB d).length<=20:=by have:=bO (20+(d.2.2.2.2.2.2.length:Int));have:=bO d.2.1;have:=bO 16384;have:=bO 0;have:=eP d.2.2.2.2.1;have:=eP d.2.2.2.2.2.1;simp only[JB,aj,TA];omega
def Ah (d:Ip):Bytes:=xi (JB d) 10 (aW (MX (JB d)))
theorem abi (d:Ip):ze d=some (bif Uz d then(Ah d,true) else([],false)):=by
 unfold ze;rw[X7,ab];cases hd:Uz d;rfl;have hn:(d.2.2.2.2.2.2.length:Int)<=380:=by simp only[Uz,ae,aG]at hd;omega
 have:=bO (20+(d.2.2.2.2.2.2.length:Int));have:=bO d.2.1;have:=bO 16384;have:=bO 0;have:=eP d.2.2.2.2.1;have:=eP d.2.2.2.2.2.1;have hl:=Pk d;have e:∀x y,(aR [x,y]).length=2:=λ_ _=>rfl;rw[al (n:=20+(d.2.2.2.2.2.2.length:Int))];simp only[lF,od,ab,ak,af,ah];rw[bf (by simp only[aj,e];omega),bf (by simp only[aj,e];omega),bf (by simp only[aj,e];omega),bf (by simp only[aj,e];omega),bf (by simp only[aj,e];omega),bf (by simp only[aj,e];omega),bf (by simp only[aj,e];omega)];have hp:((((((aR [69,gX d.1]++aW (20+(d.2.2.2.2.2.2.length:Int)))++aW d.2.1)++aW 16384)++aR [gX d.2.2.1,gX d.2.2.2.1])++aW 0)++eo d.2.2.2.2.1)++eo d.2.2.2.2.2.1=JB d:=rfl;rw[hp,U0 _ (by omega),ab,J8 _ _ _];rfl
theorem aaj (d:Ip):yK d=some (bif Uz d then(Ah d,true) else([],false)):=by
 unfold yK;rw[ahl,ab];cases hd:Uz d;rfl;have hn:(d.2.2.2.2.2.2.length:Int)<=380:=by simp only[Uz,ae,aG]at hd;omega
 have:=bO (20+(d.2.2.2.2.2.2.length:Int));have:=bO d.2.1;have:=bO 16384;have:=bO 0;have:=eP d.2.2.2.2.1;have:=eP d.2.2.2.2.2.1;have hl:=Pk d;have hw:=bO (MX (JB d));have e:∀x y,(aR [x,y]).length=2:=λ_ _=>rfl;rw[al (n:=20+(d.2.2.2.2.2.2.length:Int))];simp only[mK,B4,ab,ak,af,ah];rw[bf (by simp only[aj,e];omega),bf (by simp only[aj,e];omega),bf (by simp only[aj,e];omega),bf (by simp only[aj,e];omega),bf (by simp only[aj,e];omega),bf (by simp only[aj,e];omega),bf (by simp only[aj,e];omega)];have hp:((((((aR [69,gX d.1]++aW (20+(d.2.2.2.2.2.2.length:Int)))++aW d.2.1)++aW 16384)++aR [gX d.2.2.1,gX d.2.2.2.1])++aW 0)++eo d.2.2.2.2.1)++eo d.2.2.2.2.2.1=JB d:=rfl;rw[hp,Nz _ (by omega),ab,Ev _ _ _];rfl
def Ra (d:Ip):Bytes×Bool:=bif Uz d then(Ah d++d.2.2.2.2.2.2,true) else([],false)
theorem KZ (d:Ip):(Ah d).length<=20:=by unfold Ah;rw[zL];exact Pk d
theorem aiq (d:Ip):xo d=some (Ra d):=by
 unfold xo Ra;rw[abi,ab];cases hd:Uz d;rfl;have hn:(d.2.2.2.2.2.2.length:Int)<=380:=by simp only[Uz,ae,aG]at hd;omega
 have:=KZ d;simp only[ah,ak,af];rw[bf]
theorem ahk (d:Ip):wJ d=some (Ra d):=by
 unfold wJ Ra;rw[aaj,ab];cases hd:Uz d;rfl;have hn:(d.2.2.2.2.2.2.length:Int)<=380:=by simp only[Uz,ae,aG]at hd;omega
 have:=KZ d;simp only[ah,ak,af];rw[bf]
def ug (n:Nat):Bytes:=aR (List.replicate n (0:Int))
theorem wi (n:Nat):(ug n).length=n:=by simp[ug,aR]
theorem Qh (n:Nat)(h:n<=10^9:=by omega):jP (n:Int) 0=some (ug n):=by unfold jP;rw[zip,bf (by rw[ax];omega),ax];refine fe (λi=>(List.replicate n (0:Int),(i:Int))) n (by omega) (λi nx hi=>?_) (λnx=>?_);simp only[qT];rw[lH,bK (by simpa using hi),al];simp only[ah,ab,ax,List.set_replicate_self];rfl;simp only[qT];rw[dw];rfl
theorem aci (n:Nat)(h:n<=10^9:=by omega):pY 0 (n:Int)=some (ug n):=by unfold pY;rw[zip,bf (by rw[ax];omega),ax];refine fe (λi=>(List.replicate n (0:Int),(i:Int))) n (by omega) (λi nx hi=>?_) (λnx=>?_);simp only[xb];rw[aw (by simp;omega),bK (by simpa using hi),al];simp only[ah,ab,ax,List.set_replicate_self];rfl;simp only[xb];rw[au (by simp)];rfl
def pad (s:Bytes):Bytes:=if s.length<46 then s++ug (46-s.length) else s
theorem NB (s:Bytes):(pad s).length=max 46 s.length:=by unfold pad;split;simp only[aj,wi];omega;omega
theorem aki (s:Bytes)(h:s.length<=10^9):Be s=some (pad s):=by unfold Be pad;by_cases hc:s.length<46;rw[lH,aJ hc,al,show(46:Int)-(s.length:Int)=((46-s.length:Nat):Int) by omega,Qh _];simp only[ah,ab];rw[bf (by rw[wi];omega)];rw[dw,aI hc];rfl
theorem ajH (s:Bytes)(h:s.length<=10^9):AR s=some (pad s):=by unfold AR pad;by_cases hc:s.length<46;rw[dw,aJ hc,al,show(46:Int)-(s.length:Int)=((46-s.length:Nat):Int) by omega,aci _];simp only[af,ab];rw[bf (by rw[wi];omega)];rw[lH,aI hc];rfl
def qF (e:NN):Bool:=dD e.1 0 281474976710655&&(dD e.2.1 0 281474976710655&&(dD e.2.2.1 (-1) 4095&&(dD e.2.2.2.1 1536 65535&&((e.2.2.2.1 !=33024)&&dD (e.2.2.2.2.length:Int) 46 400))))
theorem Lz (e:NN):ym e=some (qF e):=by simp only[ym,dR,ab,cb,cF,qF]
theorem Sd (e:NN):B5 e=some (qF e):=Lz e
def Ih (a:Int):Bytes:=(ju a).getD []
theorem CP (a:Int):ju a=some (Ih a)/\(Ih a).length<=6:=by
 have h:∃x,ju a=some x/\x.length<=6:=by unfold ju;rw[kz];simp only[lF,od,ab];have h1:=bO (fdiv a (2^(ow 32)));have h2:=eP (ar (toNat (gM a&&&gM 4294967295)));rw[bf];exact⟨_,rfl,by simp only[aj];omega⟩
 obtain⟨x,hx,hl⟩:=h;unfold Ih;rw[hx];exact⟨rfl,hl⟩
theorem ajG (a:Int):yP a=some (Ih a):=(CP a).1
def Fe (e:NN):Bytes:=(bif decide (e.2.2.1>=0) then(((Ih e.1++Ih e.2.1)++aW 33024)++aW e.2.2.1) else Ih e.1++Ih e.2.1)++aW e.2.2.2.1++e.2.2.2.2
theorem agF (e:NN):(Fe e).length<=18+e.2.2.2.2.length:=by have:=(CP e.1).2;have:=(CP e.2.1).2;have:=bO 33024;have:=bO e.2.2.1;have:=bO e.2.2.2.1;unfold Fe;cases decide (e.2.2.1>=0)<;>simp only[ah,af,aj]<;>omega
def T4 (e:NN):Bytes×Bool:=bif qF e then(Fe e,true) else([],false)
theorem akg (e:NN):yW e=some (T4 e):=by
 unfold yW T4;rw[Lz,ab];cases he:qF e;rfl;have hn:(e.2.2.2.2.length:Int)<=400:=by simp only[qF,ae,aS]at he;omega
 have:=(CP e.1).2;have:=(CP e.2.1).2;have:=bO 33024;have:=bO e.2.2.1;have:=bO e.2.2.2.1;simp only[(CP _).1,lF,ab,ak,af,ah,Fe];rw[bf];cases decide (e.2.2.1>=0)with|true=>simp only[ah];rw[bf (by simp only[aj];omega),bf (by simp only[aj];omega),bf (by simp only[aj];omega),bf (by simp only[aj];omega)]|false=>simp only[af];rw[bf (by simp only[aj];omega),bf (by simp only[aj];omega)]
theorem ajE (e:NN):yD e=some (T4 e):=by
 unfold yD T4;rw[Sd,ab];cases he:qF e;rfl;have hn:(e.2.2.2.2.length:Int)<=400:=by simp only[qF,ae,aS]at he;omega
 have:=(CP e.1).2;have:=(CP e.2.1).2;have:=bO 33024;have:=bO e.2.2.1;have:=bO e.2.2.2.1;simp only[ajG,mK,ab,ak,af,ah,Fe];rw[bf];cases decide (e.2.2.1>=0)with|true=>simp only[ah];rw[bf,bf (by simp only[aj];omega),bf (by simp only[aj];omega),bf (by simp only[aj];omega)];simp only[aE]|false=>simp only[af];rw[bf (by simp only[aj];omega),bf (by simp only[aj];omega)]
def Nh (p:aM):Bytes×Bool:=Ak p.2.2.2.2.2.2.1 p.2.2.2.2.2.2.2.1 p.2.2.2.2.2.2.2.2
def So (p:aM):Bytes×Bool:=Ra (p.2.2.2.1,p.2.2.2.2.1,p.2.2.2.2.2.1,p.2.2.2.2.2.2.2.2.1,p.2.2.2.2.2.2.1,p.2.2.2.2.2.2.2.1,(Nh p).1)
def agG (p:aM):Bytes×Bool:=T4 (p.1,p.2.1,p.2.2.1,2048,pad (So p).1)
def cV (p:aM):Bytes×Bool:=bif cH p then agG p else([],false)
theorem Pj (p:aM):(So p).1.length<=360:=by have h1:=acE p.2.2.2.2.2.2.1 p.2.2.2.2.2.2.2.1 p.2.2.2.2.2.2.2.2;unfold So Ra;cases Uz (p.2.2.2.1,p.2.2.2.2.1,p.2.2.2.2.2.1,p.2.2.2.2.2.2.2.2.1,p.2.2.2.2.2.2.1,p.2.2.2.2.2.2.2.1,(Nh p).1)with|false=>exact bM _|true=>have h2:=KZ (p.2.2.2.1,p.2.2.2.2.1,p.2.2.2.2.2.1,p.2.2.2.2.2.2.2.2.1,p.2.2.2.2.2.2.1,p.2.2.2.2.2.2.2.1,(Nh p).1);have h3:(Nh p).1.length<=340:=h1;simp only[ah,aj];omega
theorem ae7 (p:aM):vp p=some (cV p):=by have hl:=Pj p;unfold vp cV;simp only[yl,Gu,aiq,ab];rw[show(Ra (p.2.2.2.1,p.2.2.2.2.1,p.2.2.2.2.2.1,p.2.2.2.2.2.2.2.2.1,p.2.2.2.2.2.2.1,p.2.2.2.2.2.2.2.1,(Ak p.2.2.2.2.2.2.1 p.2.2.2.2.2.2.2.1 p.2.2.2.2.2.2.2.2).1))=So p from rfl,aki _ (by omega),ab,akg];cases cH p<;>rfl
theorem GZ (p:aM):jr p=some (cV p):=by have hl:=Pj p;unfold jr cV;simp only[rm,F4,ahk,ab];rw[show(Ra (p.2.2.2.1,p.2.2.2.2.1,p.2.2.2.2.2.1,p.2.2.2.2.2.2.2.2.1,p.2.2.2.2.2.2.1,p.2.2.2.2.2.2.2.1,(Ak p.2.2.2.2.2.2.1 p.2.2.2.2.2.2.2.1 p.2.2.2.2.2.2.2.2).1))=So p from rfl,ajH _ (by omega),ab,ajE];cases cH p<;>rfl
theorem GY (h:cH p=true):(cV p).2=true:=by
 have hl:=Pj p;have hh:ov p=true:=by simp only[cH,ae]at h;exact h.1
 have hp:=NB (So p).1;unfold cV agG T4;rw[h,ah];have:qF (p.1,p.2.1,p.2.2.1,2048,pad (So p).1)=true:=by simp only[ov,ae]at hh;simp only[qF,ae];refine⟨hh.1,hh.2.1,hh.2.2.1,by decide,by decide,aS.2 ?_⟩;omega
 rw[this];rfl
theorem oT (p:aM):(cV p).1.length<=378:=by have hl:=Pj p;have hp:=NB (So p).1;unfold cV agG T4;cases cH p with|false=>exact bM _|true=>cases qF (p.1,p.2.1,p.2.2.1,2048,pad (So p).1)with|false=>exact bM _|true=>have:=agF (p.1,p.2.1,p.2.2.1,2048,pad (So p).1);simp only[ah]at this⊢;omega
def fcs (c:Int):Bytes:=aR [gX c,gX (fdiv c (2^(ow 8))),gX (fdiv c (2^(ow 16))),gX (fdiv c (2^(ow 24)))]
def CV (s:Bytes):Bytes:=s++fcs (afT s)
theorem ajq (c:Int):(fcs c).length=4:=rfl
theorem acH (s:Bytes)(h:s.length<=10^9):xF s=some (CV s):=by unfold xF;rw[akd s h,ab,kz,kz,kz];exact bf (by show s.length+4<=_;omega)
theorem ach (s:Bytes)(h:s.length<=10^9):wW s=some (CV s):=by unfold wW;rw[ajC s h,ab,kz,kz,kz];exact bf (by show s.length+4<=_;omega)
def gb (p:aM):Bool:=cH p&&decide ((p.2.2.2.2.2.2.2.2.2.2.2.2.2.2.2.length:Int)<=128)
theorem Qi (p:aM):uR p=some (gb p):=by simp only[uR,yl,ab,cb,cF,gb]
theorem Eu (p:aM):nX p=some (gb p):=by simp only[nX,rm,ab,cb,cF,gb]
def Ac (p:aM):Bytes×Bool:=bif gb p then(CV (cV p).1,true) else([],false)
theorem S9 (p:aM):nm p=some (Ac p):=by have hl:=oT p;simp only[nm,Qi,ae7,acH _ (show(cV p).1.length<=10^9 by omega),ab,Ac];cases gb p<;>rfl
theorem adJ (p:aM):uX p=some (Ac p):=by
 have hl:=oT p;simp only[uX,Eu,GZ,ach _ (show(cV p).1.length<=10^9 by omega),ab,Ac];cases hp:gb p with
 |false=>rfl
 |true=>
  have:cH p=true:=by simp only[gb,ae]at hp;exact hp.1
  rw[GY this];rfl
theorem KK (p:aM):(Ac p).1.length<=382:=by have hl:=oT p;unfold Ac;cases gb p with|false=>exact bM _|true=>simp only[ah,CV,aj,ajq];omega
def aaX (p:aM)(z:Int)(k:Nat):aM:=
 (p.1,p.2.1,p.2.2.1,p.2.2.2.1,tmod (ar (p.2.2.2.2.1+(k:Int))) 65536,p.2.2.2.2.2.1,p.2.2.2.2.2.2.1,p.2.2.2.2.2.2.2.1,p.2.2.2.2.2.2.2.2.1,p.2.2.2.2.2.2.2.2.2.1,p.2.2.2.2.2.2.2.2.2.2.1,
   tmod (ar (p.2.2.2.2.2.2.2.2.2.2.2.1+((k:Int)*z))) 4294967296,p.2.2.2.2.2.2.2.2.2.2.2.2.1,
   (bif decide (((k:Int)+1)*z<(p.2.2.2.2.2.2.2.2.2.2.2.2.2.2.2.length:Int)) then ar (toNat (gM p.2.2.2.2.2.2.2.2.2.2.2.2.2.1&&&~~~ gM 9)) else p.2.2.2.2.2.2.2.2.2.2.2.2.2.1),
   p.2.2.2.2.2.2.2.2.2.2.2.2.2.2.1,(p.2.2.2.2.2.2.2.2.2.2.2.2.2.2.2.take (min ((k+1)*z.toNat) p.2.2.2.2.2.2.2.2.2.2.2.2.2.2.2.length)).drop (k*z.toNat))
def vn (n z:Nat):Nat:=(n+z-1)/z
def It (p:aM)(z:Int):az aM:=bif cH p&&dD z 1 128 then
    (bif (p.2.2.2.2.2.2.2.2.1 !=6)||decide ((p.2.2.2.2.2.2.2.2.2.2.2.2.2.2.2.length:Int)<=z) then [p] else(range (vn p.2.2.2.2.2.2.2.2.2.2.2.2.2.2.2.length z.toNat)).map (aaX p z)) else []
theorem SN {z k:Nat}(hz:0<z:=by omega):k<vn n z↔k*z<n:=by unfold vn;rw[Nat.lt_div_iff_mul_lt hz];omega
theorem EX (h:cH p=true):p.2.2.2.2.2.2.2.2.2.2.2.2.2.2.2.length<=320:=by
 have hh:ov p=true:=by simp only[cH,ae]at h;exact h.1
 exact D4 (wE hh)
theorem afg {b:Bytes}{k z:Nat}(hk:k*z<b.length)(hb:b.length<=320):sub b ((k*z:Nat):Int) ((min ((k+1)*z) b.length:Nat):Int)=some ((b.take (min ((k+1)*z) b.length)).drop (k*z)):=by have:k*z<=(k+1)*z:=cU _ (by omega);unfold sub;rw[zip,ax,ax]
theorem adS (p:aM)(z:Int):Ey p z=some (It p z):=by
 unfold Ey It;simp only[rm,dE,ab];cases hs:cH p;rfl;cases hz:dD z 1 128;rfl;have hz':=aS.1 hz;have hb:=EX hs;simp only[ak,af,cK,ah,ab,cb,cT];cases hq:(p.2.2.2.2.2.2.2.2.1 !=6)||decide ((p.2.2.2.2.2.2.2.2.2.2.2.2.2.2.2.length:Int)<=z)with
 |true=>rfl
 |false=>
  simp only[af];obtain⟨m,rfl⟩:=aA (show 0<=z by omega);have hN:∀k,k<vn p.2.2.2.2.2.2.2.2.2.2.2.2.2.2.2.length m↔k*m<p.2.2.2.2.2.2.2.2.2.2.2.2.2.2.2.length:=λk=>SN;have Jb:vn p.2.2.2.2.2.2.2.2.2.2.2.2.2.2.2.length m<=320:=by rcases ca 320 (vn p.2.2.2.2.2.2.2.2.2.2.2.2.2.2.2.length m)with h|h;have:=(hN 320).1 h;have:320*1<=320*m:=Nat.mul_le_mul_left _ (by omega);omega;exact h
  refine fe (λk=>((range k).map (aaX p (m:Int)),(k:Int))) (vn p.2.2.2.2.2.2.2.2.2.2.2.2.2.2.2.length m) (by omega) (λk nx hk=>?_) (λnx=>?_);have hkm:=(hN k).1 hk;have hk1:(k+1)*m=k*m+m:=by rw[df,gB]
  have e1:(k:Int)*(m:Int)=((k*m:Nat):Int):=by push_cast;rfl
  have e2:((k:Int)+1)*(m:Int)=(((k+1)*m:Nat):Int):=by push_cast;rfl
  have rE:=afg hkm hb;simp only[yM];rw[al (n:=(k:Int)+1),e1,e2,iZ (n:=k*m),iZ (n:=(k+1)*m),lH,ah];rw[List.range_succ,cu,List.map_singleton];simp only[aaX,e1,e2,ax];by_cases hc:(((k+1)*m:Nat):Int)<(p.2.2.2.2.2.2.2.2.2.2.2.2.2.2.2.length:Int);rw[aw hc];rw[show min ((k+1)*m) p.2.2.2.2.2.2.2.2.2.2.2.2.2.2.2.length=(k+1)*m by omega]at rE⊢;simp only[ah];rw[rE,ab,kz,kz,bf (by simp;omega)];rfl;rw[au hc];rw[show min ((k+1)*m) p.2.2.2.2.2.2.2.2.2.2.2.2.2.2.2.length=p.2.2.2.2.2.2.2.2.2.2.2.2.2.2.2.length by omega]at rE⊢;simp only[af];rw[rE,ab,kz,kz,bf (by simp;omega)];rfl;have hkm:¬vn p.2.2.2.2.2.2.2.2.2.2.2.2.2.2.2.length m*m<p.2.2.2.2.2.2.2.2.2.2.2.2.2.2.2.length:=λh=>absurd ((hN _).2 h) (Nat.lt_irrefl _);have hub:vn p.2.2.2.2.2.2.2.2.2.2.2.2.2.2.2.length m*m<=320*128:=Nat.mul_le_mul Jb (by omega);have e1:((vn p.2.2.2.2.2.2.2.2.2.2.2.2.2.2.2.length m:Nat):Int)*(m:Int)=((vn p.2.2.2.2.2.2.2.2.2.2.2.2.2.2.2.length m*m:Nat):Int):=by push_cast;rfl
  simp only[yM];rw[e1,iZ,dw];rfl
theorem Qn (p:aM)(z:Int):(It p z).length<=320:=by unfold It;cases hs:cH p&&dD z 1 128;exact bM _;simp only[ae,aS]at hs;have hb:=EX hs.1;cases (p.2.2.2.2.2.2.2.2.1 !=6)||decide ((p.2.2.2.2.2.2.2.2.2.2.2.2.2.2.2.length:Int)<=z)with|true=>simp only[ah,bD];omega|false=>simp only[ah,af,cz,List.length_range];rcases ca 320 (vn p.2.2.2.2.2.2.2.2.2.2.2.2.2.2.2.length z.toNat)with h|h;have:=(SN).1 h;have:320*1<=320*z.toNat:=Nat.mul_le_mul_left _ (by omega);omega;exact h
def Tv (acc:cg)(p:aM):cg:=bif (Ac p).2 then acc++[(Ac p).1] else acc
theorem Vx (acc:cg)(p:aM):(Tv acc p).length<=acc.length+1:=by unfold Tv;cases (Ac p).2<;>simp
def Ns (l:az aM):cg:=l.foldl Tv []
theorem LZ:∀(l:az aM)(acc:cg),(l.foldl Tv acc).length<=acc.length+l.length
 |[],acc=>by simp
 |p::l,acc=>by have:=LZ l (Tv acc p);have:=Vx acc p;simp only[List.foldl_cons,aV];omega
theorem Hs:∀(l:az aM)(acc:cg),(∀x∈acc,x.length<=382)->∀x∈l.foldl Tv acc,x.length<=382
 |[],acc,h=>h
 |p::l,acc,h=>by rw[List.foldl_cons];refine Hs l _ (λx hx=>?_);unfold Tv at hx;cases hf:(Ac p).2 with|false=>rw[hf]at hx;exact h x hx|true=>rw[hf]at hx;simp only[ah,ay,bA]at hx;rcases hx with hx|hx;exact h x hx;rw[hx];exact KK p
theorem aaf (l:az aM)(h:l.length<=10^9):yI l=some (Ns l):=by
 unfold yI Ns;have:=JZ (T:=oX (λ(y3:cg) (_:Int)=>some y3) l (l.length:Int)) l (λ(s:cg) i=>(s,(i:Int))) (λi s=>s.length<=i) (λp s=> .ok (Tv s p)) (λs=>some s) (by omega) (λi hi s nx hI=>?hs) (λi hi s s' hI hg=>?hn) (λs nx hI=>?hf) [] (by simp)
 case hs=>
  simp only[oX]
  rw[lH,bK hi,al (n:=(i:Int)+1)]
  simp only[ah,ab,adJ,Tv]
  rw[bf (by simp;omega)]
  cases (Ac l[i]).2<;>rfl
 case hn=>cases hg;have:=Vx s l[i];omega
 case hf=>
  simp only[oX]
  rw[dw];rfl
 rw[ND]at this;exact this
def XX (p:aM)(z:Int):cg:=Ns (It p z)
theorem ahr (p:aM)(z:Int):vf p z=some (XX p z):=by have:=Qn p z;simp only[vf,adS,aaf _ (show(It p z).length<=10^9 by omega),ab];rfl
theorem aeY (p:aM)(z:Int):(XX p z).length<=320/\∀x∈XX p z,x.length<=382:=by have:=Qn p z;have:=LZ (It p z) [];exact⟨by unfold XX Ns;simp only[dg]at this;omega,Hs _ [] (by simp)⟩
end
end Go.Pu
