import Derived.Test.YtgbaemfepmabgaaGreatDnData
import Derived.Test.YtgbaemfepmabgaaGreatPure
namespace Go.Pu
open Go.Dn
set_option linter.unusedSimpArgs false
set_option linter.unusedVariables false
noncomputable section
variable {b s t x:Bytes} {h:Host} {v:Int} {f:Int->az Int} {m:bL} {a i n:Nat} {p:aI} {R X α:Type} {l:bZ}
/- Plain laws of the partial operations and of loops. -/
theorem ak {n:Int}(h1: -9223372036854775808<=n:=by omega)(h2:n<=9223372036854775807:=by omega):ar n=n:=by simp only[ar,gG,IntKind.wrap,IntKind.bits,IntKind.signed];simp;omega
@[simp] theorem ab (a:α)(k:α->az R):aa (some a) k=k a:=rfl
@[simp] theorem ajn (k:α->az R):aa none k=none:=rfl
@[simp] theorem CQ (c:Bool)(x y:α)(k:α->az R):aa (cond c (some x) (some y)) k=k (cond c x y):=by cases c<;>rfl
theorem bM (c:Bool)(x y:α):cond c (some x) (some y)=some (cond c x y):=by cases c<;>rfl
theorem aQ {k:az R}(h:n<=1073741824:=by omega):room n k=k:=by simp[room,h]
theorem GB (xs:aw α)(i:Nat):idx xs (i:Int)=xs[i]?:=rfl
theorem bu {xs:aw α}(h:i<xs.length):idx xs (i:Int)=some xs[i]:=by rw[GB];exact al h
def upK {σ R:Type}(step:Nat->σ->(σ->az R)->az R)(fin:σ->az R)(N:Nat):Nat->Nat->σ->az R
 |0,_,s=>fin s
 |n+1,i,s=>step i s (λs'=>upK step fin N n (i+1) s')
theorem GZ {σ:Type}{T:(X->az R)->X->az R}(N:Nat)(e:σ->Nat->X)(step:Nat->σ->(σ->az R)->az R)(fin:σ->az R)(hs:∀i s nx,i<N->T nx (e s i)=step i s (λs'=>nx (e s' (i+1))))(hf:∀s nx,T nx (e s N)=fin s): ∀n i s,i<=N->N-i<n->bl T n (e s i)=upK step fin N (N-i) i s:=by
 intro n;induction n with
 |zero=>intro i s _ h;omega
 |succ n ih=>
  intro i s hi hn;rw[bl];rcases cq i N with hlt|hge;rw[hs i s _ hlt,show N-i=(N-(i+1))+1 by omega,upK];congr 1;funext s';exact ih (i+1) s' (by omega) (by omega);have:i=N:=by omega
  subst this;rw[hf,iT,upK]
def zJ {α σ R:Type}(step:α->σ->(σ->az R)->az R)(fin:σ->az R):aw α->σ->az R
 |[],s=>fin s
 |x::xs,s=>step x s (zJ step fin xs)
theorem BG {σ:Type}{T:(X->az R)->X->az R}(xs:aw α)(e:σ->Nat->X)(step:α->σ->(σ->az R)->az R)(fin:σ->az R)(hs:∀i (h:i<xs.length) s nx,T nx (e s i)=step xs[i] s (λs'=>nx (e s' (i+1))))(hf:∀s nx,T nx (e s xs.length)=fin s): ∀n i s,i<=xs.length->xs.length-i<n->bl T n (e s i)=zJ step fin (xs.drop i) s:=by
 intro n;induction n with
 |zero=>intro i s _ h;omega
 |succ n ih=>
  intro i s hi hn;rw[bl];rcases cq i xs.length with hlt|hge;rw[hs i hlt s _,ca hlt,zJ];congr 1;funext s';exact ih (i+1) s' (by omega) (by omega);have:i=xs.length:=by omega
  subst this;rw[hf,gY,zJ]
def N0:(t:CT)->t.D->Nat
 | .int _,_=>0
 | .bool,_=>0
 | .str,s=>s.length
 | .sl e,xs=>xs.length+(xs.map (N0 e)).sum
 | .pair a b,x=>N0 a x.1+N0 b x.2
def dk (n:Nat):(t:CT)->t.D->Prop
 | .int _,_=>True
 | .bool,_=>True
 | .str,s=>s.length<=n
 | .sl e,xs=>xs.length<=n/\∀x∈xs,dk n e x
 | .pair a b,x=>dk n a x.1/\dk n b x.2
theorem FM {α:Type}(f:α->Nat):∀(xs:aw α)(x:α),x∈xs->f x<=(xs.map f).sum
 |y::ys,x,h=>by rcases bQ.1 h with rfl|h;simp;have:=FM f ys x h;simp;omega
theorem Hw {n:Nat}:∀{t:CT}{x:t.D},N0 t x<=n->dk n t x
 | .int _,_,_=>trivial
 | .bool,_,_=>trivial
 | .str,_,h=>h
 | .sl e,xs,h=>by simp only[N0]at h;exact⟨by omega,λx hx=>Hw (by have:=FM (N0 e) xs x hx;omega)⟩
 | .pair a b,x,h=>by simp only[N0]at h;exact⟨Hw (by omega),Hw (by omega)⟩
theorem dk.mono {m:Nat}(h:n<=m:=by omega):∀{t:CT}{x:t.D},dk n t x->dk m t x
 | .int _,_,_=>trivial
 | .bool,_,_=>trivial
 | .str,_,k=>bt k h
 | .sl _,_,k=>⟨bt k.1 h,λx hx=>dk.mono h (k.2 x hx)⟩
 | .pair _ _,_,k=>⟨dk.mono h k.1,dk.mono h k.2⟩
def acS:(t:CT)->t.D->Prop
 | .int k,n=>k.min<=n/\n<=k.max
 | .bool,_=>True
 | .str,s=>s.length<=9223372036854775807
 | .sl e,xs=>xs.length<=9223372036854775807/\∀x∈xs,acS e x
 | .pair a b,x=>acS a x.1/\acS b x.2
def ld (l n:Int):Int:=if n<=l then l-n else-1
def Kw (f:α->Int->az Int)(k0:Int->Int->az R)(k1:Int->Int->Int->az R)(v0:aw α)(nx:Int×Int->az R)(x:Int×Int):az R:=
 cond (decide (x.2<((List.length v0:Int)))) (
  aa (idx v0 x.2) λx1=>
  aa (f x1 x.1) λr2=>
  cond (decide (r2<0)) (
   k1 r2 (-1) x.2) (
   nx (r2,ar (x.2+1)))) (
  k0 x.1 x.2)
noncomputable def R8 (f:α->Int->az Int)(a0:aw α)(a1:Int):az Int:=
 cond (decide ((ar (a1-((List.length a0:Int))))<0)) (
  some (-1)) (
  bl (Kw f (λy3 _=>some y3) (λ_ y6 _=>some y6) a0) fuel (ar (a1-((List.length a0:Int))),0))
theorem Yq {f:α->Int->az Int}{s:α->Nat}{a:aw α}{l:Int}(h0:0<=l)(h1:l<=1048576)(hm:a.length<=9223372036854775807)(hf:∀x∈a,∀l:Int,0<=l->l<=1048576->∃r,f x l=some r/\((s x:Int)<=l->r=l-s x)/\(¬(s x:Int)<=l->r<0)):R8 f a l=some (ld l ((a.length+(a.map s).sum:Nat):Int)):=by
 unfold R8;have hfu:=eJ;rw[ak];rcases Int.lt_or_le (l-a.length) 0 with hneg|hpos;rw[au hneg];simp only[ah,ld];rw[nf];rw[iw];simp only[af];have key:=BG (T:=Kw f (λy3 _=>some y3) (λ_ y6 _=>some y6) a) a (λ(q:Int) i=>(q,(i:Int))) (λx q k=>aa (f x q) λr=>cond (decide (r<0)) (some (-1)) (k r)) (λq=>some q) (λi hi q nx=>by simp only[Kw];rw[jz];simp only[ah,bu hi,ab];rw[ak];rfl) (λq nx=>by simp only[Kw];rw[iw];rfl) fuel 0 (l-a.length) (by omega) (by omega);have e:((0:Nat):Int)=0:=rfl;rw[e,fi]at key;rw[key];have main:∀(b:aw α)(q:Int),0<=q->q<=1048576->(∀x∈b,x∈a)->zJ (λx q k=>aa (f x q) λr=>cond (decide (r<0)) (some (-1)) (k r)) (λq=>some q) b q=some (ld q ((b.map s).sum:Nat)):=by intro b;induction b with|nil=>intro q hq _ _;simp[zJ,ld,hq]|cons x b ih=>intro q hq hq2 hb;obtain⟨r,hr,hr1,hr2⟩:=hf x (hb x (by simp)) q hq hq2;rw[zJ,hr,ab];by_cases hle:(s x:Int)<=q;have:=hr1 hle;subst this;rw[iw];simp only[af];rw[ih _ (by omega) (by omega) (λy hy=>hb y (by simp[hy]))];simp only[ld,di,fJ];congr 1;split<;>split<;>omega;rw[au (hr2 hle)];simp only[ah,ld,di,fJ];rw[nf]
 rw[main a _ (by omega) (by omega) (λx h=>h)];simp only[ld];congr 1;split<;>split<;>omega
def Bg (f:Int->az Int)(n:Nat):Prop:=∀l:Int,0<=l->l<=1048576->f l=some (ld l n)
theorem Bg.nil:Bg (λl=>some l) 0:=λl h0 _=>by simp[ld,h0]
theorem Bg.len {m:Nat}(hn:n<=9223372036854775807){k:Int->az Int}(h:Bg k m): Bg (λl=>cond (decide (ar (l-(n:Int))<0)) (some (-1)) (k (ar (l-(n:Int))))) (n+m):=by intro l h0 h1;simp only;rw[ak];by_cases hl:l-(n:Int)<0;rw[au hl];simp only[ah,ld];rw[nf];rw[aq hl];simp only[af];rw[h _ (by omega) (by omega)];simp only[ld];congr 1;split<;>split<;>omega
theorem Bg.sub {k:Int->az Int}{m:Nat}(hf:Bg f n)(h:Bg k m):Bg (λl=>aa (f l) λr=>cond (decide (r<0)) (some (-1)) (k r)) (n+m):=by
 intro l h0 h1;simp only;rw[hf l h0 h1,ab];by_cases hl:(n:Int)<=l;have e:ld l n=l-n:=by simp[ld,hl]
 rw[e,iw];simp only[af];rw[h _ (by omega) (by omega)];simp only[ld];congr 1;split<;>split<;>omega;have e:ld l n= -1:=by simp[ld,hl]
 rw[e];simp only[ld];rw[nf];rfl
theorem Bg.cast {m:Nat}(h:Bg f n)(e:n=m):Bg f m:=e▸h
theorem Bg.list {f:α->Int->az Int}{s:α->Nat}{a:aw α}(hm:a.length<=9223372036854775807)(hf:∀x∈a,Bg (f x) (s x)):Bg (R8 f a) (a.length+(a.map s).sum):=λ_ h0 h1=>Yq h0 h1 hm (λx hx l h0 h1=>⟨_,hf x hx l h0 h1,λh=>by simp[ld,h],λh=>by simp[ld,h]⟩)
theorem Bg.flat (hn:n<=9223372036854775807):Bg (λl=>cond (decide (ar (l-(n:Int))<0)) (some (-1)) (some (ar (l-(n:Int))))) n:=(Bg.len (n:=n) hn Bg.nil).cast (by omega)
theorem Bg.use (hf:Bg f n){l:Int}(h0:0<=l)(h1:l<=1048576){k:Int->az Bool}(hk:(n:Int)<=l->k (l-n)=some true): (aa (f l) λr=>cond (decide (r<0)) (some true) (k r))=some true:=by
 rw[hf l h0 h1,ab];by_cases hl:(n:Int)<=l;have e:ld l n=l-n:=by simp[ld,hl]
 rw[e,iw];exact hk hl;have e:ld l n= -1:=by simp[ld,hl]
 rw[e];rfl
theorem Gb {T:(Int->az R)->Int->az R}{fin hit:az R}(p:α->Bool)(a:aw α)(h:a.length<=1000000000000)(hs:∀i (hi:i<a.length) nx,T nx (i:Int)=cond (p a[i]) hit (nx ((i+1:Nat):Int)))(hf:∀nx,T nx (a.length:Int)=fin): bl T fuel 0=cond (a.any p) hit fin:=by
 have hfu:=eJ;have key:∀n i,i<=a.length->a.length-i<n->bl T n (i:Int)=cond ((a.drop i).any p) hit fin:=by
  intro n;induction n with
  |zero=>intro i _ h;omega
  |succ n ih=>
   intro i hi hn;rw[bl];rcases cq i a.length with hlt|hge;rw[hs i hlt,ca hlt,List.any_cons];cases hq:p a[i]with|true=>rfl|false=>exact ih (i+1) (by omega) (by omega)
   have:i=a.length:=by omega
   subst this;rw[hf,gY];rfl
 exact key fuel 0 (by omega) (by omega)
theorem iQ {T:(Int->az R)->Int->az R}{fin hit:az R}(p:Nat->Bool)(N:Nat)(h:N<=1000000000000)(hs:∀i nx,i<N->T nx (i:Int)=cond (!(p i)) hit (nx ((i+1:Nat):Int)))(hf:∀nx,T nx (N:Int)=fin): bl T fuel 0=cond ((List.range N).all p) fin hit:=by
 have hfu:=eJ;have key:∀n i,i<=N->N-i<n->bl T n (i:Int)=cond ((List.range' i (N-i)).all p) fin hit:=by
  intro n;induction n with
  |zero=>intro i _ h;omega
  |succ n ih=>
   intro i hi hn;rw[bl];rcases cq i N with hlt|hge;rw[hs i _ hlt,show N-i=(N-(i+1))+1 by omega,List.range'_succ,ch];cases hq:p i with|false=>rfl|true=>exact ih (i+1) (by omega) (by omega)
   have:i=N:=by omega
   subst this;rw[hf,iT];rfl
 have:=key fuel 0 (by omega) (by omega);rw[Nat.sub_zero,<-List.range_eq_range']at this;exact this
theorem qY {T:(Int->az R)->Int->az R}{fin hit:az R}(p:α->Bool)(a:aw α)(h:a.length<=1000000000000)(hs:∀i (hi:i<a.length) nx,T nx (i:Int)=cond (!(p a[i])) hit (nx ((i+1:Nat):Int)))(hf:∀nx,T nx (a.length:Int)=fin): bl T fuel 0=cond (a.all p) fin hit:=by
 have:=Gb (T:=T) (fin:=fin) (hit:=hit) (λx=> !(p x)) a h hs hf;rw[this];have e:a.any (λx=> !(p x))= !(a.all p):=by rw[cC];simp
 rw[e];cases a.all p<;>rfl
theorem HK {T:(X->az R)->X->az R}{fin hit:az R}(e:Nat->X)(p:Nat->Bool)(N:Nat)(h:N<=1000000000000)(hs:∀i nx,i<N->(∀j,j<i->p j=true)->T nx (e i)=cond (!(p i)) hit (nx (e (i+1))))(hf:(∀j,j<N->p j=true)->∀nx,T nx (e N)=fin): bl T fuel (e 0)=cond ((List.range N).all p) fin hit:=by
 have hfu:=eJ;have key:∀n i,i<=N->N-i<n->(∀j,j<i->p j=true)->bl T n (e i)=cond ((List.range' i (N-i)).all p) fin hit:=by
  intro n;induction n with
  |zero=>intro i _ h;omega
  |succ n ih=>
   intro i hi hn hp;rw[bl];rcases cq i N with hlt|hge;rw[hs i _ hlt hp,show N-i=(N-(i+1))+1 by omega,List.range'_succ,ch];cases hq:p i with|false=>rfl|true=>refine ih (i+1) (by omega) (by omega) λj hj=>?_;by_cases hji:j=i;rw[hji];exact hq;exact hp j (by omega)
   have:i=N:=by omega
   subst this;rw[hf hp,iT];rfl
 have:=key fuel 0 (by omega) (by omega) (λj hj=>absurd hj (by omega));rw[Nat.sub_zero,<-List.range_eq_range']at this;exact this
theorem Ej {T:(Int->az R)->Int->az R}{fin:az R}{hit:Int->az R}(p:α->Bool)(a:aw α)(h:a.length<=1000000000000)(hs:∀i (hi:i<a.length) nx,T nx (i:Int)=cond (p a[i]) (hit (i:Int)) (nx ((i+1:Nat):Int)))(hf:∀nx,T nx (a.length:Int)=fin): bl T fuel 0=(match a.findIdx? p with|some i=>hit (i:Int)|none=>fin):=by
 have hfu:=eJ;have key:∀n i,i<=a.length->a.length-i<n->bl T n (i:Int)=(match (a.drop i).findIdx? p with|some j=>hit ((i+j:Nat):Int)|none=>fin):=by
  intro n;induction n with
  |zero=>intro i _ h;omega
  |succ n ih=>
   intro i hi hn;rw[bl];rcases cq i a.length with hlt|hge;rw[hs i hlt,ca hlt,List.findIdx?_cons];cases hq:p a[i]with|true=>rfl|false=>have:=ih (i+1) (by omega) (by omega);simp only[af];refine this.trans ?_;cases (a.drop (i+1)).findIdx? p with|none=>rfl|some j=>simp only[dB,bj,cu];congr 2;omega
   have:i=a.length:=by omega
   subst this;rw[hf,gY];rfl
 have:=key fuel 0 (by omega) (by omega);refine this.trans ?_;rw[fi];cases a.findIdx? p with|none=>rfl|some j=>simp only[cw]
theorem cF (a b:Bool):(bif a then b else false)=(a&&b):=by cases a<;>rfl
theorem cT (a b:Bool):(bif a then true else b)=(a||b):=by cases a<;>rfl
theorem cN (a b:Bool):(bif a then false else b)=(!a&&b):=by cases a<;>rfl
def Bq {α σ R:Type}(g:α->σ->Except (az R) σ)(fin:σ->az R):aw α->σ->az R
 |[],s=>fin s
 |x::xs,s=>match g x s with| .error r=>r| .ok s'=>Bq g fin xs s'
theorem tc {σ:Type}{T:(X->az R)->X->az R}(xs:aw α)(e:σ->Nat->X)(Inv:Nat->σ->Prop)(g:α->σ->Except (az R) σ)(fin:σ->az R)(h:xs.length<=1000000000000)(hs:∀i (hi:i<xs.length) s nx,Inv i s->T nx (e s i)=match g xs[i] s with| .error r=>r| .ok s'=>nx (e s' (i+1)))(hn:∀i (hi:i<xs.length) s s',Inv i s->g xs[i] s=.ok s'->Inv (i+1) s')(hf:∀s nx,Inv xs.length s->T nx (e s xs.length)=fin s)(s:σ)(h0:Inv 0 s): bl T fuel (e s 0)=Bq g fin xs s:=by
 have key:∀n i s,i<=xs.length->xs.length-i<n->Inv i s->bl T n (e s i)=Bq g fin (xs.drop i) s:=by
  intro n;induction n with
  |zero=>intro i s _ h;omega
  |succ n ih=>
   intro i s hi hn' hI;rw[bl];rcases cq i xs.length with hlt|hge;rw[hs i hlt s _ hI,ca hlt,Bq];cases hg:g xs[i] s with|error r=>rfl|ok s'=>exact ih (i+1) s' (by omega) (by omega) (hn i hlt s s' hI hg)
   have:i=xs.length:=by omega
   subst this;rw[hf s _ hI,gY,Bq]
 have hfu:=eJ;have:=key fuel 0 s (by omega) (by omega) h0;rwa[fi]at this
theorem Ey {α σ R:Type}(f:σ->α->σ)(fin:σ->az R):∀(xs:aw α)(s:σ),Bq (λx s=> .ok (f s x)) fin xs s=fin (xs.foldl f s)
 |[],_=>rfl
 |x::xs,s=>by rw[Bq];exact Ey f fin xs (f s x)
theorem dz {T:(X->az R)->X->az R}{fin:az R}(e:Nat->X)(N:Nat)(h:N<=1000000000000)(hs:∀i nx,i<N->T nx (e i)=nx (e (i+1)))(hf:∀nx,T nx (e N)=fin):bl T fuel (e 0)=fin:=by rw[HK (hit:=fin) (fin:=fin) e (λ_=>true) N h (λi nx hi _=>by rw[hs i nx hi];rfl) (λ_ nx=>hf nx)];cases (List.range N).all (λ_=>true)<;>rfl
theorem lh {l:aw α}{k:az R}(h:l.length<=1000000000:=by omega):room (List.length ([]:aw α)+l.length) k=k:=aQ (by simp only[dZ];omega)
def cX (a lo hi:Int):Bool:=decide (lo<=a)&&decide (a<=hi)
theorem aW {a lo hi:Int}:cX a lo hi=true↔lo<=a/\a<=hi:=by simp[cX]
theorem dR (a b c:Int):bg a b c=some (cX a b c):=by simp only[bg,bM,ab,cX];cases h:decide (a>=b)<;>rfl
theorem cn (a b c:Int):aA a b c=some (cX a b c):=dR a b c
theorem cG {l:aw α}(h:i<l.length)(d:α):l.getD i d=l[i]:=by rw[bN,al h];rfl
def Nm (l:bZ)(i:Nat):Bool:=cX (l.getD i 0) 0 4095&& !(decide (0<i)&&decide (l.getD i 0<=l.getD (i-1) 0))
def eV (f:Filter):Bool:=(List.range f.2.2.length).all (Nm f.2.2)&&(cX f.1 0 281474976710654&&decide ((f.2.2.length:Int)<=8))
theorem Ct (f:Filter)(h:f.2.2.length<=1000000000):pO f=some (eV f):=by
 unfold pO;rw[iQ (hit:=some false) (fin:=some (cX f.1 0 281474976710654&&decide ((f.2.2.length:Int)<=8))) (Nm f.2.2) f.2.2.length (by omega) (λi nx hi=>?hs) (λnx=>?hf)]
 case hs=>
  simp only[rT]
  rw[jz,bu hi,ak (n:=(i:Int)+1)]
  simp only[ah,ab,dR,Nm,cG hi]
  by_cases h0:0<i
  ·have e:ar ((i:Int)-1)=((i-1:Nat):Int):=by rw[ak];omega
   have hp:i-1<f.2.2.length:=by omega
   rw[e,bu hp,au (show(i:Int)>0 by omega),au h0,cG hp]
   simp only[ah,ab,bq]
   cases cX f.2.2[i] 0 4095<;>cases decide (f.2.2[i]<=f.2.2[i-1])<;>rfl
  ·rw[aq (show¬(i:Int)>0 by omega),aq h0]
   simp only[af,dN]
   cases cX f.2.2[i] 0 4095<;>rfl
 case hf=>
  simp only[rT]
  rw[iw]
  simp only[af,dR,ab,CQ,bM]
  cases cX f.1 0 281474976710654<;>rfl
 unfold eV;cases (List.range f.2.2.length).all (Nm f.2.2)<;>rfl
theorem qE (f:Filter)(h:f.2.2.length<=1000000000):ie f=some (eV f):=by
 unfold ie;rw[iQ (hit:=some false) (fin:=some (cX f.1 0 281474976710654&&decide ((f.2.2.length:Int)<=8))) (Nm f.2.2) f.2.2.length (by omega) (λi nx hi=>?hs) (λnx=>?hf)]
 case hs=>
  simp only[rj]
  rw[jz,bu hi,ak (n:=(i:Int)+1)]
  simp only[ah,ab,cn,Nm,cG hi]
  by_cases h0:0<i
  ·have e:ar ((i:Int)-1)=((i-1:Nat):Int):=by rw[ak];omega
   have hp:i-1<f.2.2.length:=by omega
   rw[e,bu hp,au (show(i:Int)>0 by omega),au h0,cG hp]
   simp only[ah,ab,bq,ge_iff_le]
   cases cX f.2.2[i] 0 4095<;>cases decide (f.2.2[i]<=f.2.2[i-1])<;>rfl
  ·rw[aq (show¬(i:Int)>0 by omega),aq h0]
   simp only[af,dN]
   cases cX f.2.2[i] 0 4095<;>rfl
 case hf=>
  simp only[rj]
  rw[iw]
  simp only[af,cn,ab,CQ,bM]
  cases cX f.1 0 281474976710654<;>rfl
 unfold eV;cases (List.range f.2.2.length).all (Nm f.2.2)<;>rfl
def AX (r:mA):Bool:=(my r).getD false
theorem VF (r:mA):my r=some (AX r):=by
 have:∃b,my r=some b:=by simp only[my,dR,ab,bM];exact⟨_,rfl⟩
 obtain⟨b,hb⟩:=this;simp[AX,hb]
theorem adZ (r:mA):AO r=some (AX r):=VF r
theorem Vm {r:mA}(h:AX r=true):r.2.2.2.2.2.2.2.1=0\/r.2.2.2.2.2.2.2.2=0:=by
 by_cases h0:r.2.2.2.2.2.2.2.1=0;exact .inl h0;by_cases h1:r.2.2.2.2.2.2.2.2=0;exact .inr h1;exfalso;have e0:(r.2.2.2.2.2.2.2.1==0)=false:=by simp[h0]
 have e1:(r.2.2.2.2.2.2.2.2==0)=false:=by simp[h1]
 revert h;unfold AX;simp only[my,dR,ab,bM,e0,e1,af,fT];have z:∀c:Bool,(bif c then false else false)=false:=by intro c;cases c<;>rfl
 simp only[z];intro h;cases h
def yh (l:aw mA):Bool:=l.all AX&&decide ((l.length:Int)<=12)
theorem Pq (l:aw mA)(h:l.length<=1000000000):yM l=some (yh l):=by
 unfold yM;rw[qY (hit:=some false) (fin:=some (decide ((l.length:Int)<=12))) AX l (by omega) (λi hi nx=>?hs) (λnx=>?hf)]
 case hs=>
  simp only[tU]
  rw[jz,bu hi,ak]
  simp only[ah,ab,VF];rfl
 case hf=>
  simp only[tU]
  rw[iw];rfl
 unfold yh;cases l.all AX<;>rfl
theorem OJ (l:aw mA)(h:l.length<=1000000000):yB l=some (yh l):=by rw[<-Pq l h];rfl
theorem as8 (x:Int):((BitVec.ofInt 64 x&&&BitVec.ofInt 64 7).toNat:Int)=x%8:=by
 have h7:(BitVec.ofInt 64 7).toNat=2^3-1:=by decide
 rw[BitVec.toNat_and,h7,Nat.and_two_pow_sub_one_eq_mod];simp only[BitVec.toNat_ofInt];omega
theorem aof (x:Int):((gX x&&&gX 7).toNat:Int)=x%8:=as8 x
theorem ahE (x:Int):iX x 8=some (x%8):=by unfold iX;rw[nf,Int.tmod_eq_emod];split;rw[iw];simp;rw[au (by simp;omega),ak (by simp;omega) (by simp;omega)];simp
def ES (f:kj):Int:=(f.1%8+f.2.1%8+f.2.2.1%8+f.2.2.2.1%8+f.2.2.2.2%8)%8
theorem TD (f:kj):0<=ES f/\ES f<8:=by unfold ES;omega
theorem agn {n:Int}(h:0<=n:=by omega):Int.tmod n 8=n%8:=dE h
theorem aeU (f:kj):xn f=some (ES f):=by
 unfold xn;generalize hL:[f.1,f.2.1,f.2.2.1,f.2.2.2.1,f.2.2.2.2]=L;have hlen:L.length=5:=by rw[<-hL];rfl
 have hfu:=eJ;have key:=BG (R:=Int) (T:=nP (λ(y2:Int) (y3:Int)=>if 8=0 then none else(some (Int.tmod y2 8))) L) L (λ(s:Int) i=>(s,(i:Int))) (λx s k=>k (ar (s+ar (x%8)))) (λs=>some (Int.tmod s 8)) (λi hi s nx=>by simp only[nP];rw[jz,bu hi,ak (n:=(i:Int)+1)];simp only[ah,ab];rw[aof L[i]];rfl) (λs nx=>by simp only[nP];rw[iw];rfl) fuel 0 0 (by omega) (by omega);refine key.trans ?_;rw[<-hL];simp only[fi,zJ];rw[ak (n:=f.1%8),ak (n:=f.2.1%8),ak (n:=f.2.2.1%8),ak (n:=f.2.2.2.1%8),ak (n:=f.2.2.2.2%8)];rw[ak (n:=0+f.1%8),ak (n:=0+f.1%8+_),ak (n:=0+f.1%8+_+_),ak (n:=0+f.1%8+_+_+_),ak (n:=0+f.1%8+_+_+_+_)];rw[agn,ES,Int.zero_add]
theorem adP (f:kj):wX f=some (ES f):=by
 unfold wX;generalize hL:[f.1,f.2.1,f.2.2.1,f.2.2.2.1,f.2.2.2.2]=L;have hlen:L.length=5:=by rw[<-hL];rfl
 have hfu:=eJ;have key:=BG (R:=Int) (T:=nt (λ(y2:Int) (y3:Int)=>if 8=0 then none else(some (Int.tmod y2 8))) L (L.length:Int)) L (λ(s:Int) i=>(s,(i:Int))) (λx s k=>k (ar (s+(x%8)))) (λs=>some (Int.tmod s 8)) (λi hi s nx=>by simp only[nt];rw[jz,bu hi,ak (n:=(i:Int)+1)];simp only[ah,ab,ahE];rfl) (λs nx=>by simp only[nt];rw[iw];rfl) fuel 0 0 (by omega) (by omega);refine key.trans ?_;rw[<-hL];simp only[fi,zJ];rw[ak (n:=0+f.1%8),ak (n:=0+f.1%8+_),ak (n:=0+f.1%8+_+_),ak (n:=0+f.1%8+_+_+_),ak (n:=0+f.1%8+_+_+_+_)];rw[agn,ES,Int.zero_add]
def gD (t:aw Slot)(i:Nat):Slot:=t.getD i (0,(0,0,0,0,0),0)
theorem wC {t:aw Slot}(h:i<t.length):gD t i=t[i]:=cG h _
def lz (f:kj)(k:Nat):Nat:=((ES f).toNat+k)%8
theorem HE (f:kj)(k:Nat):lz f k<8:=Nat.mod_lt _ (by omega)
theorem VY (f:kj)(k:Nat)(h:k<8):Int.tmod (ar (ES f+(k:Int))) 8=(lz f k:Int):=by have:=TD f;rw[ak,agn,lz];omega
def pB (s:Slot)(f:kj):Bool:=(s.1==1)&&decide (s.2.1=f)
theorem Kk (p q:kj):((p.1==q.1)&&((p.2.1==q.2.1)&&((p.2.2.1==q.2.2.1)&&((p.2.2.2.1==q.2.2.2.1)&&((p.2.2.2.2==q.2.2.2.2)&&true)))))=decide (p=q):=by obtain⟨a,b,c,d,e⟩:=p;obtain⟨a',b',c',d',e'⟩:=q;rw[cC];simp
def walk (t:aw Slot)(f:kj):Nat->Nat->Int
 |0,_=> -1
 |n+1,k=>if(gD t (lz f k)).1=0 then-1 else if pB (gD t (lz f k)) f then(lz f k:Int) else walk t f n (k+1)
theorem aeT (t:aw Slot)(f:kj)(ht:t.length=8):yT t f=some (walk t f 8 0):=by
 unfold yT;have hfu:=eJ
 have key:=GZ (R:=Int) (T:=py (λ(y6:Int)=>some (-1)) (λ(y7:Int) (y8:Int)=>some y7) 0 t f) 8 (λ(_:Unit) i=>(i:Int))
  (λi s k=>if(gD t (lz f i)).1=0 then some (-1) else if pB (gD t (lz f i)) f then some (lz f i:Int) else k s) (λ_=>some (-1))
  (λi s nx hi=>by
   have hw:lz f i<t.length:=by have:=HE f i;omega
   simp only[py,aeU];rw[jz,ak (n:=(i:Int)+1)];simp only[ah,ab,VY f i hi,bu hw,wC hw,Kk,pB,bM,ab];rw[nf];by_cases h0:t[lz f i].1=0;simp[h0];have e0:(t[lz f i].1==0)=false:=by simp[h0]
   rw[e0,aD h0];cases (t[lz f i].1==1)<;>cases decide (t[lz f i].2.1=f)<;>rfl)
  (λs nx=>by simp only[py];rfl)
  fuel 0 () (by omega) (by omega)
 refine key.trans ?_;have main:∀n i,upK (R:=Int) (λi (s:Unit) k=>if(gD t (lz f i)).1=0 then some (-1) else if pB (gD t (lz f i)) f then some (lz f i:Int) else k s) (λ_=>some (-1)) 8 n i ()=some (walk t f n i):=by intro n;induction n with|zero=>intro i;rfl|succ n ih=>intro i;rw[upK,walk];split;rfl;split;rfl;exact ih (i+1)
 exact main 8 0
def yd (f:kj):aw Slot->Int->Int
 |[],_=> -1
 |s::r,i=>if pB s f then i else yd f r (i+1)
theorem TX (t:aw Slot)(f:kj)(h:t.length<=1000000000):xN t f=some (yd f t 0):=by
 unfold xN;have hfu:=eJ;have key:∀n i,i<=t.length->t.length-i<n->bl (vB (λ(y3:Int)=>some (-1)) (λ(y4:Int) (y5:Int)=>some y4) 0 t ((List.length t:Int)) f) n (i:Int)=some (yd f (t.drop i) i):=by
  intro n;induction n with
  |zero=>intro i _ h;omega
  |succ n ih=>
   intro i hi hn;rw[bl];simp only[vB];rcases cq i t.length with hlt|hge;rw[jz,bu hlt,ca hlt,yd,ak];simp only[ah,ab,Kk,bM];have e:(bif t[i].1==1 then decide (t[i].2.1=f) else false)=pB t[i] f:=by unfold pB;cases (t[i].1==1)<;>rfl
   rw[e];cases pB t[i] f with|true=>rfl|false=>exact ih (i+1) (by omega) (by omega)
   have:i=t.length:=by omega
   subst this;rw[iw,gY];rfl
 exact key fuel 0 (by omega) (by omega)
theorem ahe (f:kj):Cj f=some ((List.range 8).map λk=>(lz f k:Int)):=by unfold Cj;have hfu:=eJ;have key:=GZ (R:=bZ) (T:=sY (λ(y2:bZ) (y3:Int)=>some y2) f) 8 (λ(_:Unit) i=>((List.range i).map (λk=>(lz f k:Int)),(i:Int))) (λ_ s k=>k s) (λ_=>some ((List.range 8).map λk=>(lz f k:Int))) (λi s nx hi=>by simp only[sY,adP];rw[jz,ak (n:=(i:Int)+1)];simp only[ah,ab,VY f i hi];rw[nf,aQ (by simp;omega),gJ,ec];rfl) (λs nx=>by simp only[sY];rfl) fuel 0 () (by omega) (by omega);exact key
def clear (t:aw Slot)(f:kj)(i:Nat):Nat->Nat->Bool
 |0,_=>true
 |n+1,k=>if lz f k=i then true else if(gD t (lz f k)).1=0 then false else clear t f i n (k+1)
theorem aaU (k0:Int->az R)(k1:Bool->Int->az R)(hit fin:az R)(h0:∀x,k0 x=fin)(h1:∀x,k1 false x=hit)(v2:Bool)(i:Nat)(v12:aw Slot)(v13 v14:Int)(t:aw Slot)(f:kj)(ht:t.length=8): bl (kK k0 k1 v2 (i:Int) v12 v13 v14 ((List.range 8).map λk=>(lz f k:Int)) (((List.range 8).map λk=>(lz f k:Int)).length:Int) t) fuel 0=cond (clear t f i 8 0) fin hit:=by
 have hfu:=eJ;have hl:((List.range 8).map λk=>(lz f k:Int)).length=8:=by simp
 have key:=GZ (R:=R) (T:=kK k0 k1 v2 (i:Int) v12 v13 v14 ((List.range 8).map λk=>(lz f k:Int)) (((List.range 8).map λk=>(lz f k:Int)).length:Int) t) 8 (λ(_:Unit) i=>(i:Int))
  (λk s c=>if lz f k=i then fin else if(gD t (lz f k)).1=0 then hit else c s) (λ_=>fin)
  (λk s nx hk=>by
   have hw:lz f k<t.length:=by have:=HE f k;omega
   simp only[kK];rw[jz,bu (show k<((List.range 8).map λk=>(lz f k:Int)).length by omega),ak (n:=(k:Int)+1)];simp only[ah,ab,List.getElem_map,List.getElem_range,bu hw,wC hw,h0,h1];by_cases e1:lz f k=i;subst e1;simp;have:((lz f k:Int)==(i:Int))=false:=by simp;omega
   rw[this,aD e1];by_cases e2:t[lz f k].1=0;simp[e2];have:(t[lz f k].1==0)=false:=by simp[e2]
   rw[this,aD e2];rfl)
  (λs nx=>by simp only[kK];rw[iw];exact h0 _)
  fuel 0 () (by omega) (by omega)
 refine key.trans ?_;have main:∀n k,upK (R:=R) (λk (s:Unit) c=>if lz f k=i then fin else if(gD t (lz f k)).1=0 then hit else c s) (λ_=>fin) 8 n k ()=cond (clear t f i n k) fin hit:=by intro n;induction n with|zero=>intro k;rfl|succ n ih=>intro k;rw[upK,clear];split;rfl;split;rfl;exact ih (k+1)
 exact main 8 0
def Th:kj:=(0,0,0,0,0)
theorem Ti (p:kj):((p.1==0)&&((p.2.1==0)&&((p.2.2.1==0)&&((p.2.2.2.1==0)&&((p.2.2.2.2==0)&&true)))))=decide (p=Th):=Kk p Th
def Pj (s:Slot):Bool:=cX s.1 0 2&&cX s.2.2 0 3&&((s.1==1)||(s.2.2==0)&&decide (s.2.1=Th))
def nM (t:aw Slot)(i:Nat):Bool:=Pj (gD t i)&&(!((gD t i).1==1)||(walk t (gD t i).2.1 8 0==(i:Int)))
def ux (t:aw Slot)(i:Nat):Bool:=Pj (gD t i)&&(!((gD t i).1==1)||(yd (gD t i).2.1 t 0==(i:Int))&&clear t (gD t i).2.1 i 8 0)
def sG (t:aw Slot):Bool:=(t.length==8)&&(List.range 8).all (nM t)
theorem acw (t:aw Slot):yN t=some (sG t):=by
 unfold yN sG;by_cases ht:t.length=8
 ·have e:((t.length:Int) !=8)=false:=by rw[ht];rfl
  have e2:(t.length==8)=true:=by rw[ht];rfl
  rw[e,e2];simp only[af,bq];rw[iQ (hit:=some false) (fin:=some true) (nM t) 8 (by omega) (λi nx hi=>?hs) (λnx=>?hf)]
  case hs=>
   have hl:i<t.length:=by omega
   simp only[tW]
   rw[jz,bu hl,ak]
   simp only[ah,ab,dR,bM,Ti,aeT t _ ht,nM,wC hl,Pj,bne]
   cases cX t[i].1 0 2<;>cases cX t[i].2.2 0 3<;>cases (t[i].1==1)<;>cases (t[i].2.2==0)<;>cases decide (t[i].2.1=Th)<;>first|rfl|(cases (walk t t[i].2.1 8 0==(i:Int))<;>rfl)
  case hf=>
   simp only[tW]
   rw[iw];rfl
  cases (List.range 8).all (nM t)<;>rfl
 have e:((t.length:Int) !=8)=true:=by simp;omega
 have e2:(t.length==8)=false:=by simp[ht]
 rw[e,e2];rfl
theorem Xf (t:aw Slot):rE t=some ((t.length==8)&&(List.range 8).all (ux t)):=by
 unfold rE;by_cases ht:t.length=8
 ·have e:((t.length:Int) !=8)=false:=by rw[ht];rfl
  have e2:(t.length==8)=true:=by rw[ht];rfl
  rw[e,e2];simp only[af,bq];rw[iQ (hit:=some false) (fin:=some true) (ux t) 8 (by omega) (λi nx hi=>?hs) (λnx=>?hf)]
  case hs=>
   have hl:i<t.length:=by omega
   simp only[tG]
   rw[jz,bu hl,ak]
   simp only[ah,ab,cn,bM,Ti,TX t _ (show t.length<=1000000000 by omega),ahe,ux,wC hl,Pj,bne]
   rw[aaU (λ_=>nx ((i:Int)+1)) (λ(y:Bool) (_:Int)=>some y) (some false) (nx ((i:Int)+1)) (λ_=>rfl) (λ_=>rfl) _ _ _ _ _ _ _ ht]
   cases cX t[i].1 0 2<;>cases cX t[i].2.2 0 3<;>cases (t[i].1==1)<;>cases (t[i].2.2==0)<;>cases decide (t[i].2.1=Th)<;>first|rfl|(cases (yd t[i].2.1 t 0==(i:Int))<;>first|rfl|(cases clear t t[i].2.1 i 8 0<;>rfl))
  case hf=>
   simp only[tG]
   rw[iw];rfl
  cases (List.range 8).all (ux t)<;>rfl
 have e:((t.length:Int) !=8)=true:=by simp;omega
 have e2:(t.length==8)=false:=by simp[ht]
 rw[e,e2];rfl
theorem PI (t:aw Slot)(f:kj)(i:Nat):∀n k,walk t f n k=(i:Int)->pB (gD t i) f=true/\clear t f i n k=true/\∃j,j<n/\lz f (k+j)=i
 |0,k,h=>by unfold walk at h;omega
 |n+1,k,h=>by
  unfold walk at h;unfold clear;by_cases h0:(gD t (lz f k)).1=0;rw[aE h0]at h;omega;rw[aD h0]at h;by_cases h1:pB (gD t (lz f k)) f=true;rw[aE h1]at h;have:lz f k=i:=by omega
  subst this;exact⟨h1,by simp,0,by omega,rfl⟩;rw[aD h1]at h;obtain⟨a,b,j,hj,e⟩:=PI t f i n (k+1) h;refine⟨a,?_,j+1,by omega,by rw[<-e];congr 1;omega⟩;rw[aD h0,b];split<;>rfl
theorem aab (t:aw Slot)(f:kj)(i:Nat)(hu:pB (gD t i) f=true)(huniq:∀j,j<8->pB (gD t j) f=true->j=i):∀n k,clear t f i n k=true->(∃j,j<n/\lz f (k+j)=i)->walk t f n k=(i:Int)
 |0,k,_,h=>by obtain⟨j,hj,_⟩:=h;omega
 |n+1,k,hc,⟨j,hj,e⟩=>by unfold walk;unfold clear at hc;by_cases h1:lz f k=i;rw[h1,aD,aE hu];intro h0;unfold pB at hu;rw[h0]at hu;simp at hu;rw[aD h1]at hc;by_cases h0:(gD t (lz f k)).1=0;rw[aE h0]at hc;cases hc;rw[aD h0]at hc;rw[aD h0,aD (λhu'=>h1 (huniq _ (HE f k) hu'))];refine aab t f i hu huniq n (k+1) hc ?_;cases j with|zero=>exact absurd e h1|succ j=>exact⟨j,by omega,by rw[<-e];congr 1;omega⟩
theorem aia (f:kj)(i:Nat)(hi:i<8):∃j,j<8/\lz f (0+j)=i:=by have:=TD f;refine⟨(i+8-(ES f).toNat)%8,by omega,?_⟩;unfold lz;omega
theorem Dl (f:kj):∀(t:aw Slot)(m:Nat),(∃j,j<t.length/\pB (gD t j) f=true)->∃j,j<t.length/\pB (gD t j) f=true/\yd f t m=((m+j:Nat):Int)
 |[],_,h=>by obtain⟨j,hj,_⟩:=h;simp at hj
 |s::r,m,⟨j,hj,e⟩=>by
  unfold yd;by_cases hs:pB s f=true;rw[aE hs];exact⟨0,by simp,by simpa[gD]using hs,by simp⟩;rw[aD hs];cases j with
  |zero=>exact absurd (by simpa[gD]using e) hs
  |succ j=>
   obtain⟨j',h1,h2,h3⟩:=Dl f r (m+1) ⟨j,by simpa using hj,by simpa[gD]using e⟩;refine⟨j'+1,by simpa using h1,by simpa[gD]using h2,?_⟩;have:((m:Int)+1)=((m+1:Nat):Int):=by omega
   rw[this,h3];congr 1;omega
theorem Yb (t:aw Slot)(ht:t.length=8):(List.range 8).all (ux t)=(List.range 8).all (nM t):=by
 rw[cC,aG,aG];simp only[bF];constructor;intro h i hi;have hI:=h i hi;unfold ux at hI;unfold nM;simp only[ae,cQ,aJ,bm]at hI⊢;refine⟨hI.1,?_⟩;rcases hI.2 with h1|⟨h1,h2⟩;exact .inl h1;by_cases hu:((gD t i).1==1)=true;right;have hu':pB (gD t i) (gD t i).2.1=true:=by unfold pB;rw[hu];simp
 refine aab t _ i hu' (λj hj huj=>?_) 8 0 h2 (aia _ i hi);have hJ:=h j hj;unfold ux at hJ;unfold pB at huj;simp only[ae,aH]at huj;simp only[ae,cQ,aJ,bm]at hJ;rcases hJ.2 with h3|⟨h3,_⟩;rw[huj.1]at h3;cases h3;rw[huj.2]at h3;omega;exact .inl (by simpa using hu);intro h i hi;have hI:=h i hi;unfold nM at hI;unfold ux;simp only[ae,cQ,aJ,bm]at hI⊢;refine⟨hI.1,?_⟩;rcases hI.2 with h1|h1;exact .inl h1;right;obtain⟨hu,hc,_⟩:=PI t _ i 8 0 h1;refine⟨?_,hc⟩;obtain⟨j,hj,huj,e⟩:=Dl (gD t i).2.1 t 0 ⟨i,by omega,hu⟩;have hJ:=h j (by omega);unfold nM at hJ;unfold pB at huj;simp only[ae,aH]at huj;simp only[ae,cQ,aJ,bm]at hJ;rcases hJ.2 with h3|h3;rw[huj.1]at h3;cases h3;rw[huj.2,h1]at h3;have e':yd (gD t i).2.1 t 0=((0+j:Nat):Int):=e;rw[e'];omega
theorem ON (t:aw Slot):rE t=some (sG t):=by
 rw[Xf,sG];by_cases ht:t.length=8;rw[Yb t ht];have e2:(t.length==8)=false:=by simp[ht]
 rw[e2];rfl
def ZP (n:Int):Bool:=(n==1)||(n==2)||(n==4)||(n==8)||(n==16)
theorem Xp (n:Int):yR n=some (ZP n):=by simp only[yR,bM,ab,ZP];cases (n==1)<;>cases (n==2)<;>cases (n==4)<;>cases (n==8)<;>rfl
def sg (s:sv)(q:Int):Bool:=cX q 1 4&&((s.1.length:Int)==16)&&ZP s.2.length&&s.2.all λx=>cX x 0 (q-1)
theorem MY (s:sv)(q:Int)(h:s.2.length<=1000000000):xq s q=some (sg s q):=by
 unfold xq sg;simp only[dR,Xp,ab,bM,bne];by_cases hq:cX q 1 4=true
 ·rw[qY (hit:=some false) (fin:=some true) (λx=>cX x 0 (q-1)) s.2 (by omega) (λi hi nx=>?hs) (λnx=>?hf)]
  case hs=>
   rw[aW]at hq
   simp only[rZ]
   rw[jz,bu hi,ak (n:=(i:Int)+1),ak (n:=q-1)]
   simp only[ah,ab,dR];rfl
  case hf=>
   simp only[rZ]
   rw[iw];rfl
  rw[hq];cases ((s.1.length:Int)==16)<;>cases ZP s.2.length<;>cases s.2.all (λx=>cX x 0 (q-1))<;>rfl
 have hq':cX q 1 4=false:=by simpa using hq
 rw[hq'];rfl
theorem L4 (s:sv)(q:Int)(h:s.2.length<=1000000000):xd s q=some (sg s q):=by rw[<-MY s q h];rfl
def fb (s:dJ)(q:Int):Bool:=yh s.1&&sG s.2.1&&sg s.2.2 q&&s.1.all (λr=> !(decide (r.2.2.2.2.2.2.2.2>=q)))&&s.2.1.all (λx=> !(decide (x.2.2>=q)))
theorem Ho (s:dJ)(q:Int)(h1:s.1.length<=1000000000)(h2:s.2.1.length<=1000000000)(h3:s.2.2.2.length<=1000000000):tV s q=some (fb s q):=by
 unfold tV fb;simp only[Pq _ h1,acw,MY _ _ h3,ab,bM];rw[qY (hit:=some false) (fin:=cond (s.2.1.all (λx=> !(decide (x.2.2>=q)))) (some true) (some false)) (λr:mA=> !(decide (r.2.2.2.2.2.2.2.2>=q))) s.1 (by omega) (λi hi nx=>?hs) (λnx=>?hf)]
 case hs=>
  simp only[oO]
  rw[jz,bu hi,ak]
  simp only[ah,ab,fU];rfl
 case hf=>
  simp only[oO]
  rw[iw]
  simp only[af]
  rw[qY (hit:=some false) (fin:=some true) (λx:Slot=> !(decide (x.2.2>=q))) s.2.1 (by omega) (λi hi nx=>?hs) (λnx=>?hf)]
  case hs=>
   simp only[oP]
   rw[jz,bu hi,ak]
   simp only[ah,ab,fU];rfl
  case hf=>
   simp only[oP]
   rw[iw];rfl
 cases yh s.1<;>cases sG s.2.1<;>cases sg s.2.2 q<;>cases s.1.all (λr=> !(decide (r.2.2.2.2.2.2.2.2>=q)))<;>cases s.2.1.all (λx=> !(decide (x.2.2>=q)))<;>rfl
theorem GN (s:dJ)(q:Int)(h1:s.1.length<=1000000000)(h2:s.2.1.length<=1000000000)(h3:s.2.2.2.length<=1000000000):pe s q=some (fb s q):=by
 unfold pe fb;simp only[OJ _ h1,ON,L4 _ _ h3,ab,bM];rw[qY (hit:=some false) (fin:=cond (s.2.1.all (λx=> !((x.1==1)&&decide (x.2.2>=q)))) (some true) (some false)) (λr:mA=> !((r.2.2.2.2.2.2.2.1==0)&&decide (r.2.2.2.2.2.2.2.2>=q))) s.1 (by omega) (λi hi nx=>?hs) (λnx=>?hf)]
 case hs=>
  simp only[oC]
  rw[jz,bu hi,ak]
  simp only[ah,ab,fU,bM]
  cases (s.1[i].2.2.2.2.2.2.2.1==0)<;>rfl
 case hf=>
  simp only[oC]
  rw[iw]
  simp only[af]
  rw[qY (hit:=some false) (fin:=some true) (λx:Slot=> !((x.1==1)&&decide (x.2.2>=q))) s.2.1 (by omega) (λi hi nx=>?hs) (λnx=>?hf)]
  case hs=>
   simp only[mU]
   rw[jz,bu hi,ak]
   simp only[ah,ab,fU,bM]
   cases (s.2.1[i].1==1)<;>rfl
  case hf=>
   simp only[mU]
   rw[iw];rfl
 cases hr:yh s.1 with
 |false=>rfl
 |true=>
  cases ht:sG s.2.1 with
  |false=>rfl
  |true=>
   cases hs:sg s.2.2 q with
   |false=>rfl
   |true=>
    have hq:1<=q:=by unfold sg at hs;simp only[ae,aW]at hs;exact hs.1.1.1.1
    have e1:s.1.all (λr=> !((r.2.2.2.2.2.2.2.1==0)&&decide (r.2.2.2.2.2.2.2.2>=q)))=s.1.all (λr=> !(decide (r.2.2.2.2.2.2.2.2>=q))):=by unfold yh at hr;simp only[ae,aG]at hr;rw[cC,aG,aG];refine forall_congr' λr=>forall_congr' λhm=>?_;rcases Vm (hr.1 r hm)with h0|h0;rw[h0];simp;rw[h0];simp only[aq (show¬(0:Int)>=q by omega),ff]
    have e2:s.2.1.all (λx=> !((x.1==1)&&decide (x.2.2>=q)))=s.2.1.all (λx=> !(decide (x.2.2>=q))):=by unfold sG at ht;simp only[ae,aG,bF,bm]at ht;rw[cC,aG,aG];refine forall_congr' λx=>forall_congr' λhm=>?_;obtain⟨i,hi,rfl⟩:=List.mem_iff_getElem.1 hm;have hsl:=ht.2 i (by omega);unfold nM Pj at hsl;rw[wC hi]at hsl;simp only[ae,cQ,bm]at hsl;rcases hsl.1.2 with h0|⟨h0,_⟩;rw[h0];simp;rw[h0];simp only[aq (show¬(0:Int)>=q by omega),ff]
    rw[e1,e2];cases s.1.all (λr=> !(decide (r.2.2.2.2.2.2.2.2>=q)))<;>cases s.2.1.all (λx=> !(decide (x.2.2>=q)))<;>rfl
theorem je (h:n<9223372036854775808:=by omega):ar (n:Int)=(n:Int):=ak
theorem HF (h:n<4294967296:=by omega):IntKind.wrap .u32 (n:Int)=(n:Int):=by simp only[ar,gG,IntKind.wrap,IntKind.bits,IntKind.signed];simp;omega
theorem tw (b:UInt8):b.toNat<256:=b.toNat_lt
def cm (v:Int):Bytes:=(dF v).getD []
theorem oL (v:Int):dF v=some (cm v):=by
 unfold cm;have:∃x,dF v=some x:=by simp only[dF,dR,ab];cases cX v 0 65535<;>exact⟨_,rfl⟩
 obtain⟨x,hx⟩:=this;rw[hx];rfl
theorem kU (v:Int):cv v=some (cm v):=oL v
theorem F3 (v:Int):(cm v).length=bif cX v 0 65535 then 2 else 0:=by have h:=oL v;simp only[dF,dR,ab]at h;cases hb:cX v 0 65535<;>rw[hb]at h<;>(rw[<-cc h];rfl)
theorem bS (v:Int):(cm v).length<=2:=by rw[F3];cases cX v 0 65535<;>simp
def gk (v:Int):Bytes:=(fL v).getD []
theorem mG (v:Int):fL v=some (gk v):=by
 unfold gk;have:∃x,fL v=some x:=by simp only[fL,dR,ab];cases cX v 0 4294967295<;>exact⟨_,rfl⟩
 obtain⟨x,hx⟩:=this;rw[hx];rfl
theorem ue (v:Int):fS v=some (gk v):=mG v
theorem No (v:Int):(gk v).length=bif cX v 0 4294967295 then 4 else 0:=by have h:=mG v;simp only[fL,dR,ab]at h;cases hb:cX v 0 4294967295<;>rw[hb]at h<;>(rw[<-cc h];rfl)
theorem dS (v:Int):(gk v).length<=4:=by rw[No];cases cX v 0 4294967295<;>simp
def bX (s:Bytes)(i:Nat):Nat:=(s.getD i 0).toNat
theorem eE (s:Bytes)(i:Nat):bX s i<256:=tw _
theorem lY (h:i<s.length:=by omega):∃x,idx s (i:Int)=some x/\x.toNat=bX s i:=⟨s[i],bu h,by rw[bX,cG h]⟩
def ft (s:Bytes)(a n:Int):Bool:=decide (0<=a/\a+n<=(s.length:Int))
theorem DY (s:Bytes)(a n:Int)(h:s.length<=1000000000)(hn:0<=n:=by omega):nT s a n=some (ft s a n):=by
 unfold nT ft;by_cases h0:0<=a;by_cases h1:a<=(s.length:Int)
 rw[au (show a>=0 from h0),au h1,ak];simp only[ah,ab];congr 1;rw[decide_eq_decide];omega;rw[au (show a>=0 from h0),aq h1,aq (show¬(0<=a/\a+n<=(s.length:Int)) by omega)];rfl;rw[aq (show¬a>=0 from h0),aq (show¬(0<=a/\a+n<=(s.length:Int)) by omega)];rfl
def de (s:Bytes)(a:Int):Int:=bif ft s a 2 then((bX s a.toNat*256+bX s (a.toNat+1):Nat):Int) else-1
def eO (s:Bytes)(a:Int):Int:=bif ft s a 4 then(((bX s a.toNat*256+bX s (a.toNat+1))*65536+(bX s (a.toNat+2)*256+bX s (a.toNat+3)):Nat):Int) else-1
theorem Po (s:Bytes)(a:Int)(h:s.length<=1000000000):Ai s a=some (de s a):=by unfold Ai de;rw[DY s a 2 h,ab];cases hw:ft s a 2 with|false=>rfl|true=>simp only[ft,aH]at hw;obtain⟨n,rfl⟩:=aR hw.1;obtain⟨x,hx,ex⟩:=lY (s:=s) (i:=n);obtain⟨y,hy,ey⟩:=lY (s:=s) (i:=n+1);have hxl:=eE s n;have hyl:=eE s (n+1);rw[ak (n:=(n:Int)+1),hx,show(n:Int)+1=((n+1:Nat):Int) by omega,hy];simp only[aj,af,ab,ax,ah];rw[nf,ex,ey,je,je];have e8:sH 8=8:=rfl;rw[e8,ak (n:=((bX s n:Nat):Int)*2^8),ak];congr 1;all_goals omega
theorem acq (s:Bytes)(a:Int)(h:s.length<=1000000000):wD s a=some (eO s a):=by
 unfold wD eO;rw[DY s a 4 h,ab];cases hw:ft s a 4 with
 |false=>rfl
 |true=>
  simp only[ft,aH]at hw;obtain⟨n,rfl⟩:=aR hw.1;have w1:ft s (n:Int) 2=true:=by simp only[ft,aH];omega
  have w2:ft s ((n:Int)+2) 2=true:=by simp only[ft,aH];omega
  have b0:=eE s n;have b1:=eE s (n+1);have b2:=eE s (n+2);have b3:=eE s (n+3);rw[ak (n:=(n:Int)+2),Po s _ h,Po s _ h];simp only[aj,af,ab,ah,de,w1,w2,ax];rw[nf,show((n:Int)+2).toNat=n+2 by omega,show n+2+1=n+3 by omega];have e8:sH 16=16:=rfl;rw[e8,ak (n:=((bX s n*256+bX s (n+1):Nat):Int)*2^16),ak];congr 1;all_goals omega
theorem ayb (a b:Nat)(ha:a<9223372036854775808)(hb:b<9223372036854775808):BitVec.toNat (gX (a:Int)|||gX (b:Int))=a|||b:=by show(BitVec.ofInt 64 (a:Int)|||BitVec.ofInt 64 (b:Int)).toNat=_;rw[dQ,dQ,BitVec.toNat_or,eo,eo,eH (by omega),eH (by omega)]
theorem aik (a b:Nat)(ha:a<9223372036854775808:=by omega)(hb:b<9223372036854775808:=by omega):BitVec.toNat (gX (a:Int)&&&gX (b:Int))=a&&&b:=by show(BitVec.ofInt 64 (a:Int)&&&BitVec.ofInt 64 (b:Int)).toNat=_;rw[dQ,dQ,BitVec.toNat_and,eo,eo,eH (by omega),eH (by omega)]
theorem agy (a b:Nat)(ha:a<9223372036854775808)(hb:b<9223372036854775808):BitVec.toNat (gX (a:Int)^^^gX (b:Int))=a^^^b:=by show(BitVec.ofInt 64 (a:Int)^^^BitVec.ofInt 64 (b:Int)).toNat=_;rw[dQ,dQ,BitVec.toNat_xor,eo,eo,eH (by omega),eH (by omega)]
theorem aoe (a b:Nat)(ha:a<4294967296)(hb:b<4294967296):BitVec.toNat (BitVec.ofInt (IntKind.bits .u32) (a:Int)&&&BitVec.ofInt (IntKind.bits .u32) (b:Int))=a&&&b:=by show(BitVec.ofInt 32 (a:Int)&&&BitVec.ofInt 32 (b:Int)).toNat=_;rw[dQ,dQ,BitVec.toNat_and,eo,eo,eH (by omega),eH (by omega)]
theorem ai6 (a b:Nat)(ha:a<4294967296)(hb:b<4294967296):BitVec.toNat (BitVec.ofInt (IntKind.bits .u32) (a:Int)^^^BitVec.ofInt (IntKind.bits .u32) (b:Int))=a^^^b:=by show(BitVec.ofInt 32 (a:Int)^^^BitVec.ofInt 32 (b:Int)).toNat=_;rw[dQ,dQ,BitVec.toNat_xor,eo,eo,eH (by omega),eH (by omega)]
theorem FP (x k y:Nat)(hy:y<2^k:=by omega)(h:2^k*x+y<9223372036854775808:=by omega):ar (BitVec.toNat (gX ((2^k*x:Nat):Int)|||gX (y:Int)):Int)=((2^k*x+y:Nat):Int):=by rw[ayb _ _ (by omega) (by omega),<-Nat.two_pow_add_eq_or_of_lt hy];exact je h
theorem JT (s:Bytes)(a n:Int):(cond (decide (a<0)) (some true) (some (decide (a>(s.length:Int)-n))))=some (!ft s a n):=by cases hw:ft s a n with|true=>simp only[ft,aH]at hw;rw[aq (show¬a<0 by omega),aq (show¬a>(s.length:Int)-n by omega)];rfl|false=>simp only[ft,cY]at hw;by_cases h0:a<0;rw[au h0];rfl;rw[aq h0,au (show a>(s.length:Int)-n by omega)];rfl
theorem wg (s:Bytes)(a:Int)(h:s.length<=1000000000):fI s a=some (de s a):=by unfold fI de;rw[ak (n:=(s.length:Int)-2)];rw[JT,ab];cases hw:ft s a 2 with|false=>rfl|true=>simp only[ft,aH]at hw;obtain⟨n,rfl⟩:=aR hw.1;obtain⟨x,hx,ex⟩:=lY (s:=s) (i:=n);obtain⟨y,hy,ey⟩:=lY (s:=s) (i:=n+1);have hxl:=eE s n;have hyl:=eE s (n+1);rw[ak (n:=(n:Int)+1),hx,show(n:Int)+1=((n+1:Nat):Int) by omega,hy];simp only[aj,af,ah,ab,ax];rw[nf,ex,ey,je (n:=bX s n),je (n:=bX s (n+1))];have e8:sH 8=8:=rfl;rw[e8,show((bX s n:Nat):Int)*2^8=((2^8*bX s n:Nat):Int) by omega,je (n:=2^8*bX s n),FP (bX s n) 8 (bX s (n+1))];congr 1;all_goals omega
theorem wh (s:Bytes)(a:Int)(h:s.length<=1000000000):hH s a=some (eO s a):=by
 unfold hH eO;rw[ak (n:=(s.length:Int)-4)];rw[JT,ab];cases hw:ft s a 4 with
 |false=>rfl
 |true=>
  simp only[ft,aH]at hw;obtain⟨n,rfl⟩:=aR hw.1;obtain⟨x0,h0,e0⟩:=lY (s:=s) (i:=n);obtain⟨x1,h1,e1⟩:=lY (s:=s) (i:=n+1);obtain⟨x2,h2,e2⟩:=lY (s:=s) (i:=n+2);obtain⟨x3,h3,e3⟩:=lY (s:=s) (i:=n+3);have b0:=eE s n;have b1:=eE s (n+1);have b2:=eE s (n+2);have b3:=eE s (n+3)
  rw[ak (n:=(n:Int)+1),ak (n:=(n:Int)+2),ak (n:=(n:Int)+3),h0,show(n:Int)+1=((n+1:Nat):Int) by omega,h1,
   show(n:Int)+2=((n+2:Nat):Int) by omega,h2,show(n:Int)+3=((n+3:Nat):Int) by omega,h3]
  simp only[aj,af,ah,ab,ax];rw[nf,nf,nf,e0,e1,e2,e3];generalize bX s n=p0 at*;generalize bX s (n+1)=p1 at*;generalize bX s (n+2)=p2 at*;generalize bX s (n+3)=p3 at*;have f24:sH 24=24:=rfl;have f16:sH 16=16:=rfl;have f8:sH 8=8:=rfl
  rw[je (n:=p0),je (n:=p1),je (n:=p2),je (n:=p3),f24,f16,f8,
   show((p0:Nat):Int)*2^24=((2^24*p0:Nat):Int) by omega,show((p1:Nat):Int)*2^16=((2^16*p1:Nat):Int) by omega,show((p2:Nat):Int)*2^8=((2^8*p2:Nat):Int) by omega,
   je (n:=2^24*p0),je (n:=2^16*p1),je (n:=2^8*p2),FP p0 24 (2^16*p1),
   show 2^24*p0+2^16*p1=2^16*(2^8*p0+p1) by omega,FP _ 16 (2^8*p2),
   show 2^16*(2^8*p0+p1)+2^8*p2=2^8*(2^8*(2^8*p0+p1)+p2) by omega,FP _ 8 p3]
  congr 1;all_goals omega
def Fp (c:Nat):Nat:=if c%2=1 then(c/2)^^^3988292384 else c/2
def uG:Nat->Nat->Nat
 |0,c=>c
 |n+1,c=>Fp (uG n c)
def ata (c:Nat)(s:Bytes):Nat:=s.foldl (λc b=>uG 8 (c^^^b.toNat)) c
def IZ (s:Bytes):Int:=4294967295-(ata 4294967295 s:Int)
theorem CJ {b:Nat}(ha:a<4294967296:=by omega)(hb:b<4294967296:=by omega):a^^^b<4294967296:=Nat.xor_lt_two_pow (n:=32) ha hb
theorem aav {c:Nat}(h:c<4294967296):Fp c<4294967296:=by unfold Fp;split;exact CJ;omega
theorem Gj {c:Nat}(h:c<4294967296):∀n,uG n c<4294967296
 |0=>h
 |n+1=>aav (Gj h n)
theorem aeP (k0:Int->Int->az R)(k:Int->az R)(hk:∀x y,k0 x y=k x)(v0:Bytes)(v4:Int)(c:Nat)(h:c<4294967296):bl (pN k0 v0 v4) fuel ((c:Int),0)=k (uG 8 c:Int):=by
 have hfu:=eJ
 have key:=GZ (T:=pN k0 v0 v4) 8 (λ(_:Unit) i=>((uG i c:Int),(i:Int))) (λ_ s nx=>nx s) (λ_=>k (uG 8 c:Int))
  (λi s nx hi=>by
   have hc:=Gj h i;simp only[pN];have a1:=aik (uG i c) 1;have x1:=agy (uG i c/2) 3988292384 (by omega) (by omega);simp only[Int.natCast_one]at a1
   rw[jz,ah,a1,Nat.and_one_is_mod,
    show sH 1=1 from rfl,show Int.fdiv ((uG i c:Nat):Int) (2^1)=((uG i c/2:Nat):Int) from by rw[Int.fdiv_eq_ediv_of_nonneg _ (by omega)];rfl,
    show(3988292384:Int)=((3988292384:Nat):Int) from rfl,x1,
    je (n:=uG i c%2),je (n:=(uG i c/2)^^^3988292384) (by have:=CJ (a:=uG i c/2) (b:=3988292384);omega),nf,nf,ak (n:=(i:Int)+1)]
   show _=nx ((Fp (uG i c):Int),((i+1:Nat):Int));unfold Fp;by_cases hp:uG i c%2=1;rw[hp,aE rfl];rfl;have h0:uG i c%2=0:=by omega
   rw[h0,nf];rfl)
  (λs nx=>by simp only[pN];rw[iw,af,hk])
  fuel 0 () (by omega) (by omega)
 refine key.trans ?_;rfl
theorem adM (k0:Int->Int->az R)(k:Int->az R)(hk:∀x y,k0 x y=k x)(v0:Bytes)(v4:Int)(c:Nat)(h:c<4294967296):bl (pH k0 v0 v4) fuel ((c:Int),0)=k (uG 8 c:Int):=by
 have hfu:=eJ
 have key:=GZ (T:=pH k0 v0 v4) 8 (λ(_:Unit) i=>((uG i c:Int),(i:Int))) (λ_ s nx=>nx s) (λ_=>k (uG 8 c:Int))
  (λi s nx hi=>by
   have hc:=Gj h i;simp only[pH];have a1:=aoe (uG i c) 1 (by omega) (by omega);have x1:=ai6 (uG i c/2) 3988292384 (by omega) (by omega);simp only[Int.natCast_one]at a1
   rw[jz,ah,a1,Nat.and_one_is_mod,
    show min (Int.toNat 1) (IntKind.bits .u32)=1 from rfl,show Int.fdiv ((uG i c:Nat):Int) (2^1)=((uG i c/2:Nat):Int) from by rw[Int.fdiv_eq_ediv_of_nonneg _ (by omega)];rfl,
    show(3988292384:Int)=((3988292384:Nat):Int) from rfl,x1,
    HF (n:=uG i c%2),HF (n:=(uG i c/2)^^^3988292384) (CJ),nf,ak (n:=(i:Int)+1)]
   show _=nx ((Fp (uG i c):Int),((i+1:Nat):Int));unfold Fp;by_cases hp:uG i c%2=1;rw[hp,aE rfl];rfl;have h0:uG i c%2=0:=by omega
   rw[h0,nf];rfl)
  (λs nx=>by simp only[pH];rw[iw,af,hk])
  fuel 0 () (by omega) (by omega)
 refine key.trans ?_;rfl
theorem ZR (s:Bytes)(h:s.length<=1000000000):Ah s=some (IZ s):=by
 unfold Ah;have:=tc (T:=th (λ(y4:Int) (_:Int)=>some (ar (4294967295-y4))) s) s (λ(c:Nat) i=>((c:Int),(i:Int))) (λ_ c=>c<4294967296) (λb c=> .ok (uG 8 (c^^^b.toNat))) (λc=>some (4294967295-(c:Int))) (by omega) (λi hi c nx hI=>?hs) (λi hi c c' hI hg=>?hn) (λc nx hI=>?hf) 4294967295 (by omega)
 case hs=>
  have hb:=tw s[i]
  simp only[th]
  rw[jz,bu hi,ah,ab,je (n:=s[i].toNat),agy c s[i].toNat (by omega) (by omega)]
  have hx:=CJ hI (show s[i].toNat<4294967296 by omega)
  rw[je,aeP _ (λy=>nx (y,(i:Int)+1)) (λx y=>by rw[ak]) _ _ _ hx];rfl
 case hn=>
  cases hg
  exact Gj (CJ hI (by have:=tw s[i];omega)) 8
 case hf=>
  simp only[th]
  rw[iw,af,ak]
 rw[Ey]at this;exact this
theorem not_xor (c:Nat)(h:c<4294967296):BitVec.toNat (BitVec.ofInt (IntKind.bits .u32) (IntKind.max .u32)^^^BitVec.ofInt (IntKind.bits .u32) (c:Int))=4294967295-c:=by show(BitVec.ofInt 32 4294967295^^^BitVec.ofInt 32 (c:Int)).toNat=_;rw[show BitVec.ofInt 32 4294967295=BitVec.allOnes 32 by decide,dQ,BitVec.allOnes_xor,BitVec.toNat_not,eo,eH (show c<2^32 by omega)]
theorem Zl (s:Bytes)(h:s.length<=1000000000):zR s=some (IZ s):=by
 unfold zR;have:=tc (T:=sN (λ(y4:Int) (_:Int)=>some (ar (IntKind.wrap .u32 (BitVec.toNat (BitVec.ofInt (IntKind.bits .u32) (IntKind.max .u32)^^^BitVec.ofInt (IntKind.bits .u32) y4))))) s) s (λ(c:Nat) i=>((c:Int),(i:Int))) (λ_ c=>c<4294967296) (λb c=> .ok (uG 8 (c^^^b.toNat))) (λc=>some (4294967295-(c:Int))) (by omega) (λi hi c nx hI=>?hs) (λi hi c c' hI hg=>?hn) (λc nx hI=>?hf) 4294967295 (by omega)
 case hs=>
  have hb:=tw s[i]
  simp only[sN]
  rw[jz,bu hi,ah,ab,HF (n:=s[i].toNat),ai6 c s[i].toNat (by omega) (by omega)]
  have hx:=CJ hI (show s[i].toNat<4294967296 by omega)
  rw[HF hx,adM _ (λy=>nx (y,(i:Int)+1)) (λx y=>by rw[ak]) _ _ _ hx];rfl
 case hn=>
  cases hg
  exact Gj (CJ hI (by have:=tw s[i];omega)) 8
 case hf=>
  simp only[sN]
  rw[iw,af,not_xor c hI,HF,je]
  congr 1
  all_goals omega
 rw[Ey]at this;exact this
def hasB (l:bZ)(v:Int):Bool:=l.any (·==v)
theorem TB:hasB l v=true↔v∈l:=by simp only[hasB,List.any_eq_true,bm];constructor;rintro⟨x,hx,rfl⟩;exact hx;intro h;exact⟨v,h,rfl⟩
theorem ZS (l:bZ)(v:Int)(h:l.length<=1000000000):xV l v=some (hasB l v):=by
 unfold xV hasB;rw[Gb (hit:=some true) (fin:=some false) (λx:Int=>x==v) l (by omega) (λi hi nx=>?hs) (λnx=>?hf)]
 case hs=>
  simp only[vU]
  rw[jz,bu hi,ak];rfl
 case hf=>
  simp only[vU]
  rw[iw];rfl
 cases l.any (λx=>x==v)<;>rfl
theorem yt (l:bZ)(v:Int)(h:l.length<=1000000000):gB l v=some (hasB l v):=by
 unfold gB hasB;rw[Gb (hit:=some true) (fin:=some false) (λx:Int=>x==v) l (by omega) (λi hi nx=>?hs) (λnx=>?hf)]
 case hs=>
  simp only[vx]
  rw[jz,bu hi,ak];rfl
 case hf=>
  simp only[vx]
  rw[iw];rfl
 cases l.any (λx=>x==v)<;>rfl
def ins (v:Int):bZ->bZ
 |[]=>[v]
 |x::l=>bif decide (v<x) then v::x::l else x::ins v l
theorem Rr (v:Int):∀l,(ins v l).length=l.length+1
 |[]=>rfl
 |x::l=>by rw[ins];cases decide (v<x)with|true=>rfl|false=>simp only[af,bf,Rr v l]
theorem Zw (v x:Int):∀l,x∈ins v l↔x=v\/x∈l
 |[]=>by simp[ins]
 |y::l=>by rw[ins];cases decide (v<y)with|true=>simp|false=>simp only[af,bQ,Zw v x l];constructor<;>(rintro(h|h|h)<;>simp[h])
theorem ad2 (v:Int):∀l:bZ,v∉l->l.take (l.findIdx (λx=> !decide (x<v)))++[v]++l.drop (l.findIdx (λx=> !decide (x<v)))=ins v l
 |[],_=>rfl
 |x::l,h=>by rw[ins,List.findIdx_cons];have hx:v≠x:=λe=>h (by simp[e]);have hl:v∉l:=λe=>h (by simp[e]);by_cases c:x<v;rw[au c,aq (show¬v<x by omega)];have:=ad2 v l hl;simpa using this;rw[aq c,au (show v<x by omega)];rfl
def wa (l:bZ)(v:Int):bZ:=bif hasB l v then l else ins v l
theorem Ga (l:bZ)(v:Int):(wa l v).length<=l.length+1:=by unfold wa;cases hasB l v with|true=>simp|false=>simp only[af,Rr];omega
theorem aed {x:Int}(h:x∈l):x∈wa l v:=by unfold wa;cases hasB l v with|true=>exact h|false=>exact(Zw v x l).2 (.inr h)
theorem aak (h:v∈l):wa l v=l:=by unfold wa;rw[TB.2 h];rfl
theorem BV:∀(vs l:bZ),(vs.foldl wa l).length<=l.length+vs.length
 |[],l=>by simp
 |v::vs,l=>by have:=BV vs (wa l v);have:=Ga l v;simp only[dL,bf];omega
theorem Il:∀(vs:bZ){l:bZ}{x:Int},x∈l->x∈vs.foldl wa l
 |[],_,_,h=>h
 |v::vs,l,x,h=>Il vs (l:=wa l v) (aed h)
theorem adw (p:α->Bool)(k:Int->az R)(l:aw α):(match l.findIdx? p with|some i=>k (i:Int)|none=>k (l.length:Int))=k (l.findIdx p:Int):=by cases h:l.findIdx? p with|none=>rw[List.findIdx?_eq_none_iff_findIdx_eq]at h;rw[h]|some i=>rw[List.findIdx?_eq_some_iff_findIdx_eq]at h;rw[h.2]
theorem VN (l:aw α)(j:Nat)(h:j<=l.length):sub l 0 (j:Int)=some (l.take j):=by unfold sub;rw[zip];simp
theorem Hv (l:aw α)(j:Nat)(h:j<=l.length):sub l (j:Int) (l.length:Int)=some (l.drop j):=by unfold sub;rw[zip];simp
theorem Pt (a vs:bZ)(h:a.length+vs.length<=1000000000):tr a vs=some (vs.foldl wa a):=by
 unfold tr;rw[aQ (by simp only[dZ];omega)];rw[cj];have:=tc (T:=nY (λ(y10:bZ) (_:Int)=>some y10) vs) vs (λ(s:bZ) i=>(s,(i:Int))) (λi s=>s.length<=a.length+i) (λv s=> .ok (wa s v)) (λs=>some s) (by omega) (λi hi s nx hI=>?hs) (λi hi s s' hI hg=>?hn) (λs nx hI=>?hf) a (by simp)
 case hs=>
  simp only[nY]
  rw[jz,bu hi,ak (n:=(i:Int)+1)]
  simp only[ah,ab,ZS s vs[i] (by omega)]
  unfold wa
  cases hh:hasB s vs[i]with
  |true=>rfl
  |false=>
   have hm:vs[i]∉s:=λe=>by rw[TB.2 e]at hh;cases hh
   simp only[af]
   rw[Ej (hit:=λy6=>aa (sub s 0 y6) λx7=>room (List.length ([]:bZ)+List.length x7) (room (List.length (([]:bZ)++x7)+List.length ([vs[i]])) (aa (sub s y6 (s.length:Int)) λx9=>room (List.length ((([]:bZ)++x7)++([vs[i]]))+List.length x9) (nx (((([]:bZ)++x7)++([vs[i]]))++x9,(i:Int)+1)))))
    (fin:=aa (sub s 0 (s.length:Int)) λx7=>room (List.length ([]:bZ)+List.length x7) (room (List.length (([]:bZ)++x7)+List.length ([vs[i]])) (aa (sub s (s.length:Int) (s.length:Int)) λx9=>room (List.length ((([]:bZ)++x7)++([vs[i]]))+List.length x9) (nx (((([]:bZ)++x7)++([vs[i]]))++x9,(i:Int)+1)))))
    (λx=> !decide (x<vs[i])) s (by omega) (λj hj nx'=>?hs2) (λnx'=>?hf2)]
   case hs2=>
    simp only[sf]
    rw[jz,bu hj,bu hi,ak (n:=(j:Int)+1)]
    simp only[ah,ab]
    cases decide (s[j]<vs[i])<;>rfl
   case hf2=>
    simp only[sf]
    rw[iw];rfl
   refine Eq.trans (adw (λx=> !decide (x<vs[i])) (λy6=>aa (sub s 0 y6) λx7=>room (List.length ([]:bZ)+List.length x7) (room (List.length (([]:bZ)++x7)+List.length ([vs[i]])) (aa (sub s y6 (s.length:Int)) λx9=>room (List.length ((([]:bZ)++x7)++([vs[i]]))+List.length x9) (nx (((([]:bZ)++x7)++([vs[i]]))++x9,(i:Int)+1))))) s) ?_
   have hle:s.findIdx (λx=> !decide (x<vs[i]))<=s.length:=List.findIdx_le_length
   have e:=ad2 vs[i] s hm
   generalize s.findIdx (λx=> !decide (x<vs[i]))=j at*
   rw[VN s j hle,Hv s j hle]
   simp only[ab,cj]
   rw[aQ (by simp;omega),aQ (by simp;omega),aQ (by simp;omega),e];rfl
 case hn=>
  cases hg
  have:=Ga s vs[i]
  omega
 case hf=>
  simp only[nY]
  rw[iw];rfl
 rw[Ey]at this;exact this
theorem Rf (l:bZ)(v:Int)(h:l.length<=1000000000):jV l v=some (ins v l):=by
 unfold jV
 have hgo:∀(l:bZ)(acc:bZ)(d:Bool),acc.length+l.length+(bif d then 0 else 1)<=1073741824->
  zJ (λ(x:Int) (s:bZ×Bool) (k:bZ×Bool->az bZ)=>cond (cond (!s.2) (decide (v<x)) false) (room (List.length s.1+List.length ([v])) (room (List.length (s.1++([v]))+List.length ([x])) (k ((s.1++([v]))++([x]),true)))) (room (List.length s.1+List.length ([x])) (k (s.1++([x]),s.2))))
   (λs=>cond (!s.2) (room (List.length s.1+List.length ([v])) (some (s.1++([v])))) (some s.1)) l (acc,d)=some (acc++bif d then l else ins v l):=by
  intro l
  induction l with
  |nil=>
   intro acc d hl
   rw[zJ]
   simp only[dZ]at hl
   cases d with
   |true=>simp
   |false=>
    simp only[bz,ah,af]at hl⊢
    rw[aQ (by simp;omega)];rfl
  |cons x l ih=>
   intro acc d hl
   simp only[bf]at hl
   rw[zJ]
   cases d with
   |true=>
    simp only[aj,af,ah]at hl⊢
    rw[aQ (by simp;omega),ih _ _ (by simp;omega)]
    simp
   |false=>
    simp only[bz,ah,af]at hl⊢
    rw[ins]
    cases decide (v<x)with
    |true=>
     simp only[ah]
     rw[aQ (by simp;omega),aQ (by simp;omega)]
     rw[ih _ _ (by simp;omega)];simp
    |false=>
     simp only[af]
     rw[aQ (by simp;omega),ih _ _ (by simp;omega)]
     simp
 have hfu:=eJ;have key:=BG (T:=la (λ(y3:bZ) (y4:Bool) (_:Int)=>cond (!y4) (room (List.length y3+List.length ([v])) (some (y3++([v])))) (some y3)) v l (l.length:Int)) l (λ(s:bZ×Bool) i=>(s.1,s.2,(i:Int))) (λ(x:Int) (s:bZ×Bool) (k:bZ×Bool->az bZ)=>cond (cond (!s.2) (decide (v<x)) false) (room (List.length s.1+List.length ([v])) (room (List.length (s.1++([v]))+List.length ([x])) (k ((s.1++([v]))++([x]),true)))) (room (List.length s.1+List.length ([x])) (k (s.1++([x]),s.2)))) (λs=>cond (!s.2) (room (List.length s.1+List.length ([v])) (some (s.1++([v])))) (some s.1)) (λi hi s nx=>by simp only[la];rw[jz,bu hi,ak (n:=(i:Int)+1)];simp only[ah,ab,bM];rfl) (λs nx=>by simp only[la];rw[iw];rfl) fuel 0 (([]:bZ),false) (by omega) (by omega);rw[fi,hgo l [] false (by simp;omega)]at key;exact key
def lB:Port:=(0,[],0,false)
def Ko (p:Port):Bool:=eV (p.1,false,p.2.1)&&hasB p.2.1 p.2.2.1
def Ha (l:aw Port)(i:Nat):Bool:=Ko (l.getD i lB)&&(List.range i).all (λj=> !((j !=0)&&((l.getD j lB).1==(l.getD i lB).1)))
def iC (l:aw Port):Bool:=cX (l.length:Int) 1 8&&(List.range l.length).all (Ha l)
theorem XZ (i:Nat)(q:Nat->Bool):(List.range (i-1)).all (λj=> !(q (j+1)))=(List.range i).all (λj=> !((j !=0)&&q j)):=by
 rw[cC,aG,aG];simp only[bF];constructor;intro h j hj;cases j with|zero=>rfl|succ j=>have:=h j (by omega);simpa using this
 intro h j hj;have:=h (j+1) (by omega);simpa using this
theorem acu (l:aw Port)(h:l.length<=1000000000)(hv:∀p∈l,p.2.1.length<=1000000000):vP l=some (iC l):=by
 unfold vP iC;rw[iQ (hit:=some false) (fin:=some true) (Ha l) l.length (by omega) (λi nx hi=>?hs) (λnx=>?hf)]
 case hs=>
  have hvi:=hv _ (aN hi)
  simp only[tS]
  rw[jz,bu hi,ak]
  simp only[ah,ab,Ct (l[i].1,false,l[i].2.1) hvi,ZS _ _ hvi]
  have e1:(1:Int)=(((0:Nat)+1:Nat):Int):=rfl
  rw[e1,HK (hit:=some false) (fin:=nx ((i:Int)+1)) (λj=>((j+1:Nat):Int)) (λj=> !((l.getD (j+1) lB).1==l[i].1)) (i-1) (by omega) (λj nx' hj hp=>?hs2) (λhp nx'=>?hf2)]
  case hs2=>
   have hjl:j+1<l.length:=by omega
   simp only[tT]
   rw[jz,bu hjl,bu hi,ak]
   simp only[ah,ab,cG hjl,fU];rfl
  case hf2=>
   simp only[tT]
   rw[iw];rfl
  rw[XZ i (λj=>(l.getD j lB).1==l[i].1)]
  simp only[Ha,Ko,cG hi]
  cases eV (l[i].1,false,l[i].2.1)<;>cases hasB l[i].2.1 l[i].2.2.1<;>cases (List.range i).all (λj=> !((j !=0)&&((l.getD j lB).1==l[i].1)))<;>rfl
 case hf=>
  simp only[tS]
  rw[iw];rfl
 simp only[dR,ab];cases cX (l.length:Int) 1 8<;>cases (List.range l.length).all (Ha l)<;>rfl
def B6 (p:Nat->Bool):fu->Int
 |[]=> -1
 |j::r=>bif p j then(j:Int) else B6 p r
theorem Td (p:Nat->Bool):∀n s i,s<=i->i<s+n->p i=true->(B6 p (List.range' s n)==(i:Int))=(List.range' s (i-s)).all (λj=> !(p j))
 |0,s,i,h1,h2,_=>by omega
 |n+1,s,i,h1,h2,hp=>by
  rw[List.range'_succ,B6];rcases cq s i with hlt|hge;obtain⟨k,hk⟩:∃k,i-s=k+1:=⟨i-s-1,by omega⟩
  rw[hk,List.range'_succ,ch];cases hps:p s with
  |true=>
   simp only[ah,aj,dN];have:¬(s:Int)=(i:Int):=by omega
   simpa using this
  |false=>simp only[af,bz,bq];rw[Td p n (s+1) i (by omega) (by omega) hp,show i-(s+1)=k by omega]
  have:s=i:=by omega
  subst this;rw[hp,iT];simp
theorem MK {R:Type}(p:Nat->Bool)(hit:Nat->az R)(fin:az R)(k:Int->az R)(h1:∀j:Nat,hit j=k (j:Int))(h2:fin=k (-1)):∀l:fu,Bq (λ(j:Nat) (s:Unit)=>bif p j then .error (hit j) else .ok ()) (λ_=>fin) l ()=k (B6 p l)
 |[]=>h2
 |j::l=>by rw[Bq,B6];cases p j with|true=>exact h1 j|false=>exact MK p hit fin k h1 h2 l
theorem T1 (l:aw Port)(a:Int)(h:l.length<=1000000000):sW l a=some (B6 (λj=>(j !=0)&&((l.getD j lB).1==a)) (List.range' 0 l.length)):=by
 unfold sW;have:=tc (T:=nB (λ(_:Int)=>some (-1)) (λ(y4:Int) (_:Int)=>some y4) a 0 l (l.length:Int)) (List.range' 0 l.length) (λ(_:Unit) i=>(i:Int)) (λ_ _=>True) (λ(j:Nat) (s:Unit)=>bif (j !=0)&&((l.getD j lB).1==a) then .error (some (j:Int)) else .ok ()) (λ_=>some (-1)) (by simp;omega) (λi hi s nx _=>?hs) (λ_ _ _ _ _ _=>trivial) (λs nx _=>?hf) () trivial
 case hs=>
  have hil:i<l.length:=by simpa using hi
  have e:(List.range' 0 l.length)[i]=i:=by simp
  rw[e]
  simp only[nB]
  rw[jz,bu hil,ak]
  simp only[ah,ab,cG hil,bM,cF]
  have e2:((i:Int) !=0)=(i !=0):=by rw[cC];simp
  rw[e2]
  cases (i !=0)&&(l[i].1==a)<;>rfl
 case hf=>
  simp only[nB]
  rw[aq (by simp)];rfl
 rw[MK (λj=>(j !=0)&&((l.getD j lB).1==a)) _ _ (λx=>some x) (λ_=>rfl) rfl]at this;exact this
theorem Er (l:aw Port)(h:l.length<=1000000000)(hv:∀p∈l,p.2.1.length<=1000000000):mh l=some (iC l):=by
 unfold mh iC;rw[iQ (hit:=some false) (fin:=some true) (Ha l) l.length (by omega) (λi nx hi=>?hs) (λnx=>?hf)]
 case hs=>
  have hvi:=hv _ (aN hi)
  simp only[tD]
  rw[jz,bu hi,ak]
  simp only[ah,ab,Bl,qE (l[i].1,false,l[i].2.1) hvi,yt _ _ hvi,T1 l _ h,bM,bne]
  have e2:((i:Int)==0)=(i==0):=by rw[cC];simp
  rw[e2]
  simp only[Ha,Ko,cG hi]
  cases h0:i==0 with
  |true=>
   have:i=0:=by simpa using h0
   subst this
   cases eV (l[0].1,false,l[0].2.1)<;>cases hasB l[0].2.1 l[0].2.2.1<;>rfl
  |false=>
   have hne:(i !=0)=true:=by simp only[bne,h0,bz]
   have fa:=Td (λj=>(j !=0)&&((l.getD j lB).1==l[i].1)) l.length 0 i (by omega) (by omega) (by simp only[hne,cG hi,bq,beq_self_eq_true])
   rw[Nat.sub_zero,<-List.range_eq_range' (n:=i)]at fa
   simp only[bne]at fa⊢
   rw[fa]
   cases eV (l[i].1,false,l[i].2.1)<;>cases hasB l[i].2.1 l[i].2.2.1<;>cases (List.range i).all (λj=> !((!(j==0))&&((l.getD j lB).1==l[i].1)))<;>rfl
 case hf=>
  simp only[tD]
  rw[iw];rfl
 simp only[cn,ab];cases cX (l.length:Int) 1 8<;>cases (List.range l.length).all (Ha l)<;>rfl
def jo (m:bL):Bool:=eV m.1&&(cX m.2.1 0 1000000000000&&cX m.2.2.2 0 1000000000000)
theorem aeV (m:bL)(h:m.1.2.2.length<=1000000000):vL m=some (jo m):=by simp only[vL,Ct _ h,dR,ab,bM,cF,jo]
theorem TQ (m:bL)(h:m.1.2.2.length<=1000000000):qH m=some (jo m):=by simp only[qH,qE _ h,cn,ab,bM,cF,jo]
theorem zU (h:jo m=true):m.1.2.2.length<=8:=by unfold jo eV at h;simp only[ae,aH]at h;omega
def RJ (m:bL):Port:=(m.1.1,m.1.2.2.foldl wa [0],0,true)
def C0 (s:bZ×aw Port)(m:bL):bZ×aw Port:=(m.1.2.2.foldl wa s.1,s.2++[RJ m])
def lx (ms:aw bL):aw Port:=(0,(ms.foldl C0 ([0],[])).1,0,false)::(ms.foldl C0 ([0],[])).2
def dm (ms:aw bL):aw Port×Bool:=bif cX (ms.length:Int) 1 3&&(ms.all jo&&iC (lx ms)) then(lx ms,true) else([],false)
theorem MJ {α σ R:Type}(p:α->Bool)(f:σ->α->σ)(r:az R)(fin:σ->az R):∀(l:aw α)(s:σ),Bq (λx s=>bif p x then .ok (f s x) else .error r) fin l s=bif l.all p then fin (l.foldl f s) else r
 |[],s=>rfl
 |x::l,s=>by rw[Bq,ch,dL];cases p x with|false=>rfl|true=>simp only[ah,bq];exact MJ p f r fin l (f s x)
def Sf (i:Nat)(s:bZ×aw Port):Prop:=s.1.length<=1+9*i/\s.2.length=i/\∀p∈s.2,p.2.1.length<=9
theorem Sf.port {s:bZ×aw Port}(h:Sf i s)(hm:jo m=true)(U:bZ)(hU:U.length<=s.1.length+9:=by omega):Sf (i+1) (U,s.2++[RJ m]):=by have hl:=zU hm;have:=BV m.1.2.2 [0];refine⟨?_,?_,?_⟩;have:=h.1;simp only;omega;have:=h.2.1;simp;omega;intro p hp;rcases ay.1 hp with hp|hp;exact h.2.2 p hp;simp only[bE]at hp;subst hp;simp only[RJ,ba]at this⊢;omega
theorem DJ {s:bZ×aw Port}(h:Sf i s)(hi:i<=3:=by omega):((0,s.1,0,false)::s.2:aw Port).length<=1000000000/\∀p∈((0,s.1,0,false)::s.2:aw Port),p.2.1.length<=1000000000:=by have h1:=h.1;have h2:=h.2.1;refine⟨by simp only[bf];omega,λp hp=>?_⟩;rcases bQ.1 hp with rfl|hp;simp only;omega;have:=h.2.2 p hp;omega
theorem VD (ms:aw bL)(h:∀m∈ms,m.1.2.2.length<=1000000000):yK ms=some (dm ms):=by
 unfold yK dm;simp only[dR,ab];cases hn:cX (ms.length:Int) 1 3 with
 |false=>rfl
 |true=>
  have hn':=aW.1 hn;simp only[aj,af,bq];have:=tc (T:=po (λ(y12:aw Port) (_:Int)=>aa (vP y12) λr14=>cond (!r14) (some (([]:aw Port),false)) (some (y12,true))) (λ(y15:aw Port) (y16:Bool) (_:aw Port) (_:Int)=>some (y15,y16)) ms ([]:aw Port) false) ms (λ(s:bZ×aw Port) i=>((0,s.1,0,false)::s.2,(i:Int))) Sf (λm s=>bif jo m then .ok (C0 s m) else .error (some (([]:aw Port),false))) (λs=>some (bif iC ((0,s.1,0,false)::s.2) then((0,s.1,0,false)::s.2,true) else([],false))) (by omega) (λi hi s nx hI=>?hs) (λi hi s s' hI hg=>?hn) (λs nx hI=>?hf) ([0],[]) ⟨by simp,rfl,by simp⟩
  case hs=>
   simp only[po]
   have hm:=h _ (aN hi)
   rw[jz,bu hi,ak (n:=(i:Int)+1)]
   simp only[ah,ab,aeV _ hm]
   cases hmb:jo ms[i]with
   |false=>rfl
   |true=>
    have hl:=zU hmb
    have hU:=hI.1
    have hP:=hI.2.1
    have e0:idx ((0,s.1,0,false)::s.2:aw Port) 0=some (0,s.1,0,false):=rfl
    simp only[aj,af,ah,e0,ab]
    rw[Pt s.1 _ (by omega),Pt [0] _ (by simp;omega)]
    simp only[ab]
    rw[aQ (by simp;omega)]
    rfl
  case hn=>
   cases hmb:jo ms[i]with
   |false=>rw[hmb]at hg;cases hg
   |true=>
    rw[hmb]at hg
    cases hg
    have:=BV ms[i].1.2.2 s.1
    have:=zU hmb
    exact hI.port hmb _
  case hf=>
   simp only[po]
   rw[iw]
   have hb:=DJ hI
   simp only[af,acu _ hb.1 hb.2,ab]
   cases iC ((0,s.1,0,false)::s.2)<;>rfl
  rw[MJ]at this;refine Eq.trans this ?_;unfold lx;cases ms.all jo<;>rfl
def Py (s:bZ×aw Port)(m:bL):bZ×aw Port:=(([0]++m.1.2.2).foldl wa s.1,s.2++[RJ m])
theorem aeZ {s:bZ×aw Port}(h:(0:Int)∈s.1):Py s m=C0 s m:=by unfold Py C0;rw[List.foldl_append];simp only[dL,List.foldl_nil,aak h]
theorem M8:∀(ms:aw bL)(s:bZ×aw Port),(0:Int)∈s.1->ms.foldl Py s=ms.foldl C0 s
 |[],_,_=>rfl
 |m::ms,s,h=>by rw[dL,dL,aeZ h];exact M8 ms _ (Il _ h)
theorem VK (ms:aw bL)(h:ms≠[]):ms.foldl Py ([],[])=ms.foldl C0 ([0],[]):=by cases ms with|nil=>exact absurd rfl h|cons m ms=>rw[dL,dL];have e:Py ([],[]) m=C0 ([0],[]) m:=rfl;rw[e];exact M8 ms _ (Il _ (by simp))
theorem aa0 (k0:bZ->bZ->Int->az R)(k:bZ->bZ->az R)(hk:∀a b i,k0 a b i=k a b)(v2:aw Port)(v3:Bool)(v4:aw Port)(v18:aw bL)(v19 v20:Int)(b7:bL)(vs all:bZ)(h:all.length+vs.length<=1000000000): bl (kJ k0 v2 v3 v4 v18 v19 v20 vs (vs.length:Int) b7) fuel (all,([]:bZ),0)=k (vs.foldl wa all) (vs.foldl wa []):=by
 have:=tc (T:=kJ k0 v2 v3 v4 v18 v19 v20 vs (vs.length:Int) b7) vs (λ(s:bZ×bZ) i=>(s.1,s.2,(i:Int))) (λi s=>s.1.length<=all.length+i/\s.2.length<=i) (λv s=> .ok (wa s.1 v,wa s.2 v)) (λs=>k s.1 s.2) (by omega) (λi hi s nx hI=>?hs) (λi hi s s' hI hg=>?hn) (λs nx hI=>?hf) (all,[]) ⟨by simp,by simp⟩
 case hs=>
  simp only[kJ]
  rw[jz,bu hi,ak (n:=(i:Int)+1)]
  simp only[ah,ab,yt s.2 vs[i] (by omega),yt s.1 vs[i] (by omega),Rf s.2 vs[i] (by omega),Rf s.1 vs[i] (by omega),wa]
  cases hasB s.2 vs[i]<;>cases hasB s.1 vs[i]<;>rfl
 case hn=>
  cases hg
  have:=Ga s.1 vs[i]
  have:=Ga s.2 vs[i]
  have h1:=hI.1
  have h2:=hI.2
  exact⟨by simp only;omega,by simp only;omega⟩
 case hf=>
  simp only[kJ]
  rw[iw]
  simp only[af,hk]
 rw[Ey]at this;refine Eq.trans this ?_;have e:∀(l:bZ)(s:bZ×bZ),l.foldl (λs v=>(wa s.1 v,wa s.2 v)) s=(l.foldl wa s.1,l.foldl wa s.2):=by intro l;induction l with|nil=>intro s;rfl|cons x l ih=>intro s;rw[dL,ih];rfl
 rw[e]
theorem AN (ms:aw bL)(h:∀m∈ms,m.1.2.2.length<=1000000000):oy ms=some (dm ms):=by
 unfold oy dm;simp only[cn,ab];cases hn:cX (ms.length:Int) 1 3 with
 |false=>rfl
 |true=>
  have hn':=aW.1 hn;simp only[aj,af,bq];have:=tc (T:=pa (λ(y14:aw Port) (y15:bZ) (_:Int)=>aa (idx y14 0) λx17=>aa (idx y14 0) λx18=>aa (mh (List.set y14 (Int.toNat 0) (x18.1,y15,x18.2.2))) λr19=>cond (!r19) (some (([]:aw Port),false)) (some (List.set y14 (Int.toNat 0) (x18.1,y15,x18.2.2),true))) (λ(y20:aw Port) (y21:Bool) (_:aw Port) (_:bZ) (_:Int)=>some (y20,y21)) ([]:aw Port) false ms (ms.length:Int)) ms (λ(s:bZ×aw Port) i=>((0,[],0,false)::s.2,s.1,(i:Int))) Sf (λm s=>bif jo m then .ok (Py s m) else .error (some (([]:aw Port),false))) (λs=>some (bif iC ((0,s.1,0,false)::s.2) then((0,s.1,0,false)::s.2,true) else([],false))) (by omega) (λi hi s nx hI=>?hs) (λi hi s s' hI hg=>?hn) (λs nx hI=>?hf) ([],[]) ⟨by simp,rfl,by simp⟩
  case hs=>
   simp only[pa]
   have hm:=h _ (aN hi)
   rw[jz,bu hi,ak (n:=(i:Int)+1)]
   simp only[ah,ab,TQ _ hm]
   cases hmb:jo ms[i]with
   |false=>rfl
   |true=>
    have hl:=zU hmb
    have hU:=hI.1
    have hP:=hI.2.1
    simp only[aj,af,ah]
    rw[aQ (by simp;omega)]
    refine(aa0 _ (λa b=>room (List.length ((0,[],0,false)::s.2:aw Port)+List.length ([(ms[i].1.1,b,0,true)]:aw Port)) (nx (((0,[],0,false)::s.2)++([(ms[i].1.1,b,0,true)]),a,(i:Int)+1))) (λ_ _ _=>rfl) _ _ _ _ _ _ _ ([0]++ms[i].1.2.2) s.1 (by simp only[ai,ba];omega)).trans ?_
    rw[aQ (by simp;omega)]
    rfl
  case hn=>
   cases hmb:jo ms[i]with
   |false=>rw[hmb]at hg;cases hg
   |true=>
    rw[hmb]at hg
    cases hg
    have hu:=BV ([0]++ms[i].1.2.2) s.1
    have hl:=zU hmb
    simp only[ai,ba]at hu
    exact hI.port hmb _
  case hf=>
   simp only[pa]
   rw[iw]
   have hb:=DJ hI
   have e0:idx ((0,[],0,false)::s.2:aw Port) 0=some (0,[],0,false):=rfl
   have e1:List.set ((0,[],0,false)::s.2:aw Port) (Int.toNat 0) (0,s.1,0,false)=(0,s.1,0,false)::s.2:=rfl
   simp only[af,e0,ab,e1,Er _ hb.1 hb.2]
   cases iC ((0,s.1,0,false)::s.2)<;>rfl
  rw[MJ,VK ms (by rintro rfl;simp at hn')]at this;refine Eq.trans this ?_;unfold lx;cases ms.all jo<;>rfl
def Ns (a b:α):Bool:= @decide (a=b) (Classical.propDecidable _)
theorem Eg {a b:α}:Ns a b=true↔a=b:=by unfold Ns;exact @decide_eq_true_iff _ (Classical.propDecidable _)
theorem Q0 {a b:α}{x:Bool}(h:x=true↔a=b):x=Ns a b:=by rw[cC,Eg];exact h
theorem as9 [BEq α][LawfulBEq α](a b:α):(a==b)=Ns a b:=Q0 bm
theorem adn {β:Type}(a b:α)(c d:β):Ns (a,c) (b,d)=(Ns a b&&Ns c d):=by rw[cC];simp only[ae,Eg,Prod.mk.injEq]
theorem S1 {β:Type}(a b:α×β):Ns a b=(Ns a.1 b.1&&Ns a.2 b.2):=adn a.1 b.1 a.2 b.2
theorem S2 {a b:α}(h:a=b):Ns a b=true:=Eg.2 h
theorem aaA {a b:α}(h:¬a=b):Ns a b=false:=by rw[Bool.eq_false_iff,ne_eq,Eg];exact h
theorem ado {T:(Int->az R)->Int->az R}{fin hit:az R}(p:α->α->Bool)(hp:∀x y,p x y=true↔x=y)(a b:aw α)(hl:a.length=b.length)(h:a.length<=1000000000)(hs:∀i (hi:i<a.length) nx,T nx (i:Int)=cond (!(p a[i] (b[i]'(hl▸hi)))) hit (nx ((i+1:Nat):Int)))(hf:∀nx,T nx (a.length:Int)=fin): bl T fuel 0=cond (Ns a b) fin hit:=by
 have hq:∀i,i<a.length->i<b.length:=λi hi=>hl▸hi;rw[iQ (fin:=fin) (hit:=hit) (λi=>Ns a[i]? b[i]?) a.length (by omega) ?hs hf]
 case hs=>
  intro i nx hi
  rw[hs i hi,al hi,al (hq i hi)]
  have:p a[i] (b[i]'(hq i hi))=Ns (some a[i]) (some (b[i]'(hq i hi))):=Q0 (by rw[hp,br])
  rw[this]
 congr 1;apply Q0;rw[aG];constructor;intro k;apply cL;intro i;by_cases hi:i<a.length;exact Eg.1 (k i (bF.2 hi));rw[bG (by omega),bG (by omega)];rintro rfl i _;exact S2 rfl
theorem agU {T:(Int->az Bool)->Int->az Bool}(p:α->α->Bool)(hp:∀x y,p x y=true↔x=y)(a b:aw α)(h:a.length<=1000000000)(hs:a.length=b.length->∀i (hi:i<a.length)(hi':i<b.length) nx,T nx (i:Int)=cond (!(p a[i] b[i])) (some false) (nx ((i+1:Nat):Int)))(hf:∀nx,T nx (a.length:Int)=some true): cond ((a.length:Int) !=(b.length:Int)) (some false) (bl T fuel 0)=some (Ns a b):=by by_cases hl:a.length=b.length;rw[ado p hp a b hl h (λi hi nx=>hs hl i hi (hl▸hi) nx) hf];rw[show((a.length:Int) !=(b.length:Int))=false by simp[hl]];cases Ns a b<;>rfl;rw[aaA (λe=>hl (by rw[e]))];rw[show((a.length:Int) !=(b.length:Int))=true by simp;omega];rfl
theorem adQ (a b:bZ)(h:a.length<=1000000000):rQ a b=some (Ns a b):=by unfold rQ;refine agU (λx y=>x==y) (λx y=>bm) a b h (λhl i hi hi' nx=>?_) (λnx=>?_);simp only[na];rw[jz,bu hi,bu hi',ak];rfl;simp only[na];rw[iw];rfl
theorem Rl (a b:Filter)(h:a.2.2.length<=1000000000):tJ a b=some (Ns a b):=by simp only[tJ,adQ _ _ h,ab,bM,cF,S1 a b,S1 a.2 b.2,as9]
def HV:aS:=(0,0,(0,0,0),false,0,0)
def iq (b:tt):Bool:=cX b.1 0 10000&&(cX b.2.1 0 100000&&cX b.2.2 0 b.2.1)
def CU (n:Int)(f:aS):Bool:=cX f.1 0 7&&(cX f.2.1 1 (ar (n-1))&&(iq f.2.2.1&&(cX f.2.2.2.2.1 0 1000000000000&&cX f.2.2.2.2.2 0 1000000000000)))
def aaL (f g:aS):Bool:=(g.1==f.1)||(g.2.1==f.2.1)
def fnB (l:aw aS)(n:Int)(i:Nat):Bool:=CU n (l.getD i HV)&&(List.range i).all (λj=> !(aaL (l.getD i HV) (l.getD j HV)))
def hG (l:aw aS)(ps:aw Port):Bool:=iC ps&&(List.range l.length).all (fnB l (ps.length:Int))
theorem MS (b:tt):xj b=some (iq b):=by simp only[xj,dR,ab,bM,cF,iq]
theorem FA (b:tt):sM b=some (iq b):=MS b
theorem EW (l:aw aS)(ps:aw Port)(h:l.length<=1000000000)(h1:ps.length<=1000000000)(h2:∀p∈ps,p.2.1.length<=1000000000):nr l ps=some (hG l ps):=by
 unfold nr hG;rw[iQ (hit:=some false) (fin:=some true) (fnB l (ps.length:Int)) l.length (by omega) (λi nx hi=>?hs) (λnx=>?hf)]
 case hs=>
  simp only[mQ]
  rw[jz,bu hi,ak (n:=(i:Int)+1),VN l i (by omega)]
  simp only[ah,ab,cn,FA,bM,cT]
  have hti:(l.take i).length=i:=by simp;omega
  rw[hti,iQ (hit:=some false) (fin:=nx ((i:Int)+1)) (λj=> !(aaL l[i] (l.getD j HV))) i (by omega) (λj nx' hj=>?hs2) (λnx'=>?hf2)]
  case hs2=>
   have hjl:j<l.length:=by omega
   have hjt:j<(l.take i).length:=by omega
   simp only[mR]
   rw[jz,bu hjt,ak (n:=(j:Int)+1),List.getElem_take]
   simp only[ah,ab,bM,cT,cG hjl,fU];rfl
  case hf2=>
   simp only[mR]
   rw[iw];rfl
  simp only[fnB,cG hi]
  rw[show(!cX l[i].1 0 7||(!cX l[i].2.1 1 (ar ((ps.length:Int)-1))||(!iq l[i].2.2.1||(!cX l[i].2.2.2.2.1 0 1000000000000|| !cX l[i].2.2.2.2.2 0 1000000000000))))= !CU (ps.length:Int) l[i] by unfold CU;simp only[Bool.not_and]]
  cases CU (ps.length:Int) l[i]<;>cases (List.range i).all (λj=> !(aaL l[i] (l.getD j HV)))<;>rfl
 case hf=>
  simp only[mQ]
  rw[iw];rfl
 simp only[Er ps h1 h2,ab];cases iC ps<;>cases (List.range l.length).all (fnB l (ps.length:Int))<;>rfl
def yg (l:aw aS)(i:Nat):Bool:=((l.getD i HV).1==(i:Int))&&((l.getD i HV).2.1==(i:Int)+1)
theorem Xb (l:aw aS)(h:l.length<=1000000000):vy l=some ((List.range l.length).all (yg l)):=by
 unfold vy;rw[iQ (hit:=some false) (fin:=some true) (yg l) l.length (by omega) (λi nx hi=>?hs) (λnx=>?hf)]
 case hs=>
  simp only[qo]
  rw[jz,bu hi,ak (n:=(i:Int)+1)]
  simp only[ah,ab,bM,cT,bne,yg,cG hi]
  cases l[i].1==(i:Int)<;>cases l[i].2.1==(i:Int)+1<;>rfl
 case hf=>
  simp only[qo]
  rw[iw];rfl
 cases (List.range l.length).all (yg l)<;>rfl
theorem Gt:∀(ms:aw bL)(i:Nat)(s:bZ×aw Port),Sf i s->ms.all jo=true->Sf (i+ms.length) (ms.foldl C0 s)
 |[],i,s,h,_=>h
 |m::ms,i,s,h,hm=>by rw[ch,ae]at hm;have hu:=BV m.1.2.2 s.1;have hl:=zU hm.1;have:=Gt ms (i+1) (C0 s m) (h.port hm.1 _) hm.2;rw[dL,bf,show i+(ms.length+1)=i+1+ms.length by omega];exact this
theorem Jp {ms:aw bL}(h:(dm ms).2=true):ms.length<=3:=by unfold dm at h;cases hq:cX (ms.length:Int) 1 3&&(ms.all jo&&iC (lx ms))with|false=>rw[hq]at h;cases h|true=>simp only[ae]at hq;have:=aW.1 hq.1;omega
theorem Iy (ms:aw bL):(dm ms).1.length<=1000000000/\∀p∈(dm ms).1,p.2.1.length<=1000000000:=by unfold dm;cases hc:cX (ms.length:Int) 1 3&&(ms.all jo&&iC (lx ms))with|false=>exact⟨by simp,by simp⟩|true=>simp only[ae,aW]at hc;have:=Gt ms 0 ([0],[]) ⟨by simp,rfl,by simp⟩ hc.2.1;rw[cw]at this;exact DJ this
theorem ab3 (ms:aw bL):(dm ms).1.length<=4/\∀p∈(dm ms).1,p.2.1.length<=28:=by unfold dm;cases hc:cX (ms.length:Int) 1 3&&(ms.all jo&&iC (lx ms))with|false=>exact⟨by simp,by simp⟩|true=>simp only[ae,aW]at hc;have h:=Gt ms 0 ([0],[]) ⟨by simp,rfl,by simp⟩ hc.2.1;rw[cw]at h;have h1:=h.1;have h2:=h.2.1;simp only[ah,lx];refine⟨by simp only[bf];omega,λp hp=>?_⟩;rcases bQ.1 hp with rfl|hp;simp only;omega;have:=h.2.2 p hp;omega
def db (m:bO):Bool:=m.all (λx=>(x.length:Int)==128)&&decide ((m.length:Int)<=64)
theorem FU (m:bO)(h:m.length<=1000000000):tj m=some (db m):=by
 unfold tj db;rw[qY (hit:=some false) (fin:=some (decide ((m.length:Int)<=64))) (λx:Bytes=>(x.length:Int)==128) m (by omega) (λi hi nx=>?hs) (λnx=>?hf)]
 case hs=>
  simp only[rU]
  rw[jz,bu hi,ak];rfl
 case hf=>
  simp only[rU]
  rw[iw];rfl
 cases m.all (λx=>(x.length:Int)==128)<;>rfl
theorem FD (m:bO)(h:m.length<=1000000000):sQ m=some (db m):=FU m h
def J2:aF:=(0,0,0,false)
def Ie (m:aF):Bool:=cX m.1 0 7&&(cX m.2.1 0 1023&&cX m.2.2.1 0 63)
def qP (d p:Int)(m:aF):Bool:=(m.1==d)&&(m.2.1==p)
def Mk (l:aw aF)(i:Nat):Bool:=Ie (l.getD i J2)&&(List.range i).all (λj=> !(qP (l.getD i J2).1 (l.getD i J2).2.1 (l.getD j J2)))
def fY (l:aw aF):Bool:=decide ((l.length:Int)<=96)&&(List.range l.length).all (Mk l)
theorem RZ (l:aw aF)(h:l.length<=1000000000):tQ l=some (fY l):=by
 unfold tQ fY;rw[iQ (hit:=some false) (fin:=some true) (Mk l) l.length (by omega) (λi nx hi=>?hs) (λnx=>?hf)]
 case hs=>
  simp only[oN]
  rw[jz,bu hi,ak]
  simp only[ah,ab,dR,bM]
  rw[iQ (hit:=some false) (fin:=nx ((i:Int)+1)) (λj=> !(qP l[i].1 l[i].2.1 (l.getD j J2))) i (by omega) (λj nx hj=>?hs2) (λnx=>?hf2)]
  case hs2=>
   have hjl:j<l.length:=by omega
   simp only[nb]
   rw[jz,bu hjl,ak]
   simp only[ah,ab,bM,cG hjl,qP,cF,fU];rfl
  case hf2=>
   simp only[nb]
   rw[iw];rfl
  simp only[Mk,Ie,cG hi,cT]
  cases cX l[i].1 0 7<;>cases cX l[i].2.1 0 1023<;>cases cX l[i].2.2.1 0 63<;>cases (List.range i).all (λj=> !(qP l[i].1 l[i].2.1 (l.getD j J2)))<;>rfl
 case hf=>
  simp only[oN]
  rw[iw];rfl
 have e:decide ((l.length:Int)>96)= !decide ((l.length:Int)<=96):=by rw[cC];simp
 rw[e];cases decide ((l.length:Int)<=96)<;>cases (List.range l.length).all (Mk l)<;>rfl
def U1 (l:aw aF)(d p:Int):Int:=match l.findIdx? (qP d p)with|some i=>(i:Int)|none=> -1
theorem TR (l:aw aF)(d p:Int)(h:l.length<=1000000000):nA l d p=some (U1 l d p):=by
 unfold nA U1;rw[Ej (hit:=λi=>some i) (fin:=some (-1)) (qP d p) l (by omega) (λi hi nx=>?hs) (λnx=>?hf)]
 case hs=>
  simp only[mY]
  rw[jz,bu hi,ak]
  simp only[ah,ab,bM,cF,qP];rfl
 case hf=>
  simp only[mY]
  rw[iw];rfl
 cases l.findIdx? (qP d p)<;>rfl
theorem XN (l:aw aF)(i:Nat)(hi:i<l.length):(U1 l l[i].1 l[i].2.1==(i:Int))=(List.range i).all (λj=> !(qP l[i].1 l[i].2.1 (l.getD j J2))):=by
 have hself:qP l[i].1 l[i].2.1 l[i]=true:=by simp[qP]
 unfold U1;cases hq:l.findIdx? (qP l[i].1 l[i].2.1)with
 |none=>rw[List.findIdx?_eq_none_iff]at hq;rw[hq l[i] (aN hi)]at hself;cases hself
 |some k=>
  rw[List.findIdx?_eq_some_iff_getElem]at hq;obtain⟨hk,hpk,hlt⟩:=hq;rw[cC,aG];simp only[bF,bm,aJ];constructor;intro e j hj;have hjl:j<l.length:=by omega
  rw[cG hjl];have:=hlt j (by omega);simpa using this;intro hall;rcases Nat.lt_trichotomy k i with hki|hki|hki;have:=hall k hki;rw[cG hk,hpk]at this;cases this;omega;have:=hlt i hki;rw[hself]at this;simp at this
theorem GH (l:aw aF)(h:l.length<=1000000000):oZ l=some (fY l):=by
 unfold oZ fY;rw[iQ (hit:=some false) (fin:=some (decide ((l.length:Int)<=96))) (Mk l) l.length (by omega) (λi nx hi=>?hs) (λnx=>?hf)]
 case hs=>
  simp only[ow]
  rw[jz,bu hi,ak]
  simp only[ah,ab,cn,bM,TR _ _ _ h,bne,XN l i hi,Mk,Ie,cG hi]
  cases cX l[i].1 0 7<;>cases cX l[i].2.1 0 1023<;>cases cX l[i].2.2.1 0 63<;>cases (List.range i).all (λj=> !(qP l[i].1 l[i].2.1 (l.getD j J2)))<;>rfl
 case hf=>
  simp only[ow]
  rw[iw];rfl
 cases decide ((l.length:Int)<=96)<;>cases (List.range l.length).all (Mk l)<;>rfl
def Dr (n:Int)(l:bZ)(i:Nat):Bool:=cX (l.getD i 0) 0 (n-1)&& !((l.take i).contains (l.getD i 0))
def dT (p:dw):Bool:=cX p.1 0 130944&&(cX p.2.1 1 512&&(cX p.2.2.1 0 16&&(List.range p.2.2.2.length).all (Dr p.2.2.1 p.2.2.2)))
def CY (n:Int)(l:bZ):aw Bool:=(List.range n.toNat).map λk:Nat=>l.contains (k:Int)
theorem Pf (n:Int)(l:bZ):(CY n l).length=n.toNat:=by simp[CY]
theorem Ez (n:Int)(l:bZ)(k:Nat)(h:k<(CY n l).length):(CY n l)[k]=l.contains (k:Int):=by simp[CY]
theorem acd (n:Int)(l:bZ)(k:Nat)(h:k<n.toNat):(CY n l).set k true=CY n (l++[(k:Int)]):=by
 apply List.ext_getElem;simp[CY];intro j h1 h2;rw[List.getElem_set];split;rename_i e;subst e;rw[Ez];simp;rename_i e;rw[Ez,Ez];simp only[List.contains_append];have:([(k:Int)].contains (j:Int))=false:=by simp;omega
 rw[this];simp
theorem U7 {T:(aw Bool×Int->az Bool)->aw Bool×Int->az Bool}(n:Int)(l:bZ)(hl:l.length<=1000000000)
 (hs:∀i (hi:i<l.length)(s:aw Bool) nx,T nx (s,(i:Int))=aa (cond (!(cX l[i] 0 (n-1))) (some true) (aa (idx s l[i]) λx=>some x)) λq=>
  cond q (some false) (aa (idx s l[i]) λ_=>aa (idx s l[i]) λ_=>nx (s.set l[i].toNat true,((i+1:Nat):Int)))) (hf:∀s nx,T nx (s,(l.length:Int))=some true):
 bl T fuel (List.replicate n.toNat false,0)=some ((List.range l.length).all (Dr n l)):=by
 have e0:(List.replicate n.toNat false,(0:Int))=(CY n (l.take 0),((0:Nat):Int)):=by congr 1;simp only[CY,List.take_zero,List.contains_nil,List.map_const',List.length_range]
 rw[e0,HK (hit:=some false) (fin:=some true) (λi=>(CY n (l.take i),(i:Int))) (Dr n l) l.length (by omega) (λi nx hi hp=>?hs) (λ_ nx=>hf _ nx)]
 case hs=>
  rw[hs i hi]
  unfold Dr
  rw[cG hi]
  by_cases hin:cX l[i] 0 (n-1)=true
  ·have hb:=hin
   rw[aW]at hb
   obtain⟨k,hk⟩:∃k:Nat,l[i]=(k:Int):=⟨l[i].toNat,by omega⟩
   have hkn:k<(CY n (l.take i)).length:=by rw[Pf];omega
   rw[hin,hk,bu hkn,Ez]
   simp only[aj,af,ab,bq,fU,ax]
   rw[acd _ _ _ (by rw[Pf]at hkn;exact hkn),<-hk,<-bp hi]
  ·have hin':cX l[i] 0 (n-1)=false:=by simpa using hin
   rw[hin'];rfl
 cases (List.range l.length).all (Dr n l)<;>rfl
theorem Hm (p:dw)(h:p.2.2.2.length<=1000000000):uD p=some (dT p):=by
 unfold uD dT;simp only[dR,ab,bM];by_cases hn:cX p.2.2.1 0 16=true
 ·have hb:=hn;rw[aW]at hb;rw[zip,aQ,U7 p.2.2.1 p.2.2.2 h (λi hi s nx=>?hs) (λs nx=>?hf)]
  case hs=>
   simp only[vO]
   rw[jz,bu hi,ak (n:=(i:Int)+1),ak (n:=p.2.2.1-1)]
   simp only[ah,ab,dR];rfl
  case hf=>
   simp only[vO]
   rw[iw];rfl
  rw[hn];cases cX p.1 0 130944<;>cases cX p.2.1 1 512<;>rfl
 have hn':cX p.2.2.1 0 16=false:=by simpa using hn
 rw[hn'];cases cX p.1 0 130944<;>cases cX p.2.1 1 512<;>rfl
theorem uT (p:dw)(h:p.2.2.2.length<=1000000000):iW p=some (dT p):=by
 unfold iW dT;simp only[cn,ab,bM];by_cases hn:cX p.2.2.1 0 16=true
 ·have hb:=hn;rw[aW]at hb;rw[zip,aQ,U7 p.2.2.1 p.2.2.2 h (λi hi s nx=>?hs) (λs nx=>?hf)]
  case hs=>
   simp only[vk]
   rw[jz,bu hi,ak (n:=(i:Int)+1),ak (n:=p.2.2.1-1)]
   simp only[ah,ab,cn];rfl
  case hf=>
   simp only[vk]
   rw[iw];rfl
  rw[hn];cases cX p.1 0 130944<;>cases cX p.2.1 1 512<;>rfl
 have hn':cX p.2.2.1 0 16=false:=by simpa using hn
 rw[hn'];cases cX p.1 0 130944<;>cases cX p.2.1 1 512<;>rfl
def jh (n:Int):Bool:=(n==2)||((n==4)||((n==8)||(n==16)))
theorem FG (n:Int):vR n=some (jh n):=by simp only[vR,bM,ab,jh,cT]
theorem DR (n:Int):sX n=some (jh n):=FG n
theorem ij {n:Int}:jh n=true↔n=2\/n=4\/n=8\/n=16:=by simp[jh]
theorem BW (x:Int)(k:Nat)(hk:k<=64:=by omega):ar x%(2^k:Int)=x%(2^k:Int):=by
 obtain⟨c,hc⟩:∃c:Int,(18446744073709551616:Int)=2^k*c:=⟨2^(64-k),by rw[<-Int.pow_add,show k+(64-k)=64 by omega];rfl⟩
 have:ar x=x\/∃q:Int,ar x=x+18446744073709551616*q:=by
  right;simp only[ar,gG,IntKind.wrap,IntKind.bits,IntKind.signed];simp;have h1:x=x%18446744073709551616+18446744073709551616*(x/18446744073709551616):=by omega
  split;exact⟨-(x/18446744073709551616)-1,by omega⟩;exact⟨-(x/18446744073709551616),by omega⟩
 rcases this with h|⟨q,h⟩;rw[h];rw[h,hc,Int.mul_assoc,Int.add_mul_emod_self_left]
theorem C4 (x:Int)(k:Nat)(hk:k<63:=by omega):((gX x&&&gX (2^k-1)).toNat:Int)=x%2^k:=by
 have h2:(2:Int)^k<=2^62:=by have:(2:Nat)^k<=2^62:=Nat.pow_le_pow_right (by omega) (by omega);exact_mod_cast this
 have h0:(1:Int)<=2^k:=by have:1<=(2:Nat)^k:=Nat.one_le_two_pow;exact_mod_cast this
 have hm:(gX (2^k-1)).toNat=2^k-1:=by
  show(BitVec.ofInt 64 (2^k-1)).toNat=2^k-1;rw[BitVec.toNat_ofInt,Int.emod_eq_of_lt (by omega) (by omega)];have:((2:Int)^k-1)=((2^k-1:Nat):Int):=by have:1<=(2:Nat)^k:=Nat.one_le_two_pow;push_cast [this];rfl
  rw[this];rfl
 rw[BitVec.toNat_and,hm,Nat.and_two_pow_sub_one_eq_mod];show(((BitVec.ofInt 64 x).toNat%2^k:Nat):Int)=x%2^k;rw[BitVec.toNat_ofInt];have hx:0<=x%18446744073709551616:=by omega
 have e:(((x%18446744073709551616).toNat%2^k:Nat):Int)=(x%18446744073709551616)%2^k:=by push_cast;rw[Int.toNat_of_nonneg hx]
 refine e.trans ?_;exact Int.emod_emod_of_dvd x ⟨2^(64-k),by rw[<-Int.pow_add,show k+(64-k)=64 by omega];rfl⟩
theorem Im (x n:Int)(h0:0<n:=by omega)(h1:n<=4611686018427387904:=by omega):iX x n=some (x%n):=by
 unfold iX;have:=fy x (show n≠0 by omega);have:=fC x h0;have hn:(n.natAbs:Int)=n:=by omega
 rw[nf,Int.tmod_eq_emod];split;rw[iw];simp;rw[jz,ak];simp only[ah,hn];congr 1;omega
def bT (r:kO):Int:=if jh r.2.1 then(r.2.2.2-r.2.2.1)%(2*r.2.1) else 0
theorem VH (r:kO):tp r=some (bT r):=by
 unfold tp bT;rw[FG,ab];cases hs:jh r.2.1 with
 |false=>rfl
 |true=>
  simp only[aj,af,cg];congr 1;rcases ij.1 hs with h|h|h|h<;>rw[h];have e:ar (ar (2*2)-1)=2^2-1:=by decide
  rw[e,C4 _ 2,BW _ 2,ak];rfl;have e:ar (ar (2*4)-1)=2^3-1:=by decide
  rw[e,C4 _ 3,BW _ 3,ak];rfl;have e:ar (ar (2*8)-1)=2^4-1:=by decide
  rw[e,C4 _ 4,BW _ 4,ak];rfl;have e:ar (ar (2*16)-1)=2^5-1:=by decide
  rw[e,C4 _ 5,BW _ 5,ak];rfl
theorem zO (r:kO):jv r=some (bT r):=by unfold jv bT;rw[DR,ab];cases hs:jh r.2.1 with|false=>rfl|true=>simp only[aj,af,cg];have hb:=ij.1 hs;rw[ak (n:=2*r.2.1)];have a1:=fy r.2.2.2 (show 2*r.2.1≠0 by omega);have a2:=fC r.2.2.2 (show 0<2*r.2.1 by omega);have a3:=fy r.2.2.1 (show 2*r.2.1≠0 by omega);have a4:=fC r.2.2.1 (show 0<2*r.2.1 by omega);simp only[Im _ (2*r.2.1) (show 0<2*r.2.1 by omega),ab];rw[ak,<-Int.sub_emod]
def dv (r:kO):Bool:=cX r.1 0 130944&&(jh r.2.1&&(cX r.2.2.1 0 (2*r.2.1-1)&&(cX r.2.2.2 0 (2*r.2.1-1)&&decide (bT r<=r.2.1))))
theorem zw {n:Int}(h:jh n=true):ar (ar (2*n)-1)=2*n-1:=by have:=ij.1 h;rw[ak (n:=2*n),ak]
theorem MX (r:kO):uE r=some (dv r):=by unfold uE dv;simp only[dR,FG,VH,ab,bM,cF];cases hs:jh r.2.1 with|false=>rfl|true=>rw[zw hs]
theorem xG (r:kO):jH r=some (dv r):=by unfold jH dv;simp only[cn,DR,zO,ab,bM,cF];cases hs:jh r.2.1 with|false=>rfl|true=>rw[zw hs]
theorem Xq (p:dw)(h:p.2.2.2.length<=1000000000):yW p=some p:=by unfold yW;rw[aQ (by simp;omega)];rfl
theorem kA (l:bZ)(h:l.length<=1000000000):gb l=some l:=by unfold gb;rw[aQ (by simp;omega)];rfl
theorem uo (p:dw)(h:p.2.2.2.length<=1000000000):iG p=some p:=by unfold iG;rw[kA _ h];rfl
def gS (p:dw)(l:bZ):dw:=(p.1,p.2.1,p.2.2.1,p.2.2.2++l)
def Bz (p:dw)(l:bZ):Bool:=dT p&&dT (gS p l)
def Fy (p:dw)(l:bZ):dw×Bool:=bif Bz p l then(gS p l,true) else(p,false)
theorem L0 (p:dw)(l:bZ)(h:p.2.2.2.length+l.length<=1000000000):gy p l=some (Fy p l):=by unfold gy;rw[uo p (by omega),ab,aQ,uT p (by omega)];rw[uT (p.1,p.2.1,p.2.2.1,p.2.2.2++l) (by simp;omega)];simp only[ab,bM,Fy,Bz];show _=some (bif dT p&&dT (p.1,p.2.1,p.2.2.1,p.2.2.2++l) then _ else _);cases dT p<;>cases dT (p.1,p.2.1,p.2.2.1,p.2.2.2++l)<;>rfl
theorem ajN (p:dw)(l:bZ):(Fy p l).2=Bz p l:=by unfold Fy;cases Bz p l<;>rfl
def oK (n:Int)(s:oe):Bool:=cX s.2.1 1 n&&cX s.1 0 65535
def bJ (l:aw oe):bZ:=l.flatMap (·.2.2)
def ee (l:aw oe):Int:=(l.map (·.2.1)).sum
def Nk (t:eC):Bool:=dv t.1&&(dT t.2.1&&(cX t.2.2.2 0 65535&&(t.2.2.1.all (oK t.1.2.1)&&(Bz t.2.1 (bJ t.2.2.1)&&decide (ee t.2.2.1<=t.1.2.1)))))
theorem yp (n:Int):∀l:aw oe,l.all (oK n)=true->0<=ee l
 |[],_=>by simp[ee]
 |x::l,h=>by simp only[ch,ae]at h;have:=yp n l h.2;have hx:=h.1;unfold oK at hx;simp only[ae,aW]at hx;simp only[ee,di,fJ]at this⊢;omega
theorem OK (p:dw)(n:Int)(hn:n<=16)(fin:Int×bZ->az Bool)(hfin:∀s:Int×bZ,p.2.2.2.length+s.2.length<=1000000000->fin s=some (Bz p s.2)):
 ∀(l:aw oe)(left:Int)(acc:bZ),0<=left->left<=n->p.2.2.2.length+(acc.length+(bJ l).length)<=1000000000->
 zJ (λx (s:Int×bZ) k=>cond (decide (x.2.1<1)||(decide (x.2.1>s.1)|| !(cX x.1 0 65535))) (some false) (room (s.2.length+x.2.2.length) (k (ar (s.1-x.2.1),s.2++x.2.2)))) fin l (left,acc)
  =some (l.all (oK n)&&(Bz p (acc++bJ l)&&decide (ee l<=left)))
 |[],left,acc,h0,h1,h2=>by rw[zJ,hfin _ (by simp[bJ]at h2;exact h2)];simp[bJ,ee,h0]
 |x::l,left,acc,h0,h1,h2=>by
  have hb:bJ (x::l)=x.2.2++bJ l:=by simp[bJ]
  have hc:ee (x::l)=x.2.1+ee l:=by simp only[ee,di,fJ]
  rw[hb,ai]at h2;rw[zJ,ch,hb,hc];by_cases c1:x.2.1<1;have e:oK n x=false:=by unfold oK cX;rw[aq (show¬1<=x.2.1 by omega)];rfl
  rw[e,au c1];rfl;rw[aq c1];by_cases c2:x.2.1>left;rw[au c2];simp only[ik,cP,il,ah];cases ha:l.all (oK n)with|false=>simp|true=>have:=yp n l ha;rw[aq (show¬x.2.1+ee l<=left by omega)];simp
  rw[aq c2];have e:oK n x=cX x.1 0 65535:=by have:cX x.2.1 1 n=true:=aW.2 ⟨by omega,by omega⟩;unfold oK;rw[this];rfl
  rw[e];cases cX x.1 0 65535 with
  |false=>rfl
  |true=>
   simp only[cP,aj,af,bq];rw[aQ,ak,OK p n hn fin hfin l _ _ (by omega) (by omega) (by rw[ai];omega),aZ];have e:decide (ee l<=left-x.2.1)=decide (x.2.1+ee l<=left):=by rw[cC];simp;omega
   rw[e]
theorem Xg (t:eC)(h1:t.2.2.1.length<=1000000000)(h2:t.2.1.2.2.2.length+(bJ t.2.2.1).length<=1000000000):zj t=some (Nk t):=by
 unfold zj Nk;simp only[xG,uT _ (show t.2.1.2.2.2.length<=1000000000 by omega),cn,ab,bM];cases hr:dv t.1 with
 |false=>rfl
 |true=>
  have hn:0<=t.1.2.1/\t.1.2.1<=16:=by unfold dv at hr;simp only[ae]at hr;have:=ij.1 hr.2.1;omega
  have hfu:=eJ;have key:=BG (R:=Bool) (T:=vq (λ(_:Int) (y9:bZ) (_:Int)=>aa (gy t.2.1 y9) λr11=>some r11.2) (λ(y12:Bool) (_:Int) (_:bZ) (_:Int)=>some y12) false t.2.2.1 ((List.length t.2.2.1:Int)) t) t.2.2.1 (λ(s:Int×bZ) i=>(s.1,s.2,(i:Int))) (λx (s:Int×bZ) k=>cond (decide (x.2.1<1)||(decide (x.2.1>s.1)|| !(cX x.1 0 65535))) (some false) (room (s.2.length+x.2.2.length) (k (ar (s.1-x.2.1),s.2++x.2.2)))) (λs=>aa (gy t.2.1 s.2) λr12=>some r12.2) (λi hi s nx=>by simp only[vq];rw[jz,bu hi,ak (n:=(i:Int)+1)];simp only[ah,ab,cn,bM,cT];rfl) (λs nx=>by simp only[vq];rw[iw];rfl) fuel 0 (t.1.2.1,([]:bZ)) (by omega) (by omega);rw[fi,OK t.2.1 t.1.2.1 (by omega) _ (λs hs=>by rw[L0 _ _ hs,ab,ajN]) _ _ _ (by omega) (by omega) (by simpa using h2)]at key;cases dT t.2.1 with|false=>rfl|true=>cases cX t.2.2.2 0 65535 with|false=>rfl|true=>refine key.trans ?_;simp
def td (s:fO):Bool:=cX s.2.1 0 65535&&(cX s.2.2.1 0 65535&&(!decide ((List.length s.2.2.2.2.2.2.2:Int)>320)&&
 (bif s.1==17 then(s.2.2.2.1==0)&&((s.2.2.2.2.1==0)&&((s.2.2.2.2.2.1==0)&&(s.2.2.2.2.2.2.1==0)))
  else(s.1==6)&&(cX s.2.2.2.1 0 4294967295&&(cX s.2.2.2.2.1 0 4294967295&&(cX s.2.2.2.2.2.1 0 31&&cX s.2.2.2.2.2.2.1 0 65535))))))
theorem ZT (s:fO):qU s=some (td s):=by simp only[qU,dR,ab,bM,cF,cT,cN,Bool.not_or,fU,Bool.and_assoc,td]
theorem Zo (s:fO):qI s=some (td s):=by simp only[qI,cn,ab,bM,cF,cT,cN,Bool.not_or,fU,Bool.and_assoc,td];by_cases h:s.1=17;rw[h];rfl;rw[show(s.1==17)=false from by simpa using h];cases s.1==6<;>rfl
def B7 (f:Int):Bool:=(f==16)||(f==17)||(f==24)||(f==25)
theorem LA (f:Int)(h:cX f 0 31=true):(ar (BitVec.toNat (gX f&&&~~~ gX 9))==16)=B7 f:=by
 have key:∀k:Fin 32,(ar (BitVec.toNat (gX (k.val:Int)&&&~~~ gX 9))==16)=B7 (k.val:Int):=by decide
 rw[aW]at h;have:=key ⟨f.toNat,by omega⟩;rwa[show((f.toNat:Nat):Int)=f by omega]at this
theorem Lz (f:Int)(h:cX f 0 31=true):qN f=some (B7 f):=by
 have key:∀k:Fin 32,((ar (BitVec.toNat (gX (k.val:Int)&&&gX 16)) !=0)&&(ar (BitVec.toNat (gX (k.val:Int)&&&~~~ gX 25))==0))=B7 (k.val:Int):=by decide
 rw[aW]at h;have:=key ⟨f.toNat,by omega⟩;rw[show((f.toNat:Nat):Int)=f by omega]at this;simp only[qN,bM,ab,cF];rw[this]
theorem EA {s:fO}(h:td s=true)(h6:(s.1==6)=true):cX s.2.2.2.2.2.1 0 31=true:=by
 have:s.1=6:=by simpa using h6
 unfold td at h;rw[this]at h;simp only[ae]at h;have h:=h.2.2.2;simp at h;exact h.2.2.1
def pY (p:aI):Bool:=cX p.1 0 281474976710655&&(cX p.2.1 0 281474976710655&&(cX p.2.2.1 (-1) 4095&&(cX p.2.2.2.1 0 255&&(cX p.2.2.2.2.2.1 0 255&&(cX p.2.2.2.2.1 0 65535&&(cX p.2.2.2.2.2.2.1 0 4294967295&&(cX p.2.2.2.2.2.2.2.1 0 4294967295&&td p.2.2.2.2.2.2.2.2)))))))
def dG (p:aI):Bool:=pY p&&(decide ((List.length p.2.2.2.2.2.2.2.2.2.2.2.2.2.2.2:Int)<=128)||(p.2.2.2.2.2.2.2.2.1==6)&&B7 p.2.2.2.2.2.2.2.2.2.2.2.2.2.1)
theorem zN (h:pY p=true):td p.2.2.2.2.2.2.2.2=true:=by unfold pY at h;simp only[ae]at h;exact h.2.2.2.2.2.2.2.2
theorem Pr (p:aI):vQ p=some (dG p):=by unfold vQ dG;simp only[dR,ZT,ab,bM,cF,cT,cN,Bool.not_or,fU];rw[show(cX p.1 0 281474976710655&&(cX p.2.1 0 281474976710655&&(cX p.2.2.1 (-1) 4095&&(cX p.2.2.2.1 0 255&&(cX p.2.2.2.2.2.1 0 255&&(cX p.2.2.2.2.1 0 65535&&(cX p.2.2.2.2.2.2.1 0 4294967295&&(cX p.2.2.2.2.2.2.2.1 0 4294967295&&td p.2.2.2.2.2.2.2.2))))))))=pY p from rfl];cases hh:pY p with|false=>rfl|true=>cases h6:p.2.2.2.2.2.2.2.2.1==6 with|false=>simp|true=>rw[LA _ (EA (zN hh) h6)];simp[Bool.or_comm]
theorem lI (p:aI):gu p=some (dG p):=by
 unfold gu dG;simp only[cn,Zo,ab];have e:∀X:az Bool,(cond (cX p.1 0 281474976710655) (cond (cX p.2.1 0 281474976710655) (cond (cX p.2.2.1 (-1) 4095) (cond (cX p.2.2.2.1 0 255) (cond (cX p.2.2.2.2.2.1 0 255) (cond (cX p.2.2.2.2.1 0 65535) (cond (cX p.2.2.2.2.2.2.1 0 4294967295) (cond (cX p.2.2.2.2.2.2.2.1 0 4294967295) (cond (td p.2.2.2.2.2.2.2.2) X (some false)) (some false)) (some false)) (some false)) (some false)) (some false)) (some false)) (some false)) (some false))=cond (pY p) X (some false):=by
  intro X;unfold pY;cases cX p.1 0 281474976710655 with|false=>rfl|true=>?_
  cases cX p.2.1 0 281474976710655 with|false=>rfl|true=>?_
  cases cX p.2.2.1 (-1) 4095 with|false=>rfl|true=>?_
  cases cX p.2.2.2.1 0 255 with|false=>rfl|true=>?_
  cases cX p.2.2.2.2.2.1 0 255 with|false=>rfl|true=>?_
  cases cX p.2.2.2.2.1 0 65535 with|false=>rfl|true=>?_
  cases cX p.2.2.2.2.2.2.1 0 4294967295 with|false=>rfl|true=>?_
  cases cX p.2.2.2.2.2.2.2.1 0 4294967295<;>rfl
 rw[e];cases hh:pY p with|false=>rfl|true=>cases h6:p.2.2.2.2.2.2.2.2.1==6 with|false=>simp[bM]|true=>rw[Lz _ (EA (zN hh) h6)];simp only[ah,ab,bM,cT,bq]
def gj (q:tt):Bool:=cX q.1 0 130944&&(jh q.2.1&&cX q.2.2 0 (ar ((ar (2*q.2.1))-1)))
theorem H4 (q:tt):oA q=some (gj q):=by simp only[oA,cn,DR,ab,bM,cF,gj]
def acF:sk:=((0,0,0,0,0,0,0,0,0,0,0,0,0,0,0,([]:Bytes)),0,0)
def ZZ (p:sk):Bool:=(p.1.1==0)&&((p.1.2.1==0)&&((p.1.2.2.1==0)&&((p.1.2.2.2.1==0)&&((p.1.2.2.2.2.1==0)&&((p.1.2.2.2.2.2.1==0)&&((p.1.2.2.2.2.2.2.1==0)&&((p.1.2.2.2.2.2.2.2.1==0)&&((p.1.2.2.2.2.2.2.2.2.1==0)&&((p.1.2.2.2.2.2.2.2.2.2.1==0)&&((p.1.2.2.2.2.2.2.2.2.2.2.1==0)&&((p.1.2.2.2.2.2.2.2.2.2.2.2.1==0)&&((p.1.2.2.2.2.2.2.2.2.2.2.2.2.1==0)&&((p.1.2.2.2.2.2.2.2.2.2.2.2.2.2.1==0)&&((p.1.2.2.2.2.2.2.2.2.2.2.2.2.2.2.1==0)&&((p.1.2.2.2.2.2.2.2.2.2.2.2.2.2.2.2==([]:Bytes))&&((p.2.1==0)&&((p.2.2==0)&&true)))))))))))))))))
def F6 (r:cy):Bool:=(dv r.1&&(gj r.2.1&&(gj r.2.2.1&&((r.2.1.1==r.2.2.1.1)&&((r.2.1.2.1==r.2.2.1.2.1)&&cX r.2.2.2.2.2 0 1000000000000)))))&&
 (bif r.2.2.2.2.1 then dG r.2.2.2.1.1&&(cX r.2.2.2.1.2.1 0 320&&cX r.2.2.2.1.2.2 1 320) else ZZ r.2.2.2.1)
theorem ae2 (p:sk):ZZ p=true↔p=acF:=by obtain⟨⟨a,b,c,d,e,f,g,h,i,j,k,l,m,n,o,q⟩,r,s⟩:=p;simp only[ZZ,acF,fV,ae,bm,Prod.mk.injEq,and_assoc]
theorem Rq (r:cy):wj r=some (F6 r):=by unfold wj F6 ZZ;simp only[xG,H4,cn,lI,ab,bM,cF,cT,cN,Bool.not_or,fU,bne];cases r.2.2.2.2.1<;>rfl
def eY (v:Vector):Bool:=(mH v).getD false
theorem FW (v:Vector):mH v=some (eY v):=by
 have:∃b,mH v=some b:=by simp only[mH,uF,dR,ab,bM];exact⟨_,rfl⟩
 obtain⟨b,hb⟩:=this;rw[eY,hb];rfl
theorem zP (v:Vector):mD v=some (eY v):=FW v
theorem ID (l:aw α)(p:α->Bool):(List.range l.length).all (λi=>l[i]?.all p)=l.all p:=by rw[cC,aG,aG];constructor;intro h x hx;obtain⟨i,hi,rfl⟩:=List.getElem_of_mem hx;have:=h i (bF.2 hi);rwa[al hi]at this;intro h i hi;rw[al (bF.1 hi)];exact h _ (aN _)
theorem Yw (l:aw α)(p q:α->Bool):l.all (λx=>p x&&q x)=(l.all p&&l.all q):=by induction l with|nil=>rfl|cons x l ih=>simp only[ch,ih];cases p x<;>cases q x<;>cases l.all p<;>rfl
def iL (h:Host):bZ:=[h.2.2.2.2.2.2.2.2.2.2.2.2.2.2.1,h.2.2.2.2.2.2.2.2.2.2.2.2.2.2.2.1,h.2.2.2.2.2.2.2.2.2.2.2.2.2.2.2.2.1,h.2.2.2.2.2.2.2.2.2.2.2.2.2.2.2.2.2.1,h.2.2.2.2.2.2.2.2.2.2.2.2.2.2.2.2.2.2]
def sn (h:Host):Bool:=cX (h.2.2.2.1.length:Int) 1 2&&(((h.2.2.2.2.1.length:Int)==(h.2.2.2.1.length:Int))&&(((h.2.2.2.2.2.1.length:Int)==(h.2.2.2.1.length:Int))&&((h.2.2.2.2.2.2.1.length:Int)==(h.2.2.2.1.length:Int))))
def Vl (h:Host):Bool:=h.2.2.2.1.all F6&&(h.2.2.2.2.1.all dT&&h.2.2.2.2.2.1.all eY)
def ew (h:Host):Bool:=db h.1&&(fY h.2.1&&(Nk h.2.2.1&&(eV h.2.2.2.2.2.2.2.1&&(sn h&&(fb h.2.2.2.2.2.2.2.2.1 (h.2.2.2.1.length:Int)&&(Vl h&&(iL h).all (λx=>cX x 0 1000000000000)))))))
structure KB (h:Host):Prop where
 a1:h.1.length<=1000000000
 a2:h.2.1.length<=1000000000
 t1:h.2.2.1.2.2.1.length<=1000000000
 t2:h.2.2.1.2.1.2.2.2.length+(bJ h.2.2.1.2.2.1).length<=1000000000
 f1:h.2.2.2.2.2.2.2.1.2.2.length<=1000000000
 s1:h.2.2.2.2.2.2.2.2.1.1.length<=1000000000
 s2:h.2.2.2.2.2.2.2.2.1.2.1.length<=1000000000
 s3:h.2.2.2.2.2.2.2.2.1.2.2.2.length<=1000000000
 p1:∀p∈h.2.2.2.2.1,p.2.2.2.length<=1000000000
theorem rO (l:sn h=true):h.2.2.2.1.length<=2/\h.2.2.2.2.1.length=h.2.2.2.1.length/\h.2.2.2.2.2.1.length=h.2.2.2.1.length/\h.2.2.2.2.2.2.1.length=h.2.2.2.1.length:=by unfold sn at l;simp only[ae,aW,bm]at l;omega
theorem ab9 {T:(Int->az R)->Int->az R}{fin hit:az R}(l:sn h=true)(hs:∀i (hi:i<h.2.2.2.1.length) nx,T nx (i:Int)=cond (!(F6 h.2.2.2.1[i]&&(dT (h.2.2.2.2.1[i]'((rO l).2.1▸hi))&&eY (h.2.2.2.2.2.1[i]'((rO l).2.2.1▸hi))))) hit (nx ((i+1:Nat):Int)))(hf:∀nx,T nx (h.2.2.2.1.length:Int)=fin):bl T fuel 0=cond (Vl h) fin hit:=by
 have hl:=rO l;rw[iQ (fin:=fin) (hit:=hit) (λi=>h.2.2.2.1[i]?.all F6&&(h.2.2.2.2.1[i]?.all dT&&h.2.2.2.2.2.1[i]?.all eY)) h.2.2.2.1.length (by omega) ?hs hf]
 case hs=>
  intro i nx hi
  rw[hs i hi,al hi,al (hl.2.1▸hi),al (hl.2.2.1▸hi)]
  rfl
 rw[Yw,Yw,ID];have e1:=ID h.2.2.2.2.1 dT;have e2:=ID h.2.2.2.2.2.1 eY;rw[hl.2.1]at e1;rw[hl.2.2.1]at e2;rw[e1,e2];rfl
theorem SB {T:(Int->az R)->Int->az R}{fin hit:az R}(h:Host)(hs:∀i (hi:i<(iL h).length) nx,T nx (i:Int)=cond (!(cX (iL h)[i] 0 1000000000000)) hit (nx ((i+1:Nat):Int)))(hf:∀nx,T nx ((iL h).length:Int)=fin):bl T fuel 0=cond ((iL h).all (λx=>cX x 0 1000000000000)) fin hit:=qY (λx=>cX x 0 1000000000000) (iL h) (by simp[iL]) hs hf
theorem uS (h:Host)(z:KB h):iV h=some (ew h):=by
 unfold iV ew;simp only[FD _ z.a1,GH _ z.a2,Xg _ z.t1 z.t2,qE _ z.f1,GN _ _ z.s1 z.s2 z.s3,cn,ab,bM];cases db h.1 with|false=>rfl|true=>?_
 cases fY h.2.1 with|false=>rfl|true=>?_
 cases Nk h.2.2.1 with|false=>rfl|true=>?_
 cases eV h.2.2.2.2.2.2.2.1 with|false=>rfl|true=>?_
 simp only[aj,af,cT,bne];rw[show(!cX (h.2.2.2.1.length:Int) 1 2||(!((h.2.2.2.2.1.length:Int)==(h.2.2.2.1.length:Int))||(!((h.2.2.2.2.2.1.length:Int)==(h.2.2.2.1.length:Int))|| !((h.2.2.2.2.2.2.1.length:Int)==(h.2.2.2.1.length:Int)))))= !(sn h) by unfold sn;simp only[Bool.not_and]];cases hl:sn h with|false=>rfl|true=>?_
 have hL:=rO hl;simp only[aj,af,bq];rw[ab9 (h:=h) (hit:=some false) (fin:=some ((iL h).all (λx=>cX x 0 1000000000000)&&fb h.2.2.2.2.2.2.2.2.1 (h.2.2.2.1.length:Int))) hl ?hs ?hf]
 case hs=>
  intro i hi nx
  simp only[vf]
  rw[jz,bu hi,bu (hL.2.1▸hi),bu (hL.2.2.1▸hi),ak (n:=(i:Int)+1)]
  simp only[ah,ab,Rq,zP,uT _ (z.p1 _ (aN _)),bM,cT,Bool.not_and]
  rfl
 case hf=>
  intro nx
  simp only[vf]
  rw[iw]
  simp only[af]
  refine(SB (fin:=some (fb h.2.2.2.2.2.2.2.2.1 (h.2.2.2.1.length:Int))) (hit:=some false) h ?_ ?_).trans ?_
  ·intro i hi nx
   simp only[tB]
   have hi':i<5:=hi
   change (bif decide ((i:Int)<5) then aa (idx (iL h) (i:Int)) _ else _)=_
   rw[jz,bu hi,ak (n:=(i:Int)+1),ab,cn]
   rfl
  ·intro nx
   simp only[tB]
   rw[aq (by simp[iL])];rfl
  ·cases (iL h).all (λx=>cX x 0 1000000000000)<;>rfl
 cases Vl h<;>cases fb h.2.2.2.2.2.2.2.2.1 (h.2.2.2.1.length:Int)<;>cases (iL h).all (λx=>cX x 0 1000000000000)<;>rfl
def Re (v:Int)(b:Bytes):Bytes:=((gk v++gk (b.length:Int))++b)++gk (IZ ((gk v++gk (b.length:Int))++b))
def dX (v:Int)(b:Bytes):Bytes×Bool:=bif cX v 0 1000000&&decide (b.length<=84) then(Re v b,true) else([],false)
theorem MU (v:Int)(b:Bytes)(h:b.length<=1000000000):nQ v b=some (dX v b):=by have l1:=dS v;have l2:=dS (b.length:Int);unfold nQ dX;rw[ak];simp only[dR,ab];cases cX v 0 1000000 with|false=>rfl|true=>by_cases hb:b.length<=84;have l3:=dS (IZ ((gk v++gk (b.length:Int))++b));rw[aq (show¬((b.length:Int)+12>96) by omega),au hb];simp only[aj,af,ab,cE,ah,mG];rw[aQ,aQ (by simp only[ai];omega),ZR _ (by simp only[ai];omega)];simp only[ab,mG];rw[aQ (by simp only[ai];omega)];rfl;rw[au (show((b.length:Int)+12>96) by omega),aq hb];rfl
theorem adU (v:Int)(b:Bytes)(h:b.length<=1000000000):vh v b=some (dX v b):=by have l1:=dS v;have l2:=dS (b.length:Int);unfold vh dX;rw[ak];simp only[cn,ab];cases cX v 0 1000000 with|false=>rfl|true=>by_cases hb:b.length<=84;have l3:=dS (IZ ((gk v++gk (b.length:Int))++b));rw[aq (show¬(12+(b.length:Int)>96) by omega),au hb];simp only[aj,af,ab,cE,ah,ue];rw[aQ,aQ (by simp only[ai];omega),Zl _ (by simp only[ai];omega)];simp only[ab,ue];rw[aQ (by simp only[ai];omega)];rfl;rw[au (show(12+(b.length:Int)>96) by omega),aq hb];rfl
def acL (s:Bytes)(n:Nat):Int:=bif (dX (eO s 0) ((s.take (8+n)).drop 8)).2&&((dX (eO s 0) ((s.take (8+n)).drop 8)).1==s.take (12+n)) then eO s 0 else-1
def gO (s:Bytes):Int:=if 0<=eO s 4/\eO s 4<=(s.length:Int)-12 then acL s (eO s 4).toNat else-1
theorem Tq (s:Bytes)(a:Int): -1<=eO s a/\eO s a<=4294967295:=by unfold eO;cases ft s a 4 with|false=>simp only[af];omega|true=>have b0:=eE s a.toNat;have b1:=eE s (a.toNat+1);have b2:=eE s (a.toNat+2);have b3:=eE s (a.toNat+3);simp only[ah];omega
theorem acM (h:¬n<=84)(hs:n+12<=s.length):acL s n= -1:=by
 have:(dX (eO s 0) ((s.take (8+n)).drop 8)).2=false:=by unfold dX;rw[aq (by simp only[aK,aV];omega),ff];rfl
 unfold acL;rw[this];rfl
theorem Kt (s:Bytes)(h:s.length<=1000000000:=by omega):jQ s=some (gO s):=by
 unfold jQ gO;have hg:=Tq s 4;simp only[acq s _ h,dR,ab];rw[ak (n:=eO s 4+12),ak (n:=8+eO s 4)];generalize eO s 4=n at hg;by_cases hc:0<=n/\n<=(s.length:Int)-12;rw[aE hc];obtain⟨m,rfl⟩:=aR hc.1;by_cases h84:m<=84;have e1:cX (m:Int) 0 84=true:=aW.2 (by omega);have e2:sub s 8 (8+(m:Int))=some ((s.take (8+m)).drop 8):=by unfold sub;rw[zip];rfl
 have e3:sub s 0 ((m:Int)+12)=some (s.take (12+m)):=by unfold sub;rw[zip,show((m:Int)+12).toNat=12+m by omega];rfl
 rw[e1,aq (show¬((m:Int)+12>(s.length:Int)) by omega),e2,e3];simp only[aj,af,ab,ax];rw[MU _ _ (by simp only[aK,aV];omega)];unfold acL;simp only[ab];cases (dX (eO s 0) ((s.take (8+m)).drop 8)).2<;>cases ((dX (eO s 0) ((s.take (8+m)).drop 8)).1==s.take (12+m))<;>rfl;have e1:cX (m:Int) 0 84=false:=by rw[Bool.eq_false_iff,ne_eq,aW];omega
 rw[e1,ax,acM h84 (by omega)];rfl;rw[aD hc];by_cases hb:cX n 0 84=true;have:=aW.1 hb;rw[hb,au (show n+12>(s.length:Int) by omega)];rfl;have hb':cX n 0 84=false:=by simpa using hb
 rw[hb'];rfl
theorem GR (s:Bytes)(h:s.length<=1000000000:=by omega):iM s=some (gO s):=by
 unfold iM gO;have hg:=Tq s 4;simp only[wh s _ h,ab];rw[ak (n:=12+eO s 4),ak (n:=8+eO s 4),ak (n:=(s.length:Int)-12)];generalize eO s 4=n at hg;by_cases hc:0<=n/\n<=(s.length:Int)-12;rw[aE hc];obtain⟨m,rfl⟩:=aR hc.1;have e2:sub s 8 (8+(m:Int))=some ((s.take (8+m)).drop 8):=by unfold sub;rw[zip];rfl
 have e3:sub s 0 (12+(m:Int))=some (s.take (12+m)):=by unfold sub;rw[zip,show(12+(m:Int)).toNat=12+m by omega];rfl
 rw[aq (show¬((m:Int)<0) by omega),aq (show¬((m:Int)>(s.length:Int)-12) by omega),e2,e3];simp only[af,ab,ax];rw[adU _ _ (by simp only[aK,aV];omega)];unfold acL;simp only[ab];cases (dX (eO s 0) ((s.take (8+m)).drop 8)).2<;>cases ((dX (eO s 0) ((s.take (8+m)).drop 8)).1==s.take (12+m))<;>rfl;rw[aD hc];by_cases h0:n<0;rw[au h0];rfl;rw[aq h0,au (show n>(s.length:Int)-12 by omega)];rfl
def jT (f:bO):Bool:=((f.length:Int)==2)&&((((f.getD 0 []).length:Int)==96)&&(((f.getD 1 []).length:Int)==96))
theorem uv {f:bO}(h:jT f=true):f=[f.getD 0 [],f.getD 1 []]/\(f.getD 0 []).length=96/\(f.getD 1 []).length=96:=by simp only[jT,ae,bm]at h;match f,h with|[a,b],h=>have h1:(a.length:Int)=96:=h.2.1;have h2:(b.length:Int)=96:=h.2.2;exact⟨rfl,by show a.length=96;omega,by show b.length=96;omega⟩
theorem Pn (f:bO):yI f=some (jT f):=by
 unfold yI jT;match f with
 |[]=>rfl
 |[a]=>rfl
 |[a,b]=>have i0:idx [a,b] 0=some a:=rfl;have i1:idx [a,b] 1=some b:=rfl;rw[i0,i1];simp only[ab,bM,cF];rfl
 |a::b::c::r=>
  have:(((a::b::c::r).length:Int)==2)=false:=by simp only[bf,cl];omega
  rw[this];rfl
theorem H2 (f:bO):uY f=some (jT f):=Pn f
def gZ (f:bO):Int:=bif jT f then(if gO (f.getD 0 [])<0/\gO (f.getD 1 [])<0 then-1 else if gO (f.getD 1 [])>gO (f.getD 0 []) then 1 else 0) else-1
theorem Vz (f:bO):tf f=some (gZ f):=by unfold tf gZ;rw[Pn,ab];cases hf:jT f with|false=>rfl|true=>obtain⟨e,l0,l1⟩:=uv hf;generalize f.getD 0 []=a at*;generalize f.getD 1 []=b at*;subst e;have i0:idx [a,b] 0=some a:=rfl;have i1:idx [a,b] 1=some b:=rfl;simp only[aj,af,ah,i0,i1,ab,Kt a,Kt b];by_cases p:gO a<0<;>by_cases q:gO b<0<;>by_cases r:gO b>gO a<;>simp[p,q,r]
theorem LX (f:bO):pG f=some (gZ f):=by
 unfold pG gZ;rw[H2,ab];cases hf:jT f with
 |false=>rfl
 |true=>
  obtain⟨e,l0,l1⟩:=uv hf;generalize f.getD 0 []=a at*;generalize f.getD 1 []=b at*;subst e;have i0:idx [a,b] 0=some a:=rfl;have i1:idx [a,b] 1=some b:=rfl;simp only[aj,af,ah,i0,i1,ab,GR a,GR b];by_cases r:gO b>gO a;have r':¬gO a>=gO b:=by omega
  by_cases p:gO a<0<;>by_cases q:gO b<0<;>simp[p,q,r,r'];have r':gO a>=gO b:=by omega
  by_cases p:gO a<0<;>by_cases q:gO b<0<;>simp[p,q,r,r']
def qx (c:kO):Bool:=cX c.1 0 1125899906842624&&(cX c.2.1 0 1048575&&(cX c.2.2.1 0 67108864&&cX c.2.2.2 0 1099511627776))
theorem Pk (c:kO):yH c=some (qx c):=by simp only[yH,dR,ab,bM,cF,qx]
theorem HZ (c:kO):uX c=some (qx c):=Pk c
def Gf (c:dh)(i:Nat):Bool:=(c.1[i]?.all ew)&&Ns (c.1[i]?.map (·.2.2.2.2.2.2.2.1)) (c.2.2.1[i]?.map (·.1))
def Mh (c:dh):Bool:=((c.1.length:Int)==(c.2.2.1.length:Int))&&((c.2.1.length:Int)==(c.2.2.1.length:Int))
def kR (c:dh):Bool:=(dm c.2.2.1).2&&(Mh c&&(hG c.2.1 (dm c.2.2.1).1&&((!decide (gZ c.2.2.2.1<0)&&qx c.2.2.2.2.1)&&((List.range c.1.length).all (Gf c)&&(List.range c.1.length).all (yg c.2.1)))))
structure V3 (c:dh):Prop where
 h0:c.1.length<=1000000000
 f0:c.2.1.length<=1000000000
 m:∀m∈c.2.2.1,m.1.2.2.length<=1000000000
 h1:∀h∈c.1,KB h
theorem Eu {c:dh}(h:Mh c=true):c.1.length=c.2.2.1.length/\c.2.1.length=c.2.2.1.length:=by unfold Mh at h;simp only[ae,bm]at h;omega
theorem KP {c:dh}(i:Nat)(hi:i<c.1.length)(hj:i<c.2.2.1.length):Gf c i=(ew c.1[i]&&Ns c.1[i].2.2.2.2.2.2.2.1 c.2.2.1[i].1):=by unfold Gf;rw[al hi,al hj];congr 1;apply Q0;rw[Eg];simp
theorem BB (c:dh)(z:V3 c):lZ c=some (kR c):=by
 have hp:=Iy c.2.2.1;unfold lZ kR;simp only[AN _ z.m,EW _ _ z.f0 hp.1 hp.2,Xb _ z.f0,LX,HZ,ab,bM,cT,cF,bne];rw[show((!((c.1.length:Int)==(c.2.2.1.length:Int)))|| !((c.2.1.length:Int)==(c.2.2.1.length:Int)))= !(Mh c) by unfold Mh;simp only[Bool.not_and]];cases (dm c.2.2.1).2 with|false=>rfl|true=>?_
 cases hl:Mh c with|false=>rfl|true=>?_
 have hL:=Eu hl;have h0:=z.h0;simp only[aj,cP,af,bq];have hd:decide (gZ c.2.2.2.1>=0)= !decide (gZ c.2.2.2.1<0):=by by_cases h:gZ c.2.2.2.1<0;rw[au h,iw];rfl;rw[aq h,jz];rfl
 rw[hd,iQ (hit:=some false) (fin:=some (hG c.2.1 (dm c.2.2.1).1&&((List.range c.2.1.length).all (yg c.2.1)&&(!decide (gZ c.2.2.2.1<0)&&qx c.2.2.2.2.1)))) (Gf c) c.1.length (by omega) (λi nx hi=>?hs) (λnx=>?hf)]
 case hs=>
  have q1:i<c.2.2.1.length:=by omega
  have hm:=aN hi
  rw[KP i hi q1]
  simp only[uW]
  rw[jz,bu hi,bu q1,ak (n:=(i:Int)+1)]
  simp only[ah,ab,uS _ (z.h1 _ hm),Rl _ _ (z.h1 _ hm).f1,bM,cT]
  cases ew c.1[i]<;>cases Ns c.1[i].2.2.2.2.2.2.2.1 c.2.2.1[i].1<;>rfl
 case hf=>
  simp only[uW]
  rw[iw];rfl
 rw[hL.2,<-hL.1];cases (List.range c.1.length).all (Gf c)<;>cases (List.range c.1.length).all (yg c.2.1)<;>cases hG c.2.1 (dm c.2.2.1).1<;>cases (!decide (gZ c.2.2.2.1<0)&&qx c.2.2.2.2.1)<;>rfl
def We (s:Bytes)(i:Nat):Nat:=bX s (i/8)/2^(7-i%8)%2
theorem PV (s:Bytes)(i:Nat):We s i<2:=Nat.mod_lt _ (by omega)
theorem ac6 (b k:Nat)(hb:b<256)(hk:k<=7):ar (BitVec.toNat (gX (ar (Int.fdiv (b:Int) ((2^k:Nat):Int)))&&&gX 1))=((b/2^k%2:Nat):Int):=by have e:Int.fdiv (b:Int) ((2^k:Nat):Int)=((b/2^k:Nat):Int):=(Int.ofNat_fdiv b (2^k)).symm;have h1:b/2^k<=b:=Nat.div_le_self _ _;rw[e,je (n:=b/2^k)];have:=aik (b/2^k) 1;rw[show((1:Nat):Int)=1 from rfl]at this;rw[this,Nat.and_one_is_mod];exact je
theorem Zj (s:Bytes)(i:Nat)(hi:i/8<s.length:=by omega)(h:s.length<=1000000000:=by omega):xK s (i:Int)=some ((We s i:Nat):Int):=by
 have e1:Int.tdiv (i:Int) 8=((i/8:Nat):Int):=(Int.ofNat_tdiv i 8).symm;have e2:Int.tmod (i:Int) 8=((i%8:Nat):Int):=(Int.ofNat_tmod i 8).symm;unfold xK;rw[nf,e1,ak (n:=((i/8:Nat):Int)),bu hi,ab,nf,e2,ak (n:=7-((i%8:Nat):Int)),nf];have e3:(2:Int)^(min (Int.toNat (7-((i%8:Nat):Int))) (IntKind.bits .u8))=((2^(7-i%8):Nat):Int):=by rw[show min (Int.toNat (7-((i%8:Nat):Int))) (IntKind.bits .u8)=7-i%8 from by show min _ 8=_;omega];push_cast;rfl
 rw[e3,ac6 _ _ (tw _) (by omega),We,bX,cG hi]
def win (s:Bytes)(a:Nat):Nat->Nat
 |0=>0
 |j+1=>2*win s a j+We s (a+j)
theorem agu (s:Bytes)(a:Nat):∀j,win s a j<2^j
 |0=>by simp[win]
 |j+1=>by have:=agu s a j;have:=PV s (a+j);rw[win,Nat.pow_succ];omega
theorem Yu (s:Bytes)(a j:Nat)(hj:j<=32:=by omega):win s a j<4294967296:=Nat.lt_of_lt_of_le (agu s a j) (Nat.pow_le_pow_right (n:=2) (by omega) hj)
def aib (s:Bytes)(a:Int):Int:=bif ((s.length:Int) !=16)|| !cX a 0 96 then-1 else((win s a.toNat 32:Nat):Int)
theorem ahf (s:Bytes)(a:Int):vg s a=some (aib s a):=by
 unfold vg aib;rw[cn];cases hs:(s.length:Int) !=16 with|true=>rfl|false=>?_
 cases ha:cX a 0 96 with|false=>rfl|true=>?_
 have h1:=aW.1 ha;have h2:s.length=16:=by simp at hs;omega
 obtain⟨a,rfl⟩:=aR h1.1;simp only[af,ab,aj,cz,ax];refine dz (λi=>(((win s a i:Nat):Int),((a+i:Nat):Int))) 32 (by omega) (λi nx hi=>?_) (λnx=>?_);have hw:=Yu s a i;have hb:=PV s (a+i);simp only[qf];rw[ak (n:=(a:Int)+32),jz,ah,nf,Zj s (a+i),ab,ak (n:=((a+i:Nat):Int)+1)];have e1:ar (((win s a i:Nat):Int)*2^(sH 1))=((2^1*win s a i:Nat):Int):=by have:(2:Int)^(sH 1)=2:=rfl;rw[this,ak];omega
 rw[e1,FP _ _ _];rw[show(((a+i:Nat):Int)+1)=((a+(i+1):Nat):Int) by omega];rfl;simp only[qf];rw[ak (n:=(a:Int)+32),iw];rfl
def Jc (s v:Bytes):Nat->Nat
 |0=>0
 |i+1=>if We v i=1 then Jc s v i^^^win s i 32 else Jc s v i
theorem TC (s v:Bytes):∀i,Jc s v i<4294967296
 |0=>by simp[Jc]
 |i+1=>by have:=TC s v i;rw[Jc];split;exact CJ this (Yu s i 32);exact this
def zK (s v:Bytes):Int:=bif ((s.length:Int) !=16)||decide ((v.length:Int)>12) then-1 else((Jc s v (8*v.length):Nat):Int)
theorem adO (s v:Bytes):uZ s v=some (zK s v):=by
 unfold uZ zK;cases hs:(s.length:Int) !=16 with|true=>rfl|false=>?_
 cases hv:decide ((v.length:Int)>12)with|true=>rfl|false=>?_
 have h2:s.length=16:=by simp at hs;omega
 have h3:v.length<=12:=by simp at hv;omega
 simp only[af,ab,cz];refine dz (λi=>(((Jc s v i:Nat):Int),(i:Int))) (8*v.length) (by omega) (λi nx hi=>?_) (λnx=>?_);have hw:=Yu s i 32;have hh:=TC s v i;have hb:=PV v i;have eW:aib s (i:Int)=((win s i 32:Nat):Int):=by unfold aib;rw[hs,aW.2 (show(0:Int)<=(i:Int)/\(i:Int)<=96 by omega)];rfl
 simp only[qc];rw[ak (n:=8*(v.length:Int)),jz,ah,Zj v i,ab,ahf,ab,eW,agy _ _ (by omega) (by omega),ak (n:=(i:Int)+1),je (Nat.lt_trans (CJ hh hw) (by omega)),Jc];by_cases h1:We v i=1;rw[h1,aE rfl];rfl;rw[aD h1,show(((We v i:Nat):Int)==1)=false from by simp;omega];rfl;simp only[qc];rw[ak (n:=8*(v.length:Int)),iw];rfl
def uP (f:F4):Bytes:=((gk f.2.1++gk f.2.2.1)++cm f.2.2.2.1)++cm f.2.2.2.2
theorem W8 (f:F4):vc f=some (uP f):=by have:=dS f.2.1;have:=dS f.2.2.1;have:=bS f.2.2.2.1;have:=bS f.2.2.2.2;simp only[vc,ue,kU,ab];rw[aQ,aQ (by simp only[ai];omega),aQ (by simp only[ai];omega)];rfl
theorem GG (s:Bytes)(f:F4):sO s f=some (zK s (uP f)):=by simp only[sO,W8,adO,ab]
def B5 (s:sv)(f:F4):Int:=bif ((s.2.length:Int)==0)||decide (zK s.1 (uP f)<0) then-1 else Int.tmod (zK s.1 (uP f)) (s.2.length:Int)
theorem aaW (s:sv)(f:F4):yy s f=some (B5 s f):=by
 unfold yy B5;rw[GG,ab];cases h0:(s.2.length:Int)==0 with|true=>rfl|false=>?_
 cases decide (zK s.1 (uP f)<0)with|true=>rfl|false=>?_
 simp only[af,ab,cz];rw[aD (by simpa using h0)]
theorem Of (s:sv)(f:F4)(h:¬B5 s f<0):∃n:Nat,B5 s f=(n:Int)/\n<s.2.length:=by
 unfold B5 at h⊢;cases hc:((s.2.length:Int)==0)||decide (zK s.1 (uP f)<0)with
 |true=>rw[hc]at h;simp at h
 |false=>
  rw[hc]at h;simp only[cr,cl,cY]at hc;simp only[af]at h⊢;have h1:0<=zK s.1 (uP f):=by omega
  rw[dE h1]at h⊢;have:=fC (zK s.1 (uP f)) (show(0:Int)<s.2.length by omega);obtain⟨n,hn⟩:=aR (show 0<=zK s.1 (uP f)%(s.2.length:Int) by omega);exact⟨n,hn,by omega⟩
def Ku (s:sv)(q:Int)(f:F4):Int:=bif !sg s q||decide (B5 s f<0) then-1 else s.2.getD (B5 s f).toNat 0
theorem TY (s:sv)(q:Int)(f:F4)(h:s.2.length<=1000000000):rz s q f=some (Ku s q f):=by
 unfold rz Ku;rw[aaW,ab,L4 s q h,ab];cases sg s q with|false=>rfl|true=>?_
 have hin:=Of s f;cases hd:decide (B5 s f<0)with|true=>rfl|false=>?_
 obtain⟨n,hn,hl⟩:=hin (eu hd);simp only[aj,af,ab,cz,hn,bu hl,ax,cG hl]
theorem PH (t:aw Slot)(f:F4)(h:∀j,j<8->pB (gD t j) f=false):∀n k,walk t f n k= -1
 |0,_=>rfl
 |n+1,k=>by unfold walk;rw[h _ (HE f k),PH t f h n (k+1)];split<;>rfl
theorem I2 (f:F4):∀(t:aw Slot)(m:Int),(∀s∈t,pB s f=false)->yd f t m= -1
 |[],_,_=>rfl
 |s::r,m,h=>by unfold yd;rw[h s (by simp)];exact I2 f r (m+1) (λx hx=>h x (by simp[hx]))
theorem WK (t:aw Slot)(f:F4)(h:sG t=true):yd f t 0=walk t f 8 0:=by simp only[sG,ae,bm,aG,bF]at h;obtain⟨h8,hs⟩:=h;by_cases hex:∃j,j<t.length/\pB (gD t j) f=true;obtain⟨j,hj,hu,e⟩:=Dl f t 0 hex;have:=hs j (by omega);simp only[nM,ae,cQ,aJ,bm]at this;simp only[pB,ae,bm,aH]at hu;rcases this.2 with g|g;rw[hu.1]at g;simp at g;rw[hu.2]at g;rw[show((0:Int))=((0:Nat):Int) from rfl,e,g];omega;have hn:∀j,j<t.length->pB (gD t j) f=false:=λj hj=>Bool.eq_false_iff.2 λhu=>hex ⟨j,hj,hu⟩;rw[PH t f (λj hj=>hn j (by omega)),I2];intro s hs';obtain⟨j,hj,rfl⟩:=List.getElem_of_mem hs';have:=hn j hj;rwa[wC hj]at this
def findF (t:aw Slot)(f:F4):Int:=bif sG t then walk t f 8 0 else-1
theorem Rm (t:aw Slot)(f:F4)(h:t.length<=1000000000):wU t f=some (findF t f):=by
 unfold wU findF;rw[ON,ab];cases ht:sG t with|false=>rfl|true=>?_
 simp only[aj,af,ah,TX t f h,ab,WK t f ht]
theorem aaa (t:aw Slot)(f:F4):∀n k,walk t f n k= -1\/∃m:Nat,walk t f n k=(m:Int)/\m<8
 |0,_=> .inl rfl
 |n+1,k=>by unfold walk;split;exact .inl rfl;split;exact .inr ⟨_,rfl,HE f k⟩;exact aaa t f n (k+1)
theorem Tb (t:aw Slot)(f:F4)(h:findF t f>=0):∃m:Nat,findF t f=(m:Int)/\m<t.length:=by
 unfold findF at h⊢;cases ht:sG t with
 |false=>rw[ht]at h;simp at h
 |true=>
  rw[ht]at h;simp only[ah]at h⊢;have h8:t.length=8:=by simp only[sG,ae,bm]at ht;exact ht.1
  rcases aaa t f 8 0 with g|⟨m,g,hm⟩;omega;exact⟨m,g,by omega⟩
def xA (f:Filter)(p:aI):Bool:=eV f&&(((p.1==f.1)||((p.1==281474976710655)||f.2.1))&&((p.2.2.1== -1)||hasB f.2.2 p.2.2.1))
theorem TG (f:Filter)(p:aI)(h:f.2.2.length<=1000000000):yu f p=some (xA f p):=by simp only[yu,qE f h,yt f.2.2 _ h,ab,xA];cases eV f<;>cases p.1==f.1<;>cases p.1==281474976710655<;>cases f.2.1<;>cases p.2.2.1== -1<;>rfl
def preB (a b n:Int):Bool:=Int.fdiv a (2^(min (Int.toNat (ar (32-n))) (IntKind.bits .i64)))==Int.fdiv b (2^(min (Int.toNat (ar (32-n))) (IntKind.bits .i64)))
theorem aca {r:mA}(h:AX r=true):0<=r.2.2.2.1/\r.2.2.2.1<=32:=by rw[<-aW];unfold AX at h;simp only[my,dR,ab,bM]at h;cases hp:cX r.2.2.2.1 0 32 with|true=>rfl|false=>rw[hp]at h;revert h;cases cX r.1 0 1000<;>cases r.2.1 !=0<;>cases r.2.1 !=6<;>cases r.2.1 !=17<;>cases cX r.2.2.1 0 4294967295<;>simp
def aim (r:mA)(p:aI):Bool:=preB r.2.2.1 p.2.2.2.2.2.2.1 r.2.2.2.1&&(cX p.2.2.2.2.2.2.2.2.2.2.1 r.2.2.2.2.1 r.2.2.2.2.2.1&&((r.2.2.2.2.2.2.1== -2)||(r.2.2.2.2.2.2.1==p.2.2.1)))
def Ik (r:mA)(p:aI):Bool:=AX r&&(dG p&&(((r.2.1==0)||(r.2.1==p.2.2.2.2.2.2.2.2.1))&&aim r p))
theorem ahc (a b n:Int)(h0:0<=n)(h1:n<=32):pg a b n=some (preB a b n):=by unfold pg preB;rw[aD (by rw[ak (n:=32-n)];omega),aD (by rw[ak (n:=32-n)];omega)]
theorem aa2 (r:mA)(p:aI):ru r p=some (Ik r p):=by
 unfold ru Ik;rw[adZ,ab];cases hr:AX r with|false=>rfl|true=>?_
 have hp:=aca hr;simp only[lI,ahc _ _ _ hp.1 hp.2,cn,ab,aim];cases dG p<;>cases r.2.1==0<;>cases r.2.1==p.2.2.2.2.2.2.2.2.1<;>cases preB r.2.2.1 p.2.2.2.2.2.2.1 r.2.2.2.1<;>cases cX p.2.2.2.2.2.2.2.2.2.2.1 r.2.2.2.2.1 r.2.2.2.2.2.1<;>cases r.2.2.2.2.2.2.1== -2<;>rfl
def Ju:mA:=(0,0,0,0,0,0,0,0,0)
def zB (l:aw mA)(p:aI):Nat->Int
 |0=> -1
 |i+1=>bif Ik (l.getD i Ju) p&&(decide (zB l p i<0)||decide ((l.getD i Ju).1<(l.getD (zB l p i).toNat Ju).1)) then(i:Int) else zB l p i
theorem KH (l:aw mA)(p:aI):∀i,zB l p i= -1\/∃n:Nat,zB l p i=(n:Int)/\n<i
 |0=> .inl rfl
 |i+1=>by rw[zB];cases Ik (l.getD i Ju) p&&(decide (zB l p i<0)||decide ((l.getD i Ju).1<(l.getD (zB l p i).toNat Ju).1))with|true=>exact .inr ⟨i,rfl,by omega⟩|false=>rcases KH l p i with h|⟨n,h,hn⟩;exact .inl h;exact .inr ⟨n,h,by omega⟩
theorem aan (l:aw mA)(p:aI)(i:Nat)(hi:i<l.length)(nx:Int×Int->az R): (aa (cond (Ik l[i] p) (cond (decide (zB l p i<0)) (some true) (aa (idx l (zB l p i)) λx4=>some (decide (l[i].1<x4.1)))) (some false)) λq5=>cond q5 (nx ((i:Int),((i+1:Nat):Int))) (nx (zB l p i,((i+1:Nat):Int))))=nx (zB l p (i+1),((i+1:Nat):Int)):=by
 rw[zB,cG hi];cases Ik l[i] p with|false=>rfl|true=>?_
 rcases KH l p i with h|⟨n,h,hn⟩;rw[h];rfl;have hl:n<l.length:=by omega
 rw[h,aq (show¬(n:Int)<0 by omega),bu hl];simp only[ah,af,ab,ax,cG hl,bq,cP];cases decide (l[i].1<l[n].1)<;>rfl
def EL (l:aw mA)(p:aI):Int:=bif yh l then zB l p l.length else-1
theorem Tc (l:aw mA)(p:aI)(h:EL l p>=0):∃n:Nat,EL l p=(n:Int)/\n<l.length:=by unfold EL at h⊢;cases hr:yh l with|false=>rw[hr]at h;simp at h|true=>rw[hr]at h;simp only[ah]at h⊢;rcases KH l p l.length with g|g;omega;exact g
theorem aaZ (l:aw mA)(p:aI)(h:l.length<=1000000000):wV l p=some (EL l p):=by
 unfold wV EL;rw[OJ l h,ab];cases yh l with|false=>rfl|true=>?_
 simp only[aj,af,ah];refine dz (λi=>(zB l p i,(i:Int))) l.length (by omega) (λi nx hi=>?_) (λnx=>?_);simp only[rk];rw[jz,bu hi,ak (n:=(i:Int)+1)];simp only[ah,ab,aa2];exact aan l p i hi nx;simp only[rk];rw[iw];rfl
def mB (p:aI):F4:=(p.2.2.2.2.2.2.2.2.1,p.2.2.2.2.2.2.1,p.2.2.2.2.2.2.2.1,p.2.2.2.2.2.2.2.2.2.1,p.2.2.2.2.2.2.2.2.2.2.1)
theorem LZ (p:aI):uy p=some (mB p):=rfl
def as5:Slot:=(0,(0,0,0,0,0),0)
def sF (s:dJ)(q:Int)(p:aI):Int:=
 bif !fb s q|| !dG p then-1 else
 bif decide (EL s.1 p>=0) then(bif (s.1.getD (EL s.1 p).toNat Ju).2.2.2.2.2.2.2.1==1 then-1 else(s.1.getD (EL s.1 p).toNat Ju).2.2.2.2.2.2.2.2) else
 bif decide (findF s.2.1 (mB p)>=0) then(s.2.1.getD (findF s.2.1 (mB p)).toNat as5).2.2 else Ku s.2.2 q (mB p)
theorem abb (s:dJ)(q:Int)(p:aI)(h1:s.1.length<=1000000000)(h2:s.2.1.length<=1000000000)(h3:s.2.2.2.length<=1000000000):rA s q p=some (sF s q p):=by
 unfold rA sF;rw[GN s q h1 h2 h3,ab,lI,ab];cases fb s q with|false=>rfl|true=>?_
 cases dG p with|false=>rfl|true=>?_
 simp only[aj,af,ab,cz,aaZ s.1 p h1,LZ,Rm s.2.1 _ h2,TY s.2.2 q _ h3];cases hd:decide (EL s.1 p>=0)with
 |true=>obtain⟨n,hn,hl⟩:=Tc s.1 p (bB hd);simp only[ah,hn,bu hl,ab,ax,cG hl];cases s.1[n].2.2.2.2.2.2.2.1==1<;>rfl
 |false=>
  simp only[af];cases hd2:decide (findF s.2.1 (mB p)>=0)with
  |true=>obtain⟨n,hn,hl⟩:=Tb s.2.1 (mB p) (bB hd2);simp only[ah,hn,bu hl,ab,ax,cG hl]
  |false=>rfl
def aaj (a b:Int):Int:=(mw a b).getD 0
theorem Kr (a b:Int):mw a b=some (aaj a b):=by
 unfold aaj;have:∃x,mw a b=some x:=by simp only[mw,dR,ab];cases cX a 0 65535<;>cases cX b 0 65535<;>cases decide (ar (a+b)>65535)<;>exact⟨_,rfl⟩
 obtain⟨x,hx⟩:=this;rw[hx];rfl
theorem TH (a b:Int):yv a b=some (aaj a b):=Kr a b
theorem agC {a b:Int}(h:0<=a/\a<=65535)(k:0<=b/\b<=65535):0<=aaj a b/\aaj a b<=65535:=by have e:=Kr a b;simp only[mw,dR,ab,aW.2 h,aW.2 k,aj,af]at e;rw[ak (n:=a+b)]at e;by_cases hc:a+b>65535;rw[au hc,ah,ak]at e;rw[<-cc e];omega;rw[aq hc,af]at e;rw[<-cc e];omega
def sw (s:Bytes):Nat->Int
 |0=>0
 |j+1=>aaj (sw s j) ((bX s (2*j)*256+bX s (2*j+1):Nat):Int)
theorem ae3 (s:Bytes):∀j,0<=sw s j/\sw s j<=65535
 |0=>by simp[sw]
 |j+1=>by have b0:=eE s (2*j);have b1:=eE s (2*j+1);exact agC (ae3 s j) (by omega)
theorem Fo (h:s.length<=i:=by omega):bX s i=0:=by unfold bX;rw[bN,bG h];rfl
theorem ahZ (s:Bytes)(h:s.length<=1000000000):xr s=some (sw s ((s.length+1)/2)):=by
 unfold xr;refine dz (λj=>(sw s j,((2*j:Nat):Int))) ((s.length+1)/2) (by omega) (λj nx hj=>?_) (λnx=>?_);have b0:=eE s (2*j);have b1:=eE s (2*j+1);obtain⟨x,hx,ex⟩:=lY (s:=s) (i:=2*j);simp only[sa];rw[jz,ah,hx,ab,nf,ak (n:=((2*j:Nat):Int)+1),ak (n:=((2*j:Nat):Int)+2),ex,je];have e8:sH 8=8:=rfl;have en:((2*j:Nat):Int)+2=((2*(j+1):Nat):Int):=by omega
 rw[e8,ak (n:=((bX s (2*j):Nat):Int)*2^8)];by_cases hc:2*j+1<s.length;obtain⟨y,hy,ey⟩:=lY (s:=s) (i:=2*j+1) hc;rw[jz,ah,show((2*j:Nat):Int)+1=((2*j+1:Nat):Int) by omega,hy,ab,ey,je (n:=bX s (2*j+1)),ak,Kr,ab,en,show((bX s (2*j):Nat):Int)*2^8+((bX s (2*j+1):Nat):Int)=((bX s (2*j)*256+bX s (2*j+1):Nat):Int) by omega];rfl;have hz:=Fo (s:=s) (i:=2*j+1);rw[iw,af,Kr,ab,en,show((bX s (2*j):Nat):Int)*2^8=((bX s (2*j)*256+bX s (2*j+1):Nat):Int) by rw[hz];omega];rfl;simp only[sa];rw[iw];rfl
theorem ahd (s:Bytes)(h:s.length<=1000000000):xe s=some (sw s ((s.length+1)/2)):=by
 unfold xe;refine dz (λj=>(sw s j,((2*j:Nat):Int))) ((s.length+1)/2) (by omega) (λj nx hj=>?_) (λnx=>?_);have b0:=eE s (2*j);have b1:=eE s (2*j+1);obtain⟨x,hx,ex⟩:=lY (s:=s) (i:=2*j);simp only[rD];rw[jz,ah,hx,ab,nf,ak (n:=((2*j:Nat):Int)+1),ak (n:=((2*j:Nat):Int)+2),ex,je];have e8:sH 8=8:=rfl;have en:((2*j:Nat):Int)+2=((2*(j+1):Nat):Int):=by omega
 rw[e8,show((bX s (2*j):Nat):Int)*2^8=((2^8*bX s (2*j):Nat):Int) by omega,je (n:=2^8*bX s (2*j))];by_cases hc:2*j+1<s.length;obtain⟨y,hy,ey⟩:=lY (s:=s) (i:=2*j+1) hc;rw[jz,ah,show((2*j:Nat):Int)+1=((2*j+1:Nat):Int) by omega,hy,ab,ey,je (n:=bX s (2*j+1)),FP (bX s (2*j)) 8 (bX s (2*j+1)),TH,ab,en,show 2^8*bX s (2*j)+bX s (2*j+1)=bX s (2*j)*256+bX s (2*j+1) by omega];rfl;have hz:=Fo (s:=s) (i:=2*j+1);rw[iw,af,TH,ab,en,show((2^8*bX s (2*j):Nat):Int)=((bX s (2*j)*256+bX s (2*j+1):Nat):Int) by rw[hz];omega];rfl;simp only[rD];rw[iw];rfl
def N8 (s:Bytes):Int:=65535-sw s ((s.length+1)/2)
theorem RY (s:Bytes)(h:s.length<=1000000000):pM s=some (N8 s):=by have:=ae3 s ((s.length+1)/2);simp only[pM,ahZ s h,ab];rw[ak];rfl
theorem Km (s:Bytes)(h:s.length<=1000000000):jt s=some (N8 s):=by have:=ae3 s ((s.length+1)/2);simp only[jt,ahd s h,ab];rw[ak];rfl
def wx (s:Bytes)(a:Int)(p:Bytes):Bytes:=bif ft s a (p.length:Int) then(s.take a.toNat++p)++s.drop (a.toNat+p.length) else s
theorem Ac (s:Bytes)(a:Int)(p:Bytes):(wx s a p).length=s.length:=by unfold wx;cases hw:ft s a (p.length:Int)with|false=>rfl|true=>simp only[ft,aH]at hw;simp only[ah,ai,aV,aK];omega
theorem Vg (s:Bytes)(a:Int)(p:Bytes)(h:s.length<=1000000000)(hw:ft s a (p.length:Int)=true): (aa (sub s 0 a) λx2=>room (List.length x2+List.length p) (aa (sub s (ar (a+((List.length p:Int)))) ((List.length s:Int))) λx3=>room (List.length (x2++p)+List.length x3) (some ((x2++p)++x3))))=some (wx s a p):=by
 have hw':=hw;simp only[ft,aH]at hw';obtain⟨n,rfl⟩:=aR hw'.1;have e1:sub s 0 (n:Int)=some (s.take n):=by unfold sub;rw[zip];rfl
 have e2:sub s (((n+p.length:Nat):Int)) (s.length:Int)=some (s.drop (n+p.length)):=by unfold sub;rw[zip,ax,ax,cO]
 rw[e1,ak,show(n:Int)+(p.length:Int)=((n+p.length:Nat):Int) by omega,e2,ab,aQ (by simp only[aV];omega),ab,aQ (by simp only[ai,aV,aK];omega)];unfold wx;rw[hw];rfl
theorem Ks (s:Bytes)(a:Int)(p:Bytes)(h:s.length<=1000000000:=by omega):jy s a p=some (wx s a p):=by unfold jy;rw[DY s a _ h,ab];cases hw:ft s a (p.length:Int)with|false=>simp only[bz,ah,wx,hw,af]|true=>exact Vg s a p h hw
theorem Ce (s:Bytes)(a:Int)(p:Bytes)(h:s.length<=1000000000:=by omega)(hp:p.length<=1000000000:=by omega):ga s a p=some (wx s a p):=by
 unfold ga;rw[ak (n:=(s.length:Int)-(p.length:Int))];cases hw:ft s a (p.length:Int)with
 |true=>have hw':=hw;simp only[ft,aH]at hw';rw[aq (show¬a<0 by omega),aq (show¬a>(s.length:Int)-(p.length:Int) by omega)];exact Vg s a p h hw
 |false=>
  have hp:wx s a p=s:=by unfold wx;rw[hw];rfl
  rw[hp];simp only[ft,cY]at hw;by_cases h0:a<0;rw[au h0];rfl;rw[aq h0,au (show a>(s.length:Int)-(p.length:Int) by omega)];rfl
def bs2 (x y:Int):Bytes:=aL [x,y]
theorem PX (x y:Int):(bs2 x y).length=2:=rfl
def yF (a b k n:Int):Bool:=cX a 0 4294967295&&(cX b 0 4294967295&&(cX k 0 255&&cX n 0 65535))
def wv (a b k n:Int):Bytes:=((gk a++gk b)++bs2 0 (gG k))++cm n
theorem IA (a b k n:Int):(wv a b k n).length<=12:=by have:=dS a;have:=dS b;have:=bS n;simp only[wv,ai,PX];omega
theorem FV (a b k n:Int):mx a b k n=some (bif yF a b k n then(wv a b k n,true) else([],false)):=by
 have:=dS a;have:=dS b;have:=bS n;unfold mx yF;simp only[dR,ab,mG,oL];cases cX a 0 4294967295 with|false=>rfl|true=>?_
 cases cX b 0 4294967295 with|false=>rfl|true=>?_
 cases cX k 0 255 with|false=>rfl|true=>?_
 cases cX n 0 65535 with|false=>rfl|true=>?_
 simp only[aj,af,cE,ah,ab];have e:(aL [0,gG k]).length=2:=rfl;rw[aQ,aQ (by simp only[ai,e];omega),aQ (by simp only[ai,e];omega)];rfl
theorem L3 (a b k n:Int):qh a b k n=some (bif yF a b k n then(wv a b k n,true) else([],false)):=FV a b k n
def bare (g:fO):Bytes:=bif g.1==6 then
    (((((cm g.2.1++cm g.2.2.1)++gk g.2.2.2.1)++gk g.2.2.2.2.1)++bs2 80 (gG g.2.2.2.2.2.1))++cm g.2.2.2.2.2.2.1)++gk 0++g.2.2.2.2.2.2.2
 else(((cm g.2.1++cm g.2.2.1)++cm (8+(g.2.2.2.2.2.2.2.length:Int)))++cm 0)++g.2.2.2.2.2.2.2
theorem PU (g:fO):(bare g).length<=20+g.2.2.2.2.2.2.2.length:=by have:=bS g.2.1;have:=bS g.2.2.1;have:=dS g.2.2.2.1;have:=dS g.2.2.2.2.1;have:=bS g.2.2.2.2.2.2.1;have:=dS 0;have:=bS 0;have:=bS (8+(g.2.2.2.2.2.2.2.length:Int));unfold bare;cases g.1==6<;>simp only[ah,af,ai,PX]<;>omega
theorem acN:cm 0++cm 0=gk 0:=by rfl
theorem adL (g:fO)(h:g.2.2.2.2.2.2.2.length<=1000000):rK g=some (bare g):=by have:=bS g.2.1;have:=bS g.2.2.1;have:=dS g.2.2.2.1;have:=dS g.2.2.2.2.1;have:=bS g.2.2.2.2.2.2.1;have:=bS 0;have:=bS (8+(g.2.2.2.2.2.2.2.length:Int));have e:∀x,(aL [80,gG x]).length=2:=λ_=>rfl;unfold rK bare;rw[ak (n:=8+(g.2.2.2.2.2.2.2.length:Int))];simp only[kU,ue,ab];rw[aQ];cases g.1==6 with|true=>simp only[ah];rw[aQ (by simp only[ai,e];omega),aQ (by simp only[ai,e];omega),aQ (by simp only[ai,e];omega),aQ (by simp only[ai,e];omega),aQ (by simp only[ai,e];omega),aQ (by simp only[ai,e];omega),aQ (by simp only[ai,e];omega)];rw[<-acN];simp only[bs2,aZ]|false=>simp only[af];rw[aQ (by simp only[ai];omega),aQ (by simp only[ai];omega),aQ (by simp only[ai];omega)]
def ZX (a b:Int)(g:fO):Int:=bif (N8 (wv a b g.1 ((bare g).length:Int)++bare g)==0)&&(g.1==17) then 65535 else N8 (wv a b g.1 ((bare g).length:Int)++bare g)
def ZM (a b:Int)(g:fO):Bytes:=wx (bare g) (bif g.1==6 then 16 else 6) (cm (ZX a b g))
def MN (a b:Int)(g:fO):Bool:=td g&&yF a b g.1 ((bare g).length:Int)
def DU (a b:Int)(g:fO):Bytes×Bool:=bif MN a b g then(ZM a b g,true) else([],false)
theorem DT {g:fO}(h:td g=true):g.2.2.2.2.2.2.2.length<=320:=by simp only[td,ae,aJ,cY]at h;omega
theorem VG (a b:Int)(g:fO):qq a b g=some (DU a b g):=by
 unfold qq DU MN;rw[ZT,ab];cases hg:td g with|false=>rfl|true=>?_
 have hb:=DT hg;have hl:=PU g;have hp:=IA a b g.1 ((bare g).length:Int);have:=bS g.2.1;have:=bS g.2.2.1;have:=dS g.2.2.2.1;have:=dS g.2.2.2.2.1;have:=bS g.2.2.2.2.2.2.1;have:=dS 0;have:=bS 0;have:=bS (8+(g.2.2.2.2.2.2.2.length:Int));have e:∀x,(aL [80,gG x]).length=2:=λ_=>rfl;rw[ak (n:=8+(g.2.2.2.2.2.2.2.length:Int))];simp only[oL,mG,ab,aj,af,bq];rw[aQ];cases h6:g.1==6 with
 |true=>
  have hbare:bare g=(((((cm g.2.1++cm g.2.2.1)++gk g.2.2.2.1)++gk g.2.2.2.2.1)++aL [80,gG g.2.2.2.2.2.1])++cm g.2.2.2.2.2.2.1)++gk 0++g.2.2.2.2.2.2.2:=by unfold bare;rw[h6];rfl
  simp only[ah];rw[aQ (by simp only[ai,e];omega),aQ (by simp only[ai,e];omega),aQ (by simp only[ai,e];omega),aQ (by simp only[ai,e];omega),aQ (by simp only[ai,e];omega),aQ (by simp only[ai,e];omega),<-hbare,FV,ab];cases yF a b g.1 ((bare g).length:Int)with|false=>rfl|true=>?_
  simp only[ah,aj,af];rw[aQ,RY _ (by simp only[ai];omega)];simp only[ab,bM,Ks _ _ _ (show(bare g).length<=1000000000 by omega),ZM,ZX,h6,ah,cF];cases (N8 (wv a b g.1 ((bare g).length:Int)++bare g)==0)&&(g.1==17)<;>rfl
 |false=>
  have hbare:bare g=(((cm g.2.1++cm g.2.2.1)++cm (8+(g.2.2.2.2.2.2.2.length:Int)))++cm 0)++g.2.2.2.2.2.2.2:=by unfold bare;rw[h6];rfl
  simp only[af];rw[aQ (by simp only[ai];omega),aQ (by simp only[ai];omega),aQ (by simp only[ai];omega),<-hbare,FV,ab];cases yF a b g.1 ((bare g).length:Int)with|false=>rfl|true=>?_
  simp only[ah,aj,af];rw[aQ,RY _ (by simp only[ai];omega)];simp only[ab,bM,Ks _ _ _ (show(bare g).length<=1000000000 by omega),ZM,ZX,h6,af,cF];cases (N8 (wv a b g.1 ((bare g).length:Int)++bare g)==0)&&(g.1==17)<;>rfl
theorem Dw (a b:Int)(g:fO):jK a b g=some (DU a b g):=by
 unfold jK DU MN;rw[Zo,ab];cases hg:td g with|false=>rfl|true=>?_
 have hb:=DT hg;have hl:=PU g;have hp:=IA a b g.1 ((bare g).length:Int);have hsp:fN g.1=some (bif g.1==6 then 16 else 6):=by unfold fN;rw[bM]
 have w1:=bS 65535;have w2:=bS (N8 (wv a b g.1 ((bare g).length:Int)++bare g));simp only[adL g (by omega),L3,ab,aj,af,bq];cases yF a b g.1 ((bare g).length:Int)with|false=>rfl|true=>?_
 simp only[ah,aj,af];rw[aQ,Km _ (by simp only[ai];omega)];simp only[ab,bM,hsp,kU,Ce _ _ _ (show(bare g).length<=1000000000 by omega) (show(cm 65535).length<=1000000000 by omega),Ce _ _ _ (show(bare g).length<=1000000000 by omega) (show(cm (N8 (wv a b g.1 ((bare g).length:Int)++bare g))).length<=1000000000 by omega),ZM,ZX,cF];rw[Bool.and_comm];cases (N8 (wv a b g.1 ((bare g).length:Int)++bare g)==0)&&(g.1==17)<;>rfl
theorem ahR (a b:Int)(g:fO):(DU a b g).1.length<=340:=by unfold DU;cases h:MN a b g with|false=>exact cf _|true=>simp only[MN,ae]at h;have:=DT h.1;have:=PU g;show(wx _ _ _).length<=340;rw[Ac];omega
def Xk (d:Ip):Bool:=cX d.1 0 255&&(cX d.2.2.1 0 255&&(cX d.2.2.2.1 0 255&&(cX d.2.1 0 65535&&(cX d.2.2.2.2.1 0 4294967295&&(cX d.2.2.2.2.2.1 0 4294967295&&decide ((d.2.2.2.2.2.2.length:Int)<=380))))))
theorem VA (d:Ip):EB d=some (Xk d):=by simp only[EB,dR,ab,bM,cF,Xk]
theorem adS (d:Ip):H7 d=some (Xk d):=VA d
def L8 (d:Ip):Bytes:=((((((bs2 69 (gG d.1)++cm (20+(d.2.2.2.2.2.2.length:Int)))++cm d.2.1)++cm 16384)++bs2 (gG d.2.2.1) (gG d.2.2.2.1))++cm 0)++gk d.2.2.2.2.1)++gk d.2.2.2.2.2.1
theorem L9 (d:Ip):(L8 d).length<=20:=by have:=bS (20+(d.2.2.2.2.2.2.length:Int));have:=bS d.2.1;have:=bS 16384;have:=bS 0;have:=dS d.2.2.2.2.1;have:=dS d.2.2.2.2.2.1;simp only[L8,ai,PX];omega
def L7 (d:Ip):Bytes:=wx (L8 d) 10 (cm (N8 (L8 d)))
theorem Yc (d:Ip):xo d=some (bif Xk d then(L7 d,true) else([],false)):=by
 unfold xo;rw[VA,ab];cases hd:Xk d with|false=>rfl|true=>?_
 have hn:(d.2.2.2.2.2.2.length:Int)<=380:=by simp only[Xk,ae,aH]at hd;omega
 have:=bS (20+(d.2.2.2.2.2.2.length:Int));have:=bS d.2.1;have:=bS 16384;have:=bS 0;have:=dS d.2.2.2.2.1;have:=dS d.2.2.2.2.2.1;have hl:=L9 d;have e:∀x y,(aL [x,y]).length=2:=λ_ _=>rfl;rw[ak (n:=20+(d.2.2.2.2.2.2.length:Int))];simp only[oL,mG,ab,aj,af,ah];rw[aQ (by simp only[ai,e];omega),aQ (by simp only[ai,e];omega),aQ (by simp only[ai,e];omega),aQ (by simp only[ai,e];omega),aQ (by simp only[ai,e];omega),aQ (by simp only[ai,e];omega),aQ (by simp only[ai,e];omega)];have hp:((((((aL [69,gG d.1]++cm (20+(d.2.2.2.2.2.2.length:Int)))++cm d.2.1)++cm 16384)++aL [gG d.2.2.1,gG d.2.2.2.1])++cm 0)++gk d.2.2.2.2.1)++gk d.2.2.2.2.2.1=L8 d:=rfl;rw[hp,RY _ (by omega),ab,Ks _ _ _];rfl
theorem W9 (d:Ip):wZ d=some (bif Xk d then(L7 d,true) else([],false)):=by
 unfold wZ;rw[adS,ab];cases hd:Xk d with|false=>rfl|true=>?_
 have hn:(d.2.2.2.2.2.2.length:Int)<=380:=by simp only[Xk,ae,aH]at hd;omega
 have:=bS (20+(d.2.2.2.2.2.2.length:Int));have:=bS d.2.1;have:=bS 16384;have:=bS 0;have:=dS d.2.2.2.2.1;have:=dS d.2.2.2.2.2.1;have hl:=L9 d;have hw:=bS (N8 (L8 d));have e:∀x y,(aL [x,y]).length=2:=λ_ _=>rfl;rw[ak (n:=20+(d.2.2.2.2.2.2.length:Int))];simp only[kU,ue,ab,aj,af,ah];rw[aQ (by simp only[ai,e];omega),aQ (by simp only[ai,e];omega),aQ (by simp only[ai,e];omega),aQ (by simp only[ai,e];omega),aQ (by simp only[ai,e];omega),aQ (by simp only[ai,e];omega),aQ (by simp only[ai,e];omega)];have hp:((((((aL [69,gG d.1]++cm (20+(d.2.2.2.2.2.2.length:Int)))++cm d.2.1)++cm 16384)++aL [gG d.2.2.1,gG d.2.2.2.1])++cm 0)++gk d.2.2.2.2.1)++gk d.2.2.2.2.2.1=L8 d:=rfl;rw[hp,Km _ (by omega),ab,Ce _ _ _];rfl
def V2 (d:Ip):Bytes×Bool:=bif Xk d then(L7 d++d.2.2.2.2.2.2,true) else([],false)
theorem Ia (d:Ip):(L7 d).length<=20:=by unfold L7;rw[Ac];exact L9 d
theorem am6 (d:Ip):yG d=some (V2 d):=by
 unfold yG V2;rw[Yc,ab];cases hd:Xk d with|false=>rfl|true=>?_
 have hn:(d.2.2.2.2.2.2.length:Int)<=380:=by simp only[Xk,ae,aH]at hd;omega
 have:=Ia d;simp only[ah,aj,af];rw[aQ]
theorem adR (d:Ip):uU d=some (V2 d):=by
 unfold uU V2;rw[W9,ab];cases hd:Xk d with|false=>rfl|true=>?_
 have hn:(d.2.2.2.2.2.2.length:Int)<=380:=by simp only[Xk,ae,aH]at hd;omega
 have:=Ia d;simp only[ah,aj,af];rw[aQ]
def vZ (n:Nat):Bytes:=aL (List.replicate n (0:Int))
theorem EF (n:Nat):(vZ n).length=n:=by simp[vZ,aL]
theorem MT (n:Nat)(h:n<=1000000000:=by omega):gv (n:Int) 0=some (vZ n):=by unfold gv;rw[zip,aQ (by rw[ax];omega),ax];refine dz (λi=>(List.replicate n (0:Int),(i:Int))) n (by omega) (λi nx hi=>?_) (λnx=>?_);simp only[pq];rw[jz,bu (by simpa using hi),ak];simp only[ah,ab,ax,List.set_replicate_self];rfl;simp only[pq];rw[iw];rfl
theorem Zn (n:Nat)(h:n<=1000000000:=by omega):oc 0 (n:Int)=some (vZ n):=by unfold oc;rw[zip,aQ (by rw[ax];omega),ax];refine dz (λi=>(List.replicate n (0:Int),(i:Int))) n (by omega) (λi nx hi=>?_) (λnx=>?_);simp only[vA];rw[au (by simp;omega),bu (by simpa using hi),ak];simp only[ah,ab,ax,List.set_replicate_self];rfl;simp only[vA];rw[aq (by simp)];rfl
def pad (s:Bytes):Bytes:=if s.length<46 then s++vZ (46-s.length) else s
theorem RH (s:Bytes):(pad s).length=max 46 s.length:=by unfold pad;split;simp only[ai,EF];omega;omega
theorem ahY (s:Bytes)(h:s.length<=1000000000):yJ s=some (pad s):=by unfold yJ pad;by_cases hc:s.length<46;rw[jz,aE hc,ak,show(46:Int)-(s.length:Int)=((46-s.length:Nat):Int) by omega,MT _];simp only[ah,ab];rw[aQ (by rw[EF];omega)];rw[iw,aD hc];rfl
theorem ahb (s:Bytes)(h:s.length<=1000000000):yz s=some (pad s):=by unfold yz pad;by_cases hc:s.length<46;rw[iw,aE hc,ak,show(46:Int)-(s.length:Int)=((46-s.length:Nat):Int) by omega,Zn _];simp only[af,ab];rw[aQ (by rw[EF];omega)];rw[jz,aD hc];rfl
def sL (e:PM):Bool:=cX e.1 0 281474976710655&&(cX e.2.1 0 281474976710655&&(cX e.2.2.1 (-1) 4095&&(cX e.2.2.2.1 1536 65535&&((e.2.2.2.1 !=33024)&&cX (e.2.2.2.2.length:Int) 46 400))))
theorem Pm (e:PM):Cv e=some (sL e):=by simp only[Cv,dR,ab,bM,cF,sL]
theorem OE (e:PM):zS e=some (sL e):=Pm e
def Zt (a:Int):Bytes:=(iY a).getD []
theorem AZ (a:Int):iY a=some (Zt a)/\(Zt a).length<=6:=by
 have h:∃x,iY a=some x/\x.length<=6:=by unfold iY;rw[nf];simp only[oL,mG,ab];have h1:=bS (Int.fdiv a (2^(sH 32)));have h2:=dS (ar (BitVec.toNat (gX a&&&gX 4294967295)));rw[aQ];exact⟨_,rfl,by simp only[ai];omega⟩
 obtain⟨x,hx,hl⟩:=h;unfold Zt;rw[hx];exact⟨rfl,hl⟩
theorem aha (a:Int):xf a=some (Zt a):=(AZ a).1
def Og (e:PM):Bytes:=(bif decide (e.2.2.1>=0) then(((Zt e.1++Zt e.2.1)++cm 33024)++cm e.2.2.1) else Zt e.1++Zt e.2.1)++cm e.2.2.2.1++e.2.2.2.2
theorem adq (e:PM):(Og e).length<=18+e.2.2.2.2.length:=by have:=(AZ e.1).2;have:=(AZ e.2.1).2;have:=bS 33024;have:=bS e.2.2.1;have:=bS e.2.2.2.1;unfold Og;cases decide (e.2.2.1>=0)<;>simp only[ah,af,ai]<;>omega
def S3 (e:PM):Bytes×Bool:=bif sL e then(Og e,true) else([],false)
theorem ahW (e:PM):xk e=some (S3 e):=by
 unfold xk S3;rw[Pm,ab];cases he:sL e with|false=>rfl|true=>?_
 have hn:(e.2.2.2.2.length:Int)<=400:=by simp only[sL,ae,aW]at he;omega
 have:=(AZ e.1).2;have:=(AZ e.2.1).2;have:=bS 33024;have:=bS e.2.2.1;have:=bS e.2.2.2.1;simp only[(AZ _).1,oL,ab,aj,af,ah,Og];rw[aQ];cases decide (e.2.2.1>=0)with|true=>simp only[ah];rw[aQ (by simp only[ai];omega),aQ (by simp only[ai];omega),aQ (by simp only[ai];omega),aQ (by simp only[ai];omega)]|false=>simp only[af];rw[aQ (by simp only[ai];omega),aQ (by simp only[ai];omega)]
theorem ag9 (e:PM):wQ e=some (S3 e):=by
 unfold wQ S3;rw[OE,ab];cases he:sL e with|false=>rfl|true=>?_
 have hn:(e.2.2.2.2.length:Int)<=400:=by simp only[sL,ae,aW]at he;omega
 have:=(AZ e.1).2;have:=(AZ e.2.1).2;have:=bS 33024;have:=bS e.2.2.1;have:=bS e.2.2.2.1;simp only[aha,kU,ab,aj,af,ah,Og];rw[aQ];cases decide (e.2.2.1>=0)with|true=>simp only[ah];rw[aQ,aQ (by simp only[ai];omega),aQ (by simp only[ai];omega),aQ (by simp only[ai];omega)];simp only[aZ]|false=>simp only[af];rw[aQ (by simp only[ai];omega),aQ (by simp only[ai];omega)]
def ahQ (p:aI):Bytes×Bool:=DU p.2.2.2.2.2.2.1 p.2.2.2.2.2.2.2.1 p.2.2.2.2.2.2.2.2
def ipP (p:aI):Bytes×Bool:=V2 (p.2.2.2.1,p.2.2.2.2.1,p.2.2.2.2.2.1,p.2.2.2.2.2.2.2.2.1,p.2.2.2.2.2.2.1,p.2.2.2.2.2.2.2.1,(ahQ p).1)
def agV (p:aI):Bytes×Bool:=S3 (p.1,p.2.1,p.2.2.1,2048,pad (ipP p).1)
def dI (p:aI):Bytes×Bool:=bif dG p then agV p else([],false)
theorem Rs (p:aI):(ipP p).1.length<=360:=by have h1:=ahR p.2.2.2.2.2.2.1 p.2.2.2.2.2.2.2.1 p.2.2.2.2.2.2.2.2;unfold ipP V2;cases Xk (p.2.2.2.1,p.2.2.2.2.1,p.2.2.2.2.2.1,p.2.2.2.2.2.2.2.2.1,p.2.2.2.2.2.2.1,p.2.2.2.2.2.2.2.1,(ahQ p).1)with|false=>exact cf _|true=>have h2:=Ia (p.2.2.2.1,p.2.2.2.2.1,p.2.2.2.2.2.1,p.2.2.2.2.2.2.2.2.1,p.2.2.2.2.2.2.1,p.2.2.2.2.2.2.2.1,(ahQ p).1);have h3:(ahQ p).1.length<=340:=h1;simp only[ah,ai];omega
theorem acr (p:aI):tO p=some (dI p):=by have hl:=Rs p;unfold tO dI;simp only[Pr,VG,am6,ab];rw[show(V2 (p.2.2.2.1,p.2.2.2.2.1,p.2.2.2.2.2.1,p.2.2.2.2.2.2.2.2.1,p.2.2.2.2.2.2.1,p.2.2.2.2.2.2.2.1,(DU p.2.2.2.2.2.2.1 p.2.2.2.2.2.2.2.1 p.2.2.2.2.2.2.2.2).1))=ipP p from rfl,ahY _ (by omega),ab,ahW];cases dG p<;>rfl
theorem BC (p:aI):gM p=some (dI p):=by have hl:=Rs p;unfold gM dI;simp only[lI,Dw,adR,ab];rw[show(V2 (p.2.2.2.1,p.2.2.2.2.1,p.2.2.2.2.2.1,p.2.2.2.2.2.2.2.2.1,p.2.2.2.2.2.2.1,p.2.2.2.2.2.2.2.1,(DU p.2.2.2.2.2.2.1 p.2.2.2.2.2.2.2.1 p.2.2.2.2.2.2.2.2).1))=ipP p from rfl,ahb _ (by omega),ab,ag9];cases dG p<;>rfl
theorem Ep (h:dG p=true):(dI p).2=true:=by
 have hl:=Rs p;have hh:pY p=true:=by simp only[dG,ae]at h;exact h.1
 have hp:=RH (ipP p).1;unfold dI agV S3;rw[h,ah];have:sL (p.1,p.2.1,p.2.2.1,2048,pad (ipP p).1)=true:=by simp only[pY,ae]at hh;simp only[sL,ae];refine⟨hh.1,hh.2.1,hh.2.2.1,by decide,by decide,aW.2 ?_⟩;omega
 rw[this];rfl
theorem zi (p:aI):(dI p).1.length<=378:=by have hl:=Rs p;have hp:=RH (ipP p).1;unfold dI agV S3;cases dG p with|false=>exact cf _|true=>cases sL (p.1,p.2.1,p.2.2.1,2048,pad (ipP p).1)with|false=>exact cf _|true=>have:=adq (p.1,p.2.1,p.2.2.1,2048,pad (ipP p).1);simp only[ah]at this⊢;omega
def fcs (c:Int):Bytes:=aL [gG c,gG (Int.fdiv c (2^(sH 8))),gG (Int.fdiv c (2^(sH 16))),gG (Int.fdiv c (2^(sH 24)))]
def CH (s:Bytes):Bytes:=s++fcs (IZ s)
theorem agX (c:Int):(fcs c).length=4:=rfl
theorem ahX (s:Bytes)(h:s.length<=1000000000):yO s=some (CH s):=by unfold yO;rw[ZR s h,ab,nf,nf,nf];exact aQ (by show s.length+4<=_;omega)
theorem Zm (s:Bytes)(h:s.length<=1000000000):vr s=some (CH s):=by unfold vr;rw[Zl s h,ab,nf,nf,nf];exact aQ (by show s.length+4<=_;omega)
def eK (p:aI):Bool:=dG p&&decide ((p.2.2.2.2.2.2.2.2.2.2.2.2.2.2.2.length:Int)<=128)
theorem Yd (p:aI):xp p=some (eK p):=by simp only[xp,Pr,ab,bM,cF,eK]
theorem wi (p:aI):ju p=some (eK p):=by simp only[ju,lI,ab,bM,cF,eK]
def uN (p:aI):Bytes×Bool:=bif eK p then(CH (dI p).1,true) else([],false)
theorem acp (p:aI):tN p=some (uN p):=by have hl:=zi p;simp only[tN,Yd,acr,ahX _ (show(dI p).1.length<=1000000000 by omega),ab,uN];cases eK p<;>rfl
theorem OF (p:aI):oW p=some (uN p):=by
 have hl:=zi p;simp only[oW,wi,BC,Zm _ (show(dI p).1.length<=1000000000 by omega),ab,uN];cases hp:eK p with
 |false=>rfl
 |true=>
  have:dG p=true:=by simp only[eK,ae]at hp;exact hp.1
  rw[Ep this];rfl
theorem En (p:aI):(uN p).1.length<=382:=by have hl:=zi p;unfold uN;cases eK p with|false=>exact cf _|true=>simp only[ah,CH,ai,agX];omega
def XP (p:aI)(z:Int)(k:Nat):aI:=
 (p.1,p.2.1,p.2.2.1,p.2.2.2.1,Int.tmod (ar (p.2.2.2.2.1+(k:Int))) 65536,p.2.2.2.2.2.1,p.2.2.2.2.2.2.1,p.2.2.2.2.2.2.2.1,p.2.2.2.2.2.2.2.2.1,p.2.2.2.2.2.2.2.2.2.1,p.2.2.2.2.2.2.2.2.2.2.1,
   Int.tmod (ar (p.2.2.2.2.2.2.2.2.2.2.2.1+((k:Int)*z))) 4294967296,p.2.2.2.2.2.2.2.2.2.2.2.2.1,
   (bif decide (((k:Int)+1)*z<(p.2.2.2.2.2.2.2.2.2.2.2.2.2.2.2.length:Int)) then ar (BitVec.toNat (gX p.2.2.2.2.2.2.2.2.2.2.2.2.2.1&&&~~~ gX 9)) else p.2.2.2.2.2.2.2.2.2.2.2.2.2.1),
   p.2.2.2.2.2.2.2.2.2.2.2.2.2.2.1,(p.2.2.2.2.2.2.2.2.2.2.2.2.2.2.2.take (min ((k+1)*z.toNat) p.2.2.2.2.2.2.2.2.2.2.2.2.2.2.2.length)).drop (k*z.toNat))
def tL (n z:Nat):Nat:=(n+z-1)/z
def FY (p:aI)(z:Int):aw aI:=bif dG p&&cX z 1 128 then
    (bif (p.2.2.2.2.2.2.2.2.1 !=6)||decide ((p.2.2.2.2.2.2.2.2.2.2.2.2.2.2.2.length:Int)<=z) then [p] else(List.range (tL p.2.2.2.2.2.2.2.2.2.2.2.2.2.2.2.length z.toNat)).map (XP p z)) else []
theorem O9 {z k:Nat}(hz:0<z:=by omega):k<tL n z↔k*z<n:=by unfold tL;rw[Nat.lt_div_iff_mul_lt hz];omega
theorem CC (h:dG p=true):p.2.2.2.2.2.2.2.2.2.2.2.2.2.2.2.length<=320:=by
 have hh:pY p=true:=by simp only[dG,ae]at h;exact h.1
 exact DT (zN hh)
theorem acy {k z:Nat}(hk:k*z<b.length)(hb:b.length<=320):sub b ((k*z:Nat):Int) ((min ((k+1)*z) b.length:Nat):Int)=some ((b.take (min ((k+1)*z) b.length)).drop (k*z)):=by have:k*z<=(k+1)*z:=cH _ (by omega);unfold sub;rw[zip,ax,ax]
theorem aba (p:aI)(z:Int):Cg p z=some (FY p z):=by
 unfold Cg FY;simp only[lI,cn,ab];cases hs:dG p with|false=>rfl|true=>?_
 cases hz:cX z 1 128 with|false=>rfl|true=>?_
 have hz':=aW.1 hz;have hb:=CC hs;simp only[aj,af,cE,ah,ab,bM,cT];cases hq:(p.2.2.2.2.2.2.2.2.1 !=6)||decide ((p.2.2.2.2.2.2.2.2.2.2.2.2.2.2.2.length:Int)<=z)with
 |true=>rfl
 |false=>
  simp only[af];obtain⟨m,rfl⟩:=aR (show 0<=z by omega);have hN:∀k,k<tL p.2.2.2.2.2.2.2.2.2.2.2.2.2.2.2.length m↔k*m<p.2.2.2.2.2.2.2.2.2.2.2.2.2.2.2.length:=λk=>O9;have hcap:tL p.2.2.2.2.2.2.2.2.2.2.2.2.2.2.2.length m<=320:=by rcases cq 320 (tL p.2.2.2.2.2.2.2.2.2.2.2.2.2.2.2.length m)with h|h;have:=(hN 320).1 h;have:320*1<=320*m:=Nat.mul_le_mul_left _ (by omega);omega;exact h
  refine dz (λk=>((List.range k).map (XP p (m:Int)),(k:Int))) (tL p.2.2.2.2.2.2.2.2.2.2.2.2.2.2.2.length m) (by omega) (λk nx hk=>?_) (λnx=>?_);have hkm:=(hN k).1 hk;have hk1:(k+1)*m=k*m+m:=by rw[cM,fK]
  have e1:(k:Int)*(m:Int)=((k*m:Nat):Int):=by push_cast;rfl
  have e2:((k:Int)+1)*(m:Int)=(((k+1)*m:Nat):Int):=by push_cast;rfl
  have hsub:=acy hkm hb;simp only[xc];rw[ak (n:=(k:Int)+1),e1,e2,je (n:=k*m),je (n:=(k+1)*m),jz,ah];rw[gJ,ec,List.map_singleton];simp only[XP,e1,e2,ax];by_cases hc:(((k+1)*m:Nat):Int)<(p.2.2.2.2.2.2.2.2.2.2.2.2.2.2.2.length:Int);rw[au hc];rw[show min ((k+1)*m) p.2.2.2.2.2.2.2.2.2.2.2.2.2.2.2.length=(k+1)*m by omega]at hsub⊢;simp only[ah];rw[hsub,ab,nf,nf,aQ (by simp;omega)];rfl;rw[aq hc];rw[show min ((k+1)*m) p.2.2.2.2.2.2.2.2.2.2.2.2.2.2.2.length=p.2.2.2.2.2.2.2.2.2.2.2.2.2.2.2.length by omega]at hsub⊢;simp only[af];rw[hsub,ab,nf,nf,aQ (by simp;omega)];rfl;have hkm:¬tL p.2.2.2.2.2.2.2.2.2.2.2.2.2.2.2.length m*m<p.2.2.2.2.2.2.2.2.2.2.2.2.2.2.2.length:=λh=>absurd ((hN _).2 h) (Nat.lt_irrefl _);have hub:tL p.2.2.2.2.2.2.2.2.2.2.2.2.2.2.2.length m*m<=320*128:=Nat.mul_le_mul hcap (by omega);have e1:((tL p.2.2.2.2.2.2.2.2.2.2.2.2.2.2.2.length m:Nat):Int)*(m:Int)=((tL p.2.2.2.2.2.2.2.2.2.2.2.2.2.2.2.length m*m:Nat):Int):=by push_cast;rfl
  simp only[xc];rw[e1,je,iw];rfl
theorem M3 (p:aI)(z:Int):(FY p z).length<=320:=by
 unfold FY;cases hs:dG p&&cX z 1 128 with|false=>exact cf _|true=>?_
 simp only[ae,aW]at hs;have hb:=CC hs.1;cases (p.2.2.2.2.2.2.2.2.1 !=6)||decide ((p.2.2.2.2.2.2.2.2.2.2.2.2.2.2.2.length:Int)<=z)with|true=>simp only[ah,ba];omega|false=>simp only[ah,af,bP,List.length_range];rcases cq 320 (tL p.2.2.2.2.2.2.2.2.2.2.2.2.2.2.2.length z.toNat)with h|h;have:=(O9).1 h;have:320*1<=320*z.toNat:=Nat.mul_le_mul_left _ (by omega);omega;exact h
def PN (acc:bO)(p:aI):bO:=bif (uN p).2 then acc++[(uN p).1] else acc
theorem Si (acc:bO)(p:aI):(PN acc p).length<=acc.length+1:=by unfold PN;cases (uN p).2<;>simp
def Kl (l:aw aI):bO:=l.foldl PN []
theorem I6:∀(l:aw aI)(acc:bO),(l.foldl PN acc).length<=acc.length+l.length
 |[],acc=>by simp
 |p::l,acc=>by have:=I6 l (PN acc p);have:=Si acc p;simp only[dL,bf];omega
theorem EM:∀(l:aw aI)(acc:bO),(∀x∈acc,x.length<=382)->∀x∈l.foldl PN acc,x.length<=382
 |[],acc,h=>h
 |p::l,acc,h=>by rw[dL];refine EM l _ (λx hx=>?_);unfold PN at hx;cases hf:(uN p).2 with|false=>rw[hf]at hx;exact h x hx|true=>rw[hf]at hx;simp only[ah,ay,bE]at hx;rcases hx with hx|hx;exact h x hx;rw[hx];exact En p
theorem W5 (l:aw aI)(h:l.length<=1000000000):wW l=some (Kl l):=by
 unfold wW Kl;have:=tc (T:=nq (λ(y3:bO) (_:Int)=>some y3) l (l.length:Int)) l (λ(s:bO) i=>(s,(i:Int))) (λi s=>s.length<=i) (λp s=> .ok (PN s p)) (λs=>some s) (by omega) (λi hi s nx hI=>?hs) (λi hi s s' hI hg=>?hn) (λs nx hI=>?hf) [] (by simp)
 case hs=>
  simp only[nq]
  rw[jz,bu hi,ak (n:=(i:Int)+1)]
  simp only[ah,ab,OF,PN]
  rw[aQ (by simp;omega)]
  cases (uN l[i]).2<;>rfl
 case hn=>cases hg;have:=Si s l[i];omega
 case hf=>
  simp only[nq]
  rw[iw];rfl
 rw[Ey]at this;exact this
def Vr (p:aI)(z:Int):bO:=Kl (FY p z)
theorem ad0 (p:aI)(z:Int):tE p z=some (Vr p z):=by have:=M3 p z;simp only[tE,aba,W5 _ (show(FY p z).length<=1000000000 by omega),ab];rfl
theorem ach (p:aI)(z:Int):(Vr p z).length<=320/\∀x∈Vr p z,x.length<=382:=by have:=M3 p z;have:=I6 (FY p z) [];exact⟨by unfold Vr Kl;simp only[dZ]at this;omega,EM _ [] (by simp)⟩
theorem LJ {a:Int}(h0:0<=a:=by omega)(h:a+2<=(s.length:Int):=by omega):0<=de s a/\de s a<=65535:=by have h1:=eE s a.toNat;have h2:=eE s (a.toNat+1);unfold de ft;rw[au ⟨h0,h⟩];simp only[ah];omega
theorem Gv {a:Int}(h0:0<=a:=by omega)(h:a+4<=(s.length:Int):=by omega):0<=eO s a/\eO s a<=4294967295:=by have h1:=eE s a.toNat;have h2:=eE s (a.toNat+1);have h3:=eE s (a.toNat+2);have h4:=eE s (a.toNat+3);unfold eO ft;rw[au ⟨h0,h⟩];simp only[ah];omega
theorem ad9 {x y:Int}(hx:0<=x/\x<=65535)(hy:0<=y/\y<=4294967295):ar (BitVec.toNat (gX (ar (x*2^(sH 32)))|||gX y))=x*4294967296+y:=by have e:(2:Int)^(sH 32)=4294967296:=rfl;obtain⟨x,rfl⟩:=aR hx.1;obtain⟨y,rfl⟩:=aR hy.1;rw[e,ak (n:=(x:Int)*4294967296),show(x:Int)*4294967296=((2^32*x:Nat):Int) by omega,FP x 32 y];omega
theorem CB {l:aw α}{n:Int}(h0:0<=n:=by omega)(h1:n<=(l.length:Int):=by omega):sub l 0 n=some (l.take n.toNat):=by unfold sub;rw[zip];simp
theorem CA {l:aw α}(k:Nat)(h:k<=l.length){a:Int}(ha:a=(k:Int)):sub l a (l.length:Int)=some (l.drop k):=by unfold sub;rw[zip];subst ha;simp
theorem ZW {l:aw α}(k:Nat){a n:Int}(ha:a=(k:Int))(h0:a<=n:=by omega)(h1:n<=(l.length:Int):=by omega):sub l a n=some ((l.take n.toNat).drop k):=by unfold sub;rw[zip];subst ha;simp
def yc (s:Bytes):Bytes×Bool:=bif decide ((s.length:Int)<4) then([],false) else bif CH (s.take ((s.length:Int)-4).toNat)==s then(s.take ((s.length:Int)-4).toNat,true) else([],false)
theorem W2 (s:Bytes)(h:s.length<=1000000000):wR s=some (yc s):=by unfold wR yc;rw[ak (n:=(s.length:Int)-4)];by_cases h4:(s.length:Int)<4;rw[au (show(s.length:Int)-4<0 by omega),au h4];rfl;rw[aq (show¬(s.length:Int)-4<0 by omega),aq h4,CB];simp only[af,ab,Zm _ (show(s.take ((s.length:Int)-4).toNat).length<=1000000000 by rw[aV];omega)];cases CH (s.take ((s.length:Int)-4).toNat)==s<;>rfl
def adp:PM:=(0,0,0,0,([]:Bytes))
def E1 (s:Bytes)(a:Int):Int:=de s a*4294967296+eO s (a+2)
def HS (s:Bytes):PM:=(E1 s 0,E1 s 6,de s 14,de s 16,s.drop 18)
def zE (s:Bytes):PM:=(E1 s 0,E1 s 6, -1,de s 12,s.drop 14)
def gL (s:Bytes):PM×Bool:=bif decide ((s.length:Int)<18) then(adp,false) else
 bif de s 12==33024 then(bif sL (HS s) then(HS s,true) else(adp,false)) else bif sL (zE s) then(zE s,true) else(adp,false)
theorem GI (s:Bytes)(h:s.length<=1000000000):sR s=some (gL s):=by
 unfold sR gL;by_cases h4:(s.length:Int)<14;rw[au h4,au (show(s.length:Int)<18 by omega)];rfl;rw[aq h4];simp only[af,wg s _ h,wh s _ h,ab];rw[nf,nf,CA (l:=s) 14 (by omega) (show(14:Int)=((14:Nat):Int) from rfl),ab];rw[ad9 (LJ (s:=s) (a:=0)) (Gv (s:=s) (a:=2)),ad9 (LJ (s:=s) (a:=6)) (Gv (s:=s) (a:=8))];simp only[ab,OE];rw[show((de s 0*4294967296+eO s 2,de s 6*4294967296+eO s 8, -1,de s 12,s.drop 14):PM)=zE s from rfl];by_cases h8:(s.length:Int)<18;have hB:sL (zE s)=false:=by
  unfold sL zE;have:cX ((s.drop 14).length:Int) 46 400=false:=by rw[Bool.eq_false_iff,ne_eq,aW,aK];omega
  simp only[this,ff]
 rw[au h8,aq (show¬(s.length:Int)>=18 by omega),hB];cases de s 12==33024<;>rfl;rw[aq h8,au (show(s.length:Int)>=18 by omega),CA (l:=s) 18 (by omega) (show(18:Int)=((18:Nat):Int) from rfl)];simp only[ab];rw[show((de s 0*4294967296+eO s 2,de s 6*4294967296+eO s 8,de s 14,de s 16,s.drop 18):PM)=HS s from rfl];cases de s 12==33024<;>cases sL (HS s)<;>cases sL (zE s)<;>rfl
def ip0:Ip:=(0,0,0,0,0,0,([]:Bytes))
def FF (s:Bytes):Ip:=((bX s 1:Int),de s 4,(bX s 8:Int),(bX s 9:Int),eO s 12,eO s 16,(s.take (de s 2).toNat).drop 20)
def oI (s:Bytes):Ip×Bool:=bif decide ((s.length:Int)<20)||(decide (de s 2<20)||decide (de s 2>(s.length:Int))) then(ip0,false) else
 bif (V2 (FF s)).2&&((V2 (FF s)).1==s.take (de s 2).toNat) then(FF s,true) else(ip0,false)
theorem TS (s:Bytes)(h:s.length<=1000000000):yA s=some (oI s):=by
 unfold yA oI;simp only[wg s _ h,wh s _ h,ab];by_cases h1:(s.length:Int)<20;rw[au h1];rfl;by_cases h2:de s 2<20;rw[aq h1,au h2];rfl;by_cases h3:de s 2>(s.length:Int);rw[aq h1,aq h2,au h3];rfl;rw[aq h1,aq h2,aq h3];have b1:=tw (s[1]'(by omega));have b8:=tw (s[8]'(by omega));have b9:=tw (s[9]'(by omega));have i1:idx s 1=some (s[1]'(by omega)):=bu (i:=1) (by omega);have i8:idx s 8=some (s[8]'(by omega)):=bu (i:=8) (by omega);have i9:idx s 9=some (s[9]'(by omega)):=bu (i:=9) (by omega);simp only[af,ab,cz,i1,i8,i9];rw[ZW (l:=s) 20 (show(20:Int)=((20:Nat):Int) from rfl),CB,je (n:=(s[1]'(by omega)).toNat),je (n:=(s[8]'(by omega)).toNat),je (n:=(s[9]'(by omega)).toNat)];have e:(((s[1]'(by omega)).toNat:Int),de s 4,((s[8]'(by omega)).toNat:Int),((s[9]'(by omega)).toNat:Int),eO s 12,eO s 16,(s.take (de s 2).toNat).drop 20)=FF s:=by simp only[FF,bX,cG (show 1<s.length by omega),cG (show 8<s.length by omega),cG (show 9<s.length by omega)]
 simp only[ab,e,adR];cases (V2 (FF s)).2<;>cases (V2 (FF s)).1==s.take (de s 2).toNat<;>rfl
def am3:fO:=(0,0,0,0,0,0,0,([]:Bytes))
def X7 (k:Int)(s:Bytes):fO:=(k,de s 0,de s 2,eO s 4,eO s 8,(bX s 13:Int),de s 14,s.drop 20)
def acg (k:Int)(s:Bytes):fO:=(k,de s 0,de s 2,0,0,0,0,s.drop 8)
def xS (a b k:Int)(s:Bytes):fO×Bool:=
 bif (k==6)&&decide ((s.length:Int)>=20) then(bif (DU a b (X7 k s)).2&&((DU a b (X7 k s)).1==s) then(X7 k s,true) else(am3,false)) else
 bif (k==17)&&decide ((s.length:Int)>=8) then(bif (DU a b (acg k s)).2&&((DU a b (acg k s)).1==s) then(acg k s,true) else(am3,false)) else(am3,false)
theorem Rn (a b k:Int)(s:Bytes)(h:s.length<=1000000000):qg a b k s=some (xS a b k s):=by
 unfold qg xS;simp only[wg s _ h,wh s _ h,ab];rw[show(aa (cond (k==6) (some (decide ((s.length:Int)>=20))) (some false)):(Bool->az (fO×Bool))->az (fO×Bool))=λK=>K ((k==6)&&decide ((s.length:Int)>=20)) from by funext K;cases k==6<;>rfl];rw[show(aa (cond (k==17) (some (decide ((s.length:Int)>=8))) (some false)):(Bool->az (fO×Bool))->az (fO×Bool))=λK=>K ((k==17)&&decide ((s.length:Int)>=8)) from by funext K;cases k==17<;>rfl];simp only;cases h1:(k==6)&&decide ((s.length:Int)>=20)with
 |true=>
  simp only[ae,aH]at h1;have bb:=tw (s[13]'(by omega));have i:idx s 13=some (s[13]'(by omega)):=bu (i:=13) (by omega);have e:(k,de s 0,de s 2,eO s 4,eO s 8,((s[13]'(by omega)).toNat:Int),de s 14,s.drop 20)=X7 k s:=by simp only[X7,bX,cG (show 13<s.length by omega)]
  simp only[ah,i,ab];rw[CA (l:=s) 20 (by omega) (show(20:Int)=((20:Nat):Int) from rfl),je (n:=(s[13]'(by omega)).toNat)];simp only[ab,e,Dw];cases (DU a b (X7 k s)).2<;>cases (DU a b (X7 k s)).1==s<;>rfl
 |false=>simp only[af];cases h2:(k==17)&&decide ((s.length:Int)>=8)with|false=>rfl|true=>simp only[ae,aH]at h2;rw[CA (l:=s) 8 (by omega) (show(8:Int)=((8:Nat):Int) from rfl)];simp only[ah,ab,show((k,de s 0,de s 2,0,0,0,0,s.drop 8):fO)=acg k s from rfl,Dw];cases (DU a b (acg k s)).2<;>cases (DU a b (acg k s)).1==s<;>rfl
def pk0:aI:=(0,0,0,0,0,0,0,0,0,0,0,0,0,0,0,([]:Bytes))
def jP (s:Bytes):aI×Int:=
 let e:=gL s
 bif !e.2||(e.1.2.2.2.1 !=2048) then(pk0,2) else
 let i:=oI e.1.2.2.2.2
 bif !i.2 then(pk0,3) else
 let g:=xS i.1.2.2.2.2.1 i.1.2.2.2.2.2.1 i.1.2.2.2.1 i.1.2.2.2.2.2.2
 bif !g.2 then(pk0,4) else
 bif !dG (e.1.1,e.1.2.1,e.1.2.2.1,i.1.1,i.1.2.1,i.1.2.2.1,i.1.2.2.2.2.1,i.1.2.2.2.2.2.1,g.1) then(pk0,5) else
 ((e.1.1,e.1.2.1,e.1.2.2.1,i.1.1,i.1.2.1,i.1.2.2.1,i.1.2.2.2.2.1,i.1.2.2.2.2.2.1,g.1),0)
theorem G8 (s:Bytes):(gL s).1.2.2.2.2.length<=s.length:=by
 unfold gL;cases decide ((s.length:Int)<18)with|true=>simp[adp]|false=>?_
 cases de s 12==33024<;>cases sL (HS s)<;>cases sL (zE s)<;>simp[adp,HS,zE]
theorem U2 (s:Bytes):(oI s).1.2.2.2.2.2.2.length<=s.length:=by
 unfold oI;cases decide ((s.length:Int)<20)||(decide (de s 2<20)||decide (de s 2>(s.length:Int)))with|true=>simp[ip0]|false=>?_
 cases (V2 (FF s)).2&&((V2 (FF s)).1==s.take (de s 2).toNat)with|false=>simp[ip0]|true=>simp[FF];omega
theorem Es (s:Bytes)(h:s.length<=1000000000):iO s=some (jP s):=by
 have h1:=G8 s;unfold iO jP;rw[GI s h,ab];generalize gL s=e at h1⊢;have h2:=U2 e.1.2.2.2.2;simp only;cases e.2 with|false=>rfl|true=>?_
 cases e.1.2.2.2.1 !=2048 with|true=>rfl|false=>?_
 simp only[aj,af,ab,cz,TS _ (show e.1.2.2.2.2.length<=1000000000 by omega)];generalize oI e.1.2.2.2.2=i at h2⊢;cases i.2 with|false=>rfl|true=>?_
 simp only[aj,af,ab,Rn _ _ _ _ (show i.1.2.2.2.2.2.2.length<=1000000000 by omega)];generalize xS i.1.2.2.2.2.1 i.1.2.2.2.2.2.1 i.1.2.2.2.1 i.1.2.2.2.2.2.2=g;cases g.2 with|false=>rfl|true=>?_
 simp only[aj,af,ab,lI];cases dG (e.1.1,e.1.2.1,e.1.2.2.1,i.1.1,i.1.2.1,i.1.2.2.1,i.1.2.2.2.2.1,i.1.2.2.2.2.2.1,g.1)<;>rfl
def gn (s:Bytes):aI×Int:=
 let c:=yc s
 bif !c.2 then(pk0,1) else
 let r:=jP c.1
 bif r.2 !=0 then(pk0,r.2) else
 bif !eK r.1 then(pk0,5) else(r.1,0)
theorem Wt (s:Bytes):(yc s).1.length<=s.length:=by
 unfold yc;cases decide ((s.length:Int)<4)with|true=>simp|false=>?_
 cases CH (s.take ((s.length:Int)-4).toNat)==s with|false=>simp|true=>simp;omega
theorem H5 (s:Bytes)(h:s.length<=1000000000):nv s=some (gn s):=by
 have h1:=Wt s;unfold nv gn;rw[W2 s h,ab];generalize yc s=c at h1⊢;simp only;cases c.2 with|false=>rfl|true=>?_
 simp only[aj,af,ab,Es _ (show c.1.length<=1000000000 by omega)];generalize jP c.1=r;cases r.2 !=0 with|true=>rfl|false=>?_
 simp only[af,ab,wi];cases eK r.1<;>rfl
theorem gx (a:bO)(h:a.length<=1073741824:=by omega):dy a=some a:=by simp only[dy,gR];rw[aQ (by simpa using h)];rfl
theorem Cl (a:bO)(h:a.length<=1073741824:=by omega):mz a=some a:=by simp only[mz];rw[aQ (by simpa using h)];rfl
theorem lH (l:bO)(h:l.length<=1000000000:=by omega):gR l=some l:=by simp only[gR,lh h,cj]
theorem nj (f:Filter)(h:f.2.2.length<=1000000000):fj f=some f:=by simp only[fj,kA _ h,ab]
theorem Ag (f:Filter)(h:f.2.2.length<=1000000000):vS f=some f:=by simp only[vS,lh h,cj]
theorem yf (l:aw Stream)(h:l.length<=1000000000:=by omega):kM l=some l:=by simp only[kM,lh h,cj]
theorem ND (t:aw Slot)(h:t.length<=1000000000):vw t=some t:=by simp only[vw,lh h,cj]
theorem LY (s:sv)(h:s.2.length<=1000000000):tI s=some s:=by simp only[tI,kA _ h,ab]
theorem NC (s:dJ)(h1:s.1.length<=1000000000)(h2:s.2.1.length<=1000000000)(h3:s.2.2.2.length<=1000000000):qn s=some s:=by simp only[qn,lh h1,ND _ h2,LY _ h3,ab,cj]
theorem NT (t:aw Slot)(h:t.length<=1000000000):yS t=some t:=by simp only[yS,lh h,cj]
theorem E7 (s:dJ)(h1:s.1.length<=1000000000)(h2:s.2.1.length<=1000000000)(h3:s.2.2.2.length<=1000000000):yU s=some s:=by simp only[yU,lh h1,NT _ h2,lh h3,ab,cj]
theorem ack (l:aw oe)(i:Nat)(hi:i<l.length):l.take i++[(l[i].1,l[i].2.1,l[i].2.2)]=l.take (i+1):=(bp hi).symm
theorem GD (l:aw oe)(h:l.length<=1000000000)(hx:∀x∈l,x.2.2.length<=1000000000):sV l=some l:=by unfold sV;refine(dz (λi=>(l.take i,(i:Int))) l.length (by omega) (λi nx hi=>?_) (λnx=>?_));simp only[rN];rw[jz,bu hi,ak];simp only[ah,ab,kA _ (hx _ (aN hi))];rw[aQ (by simp;omega),ack l i hi];rfl;simp only[rN];rw[iw,cO];rfl
structure agz (t:eC):Prop where
 p:t.2.1.2.2.2.length<=1000000000
 w:t.2.2.1.length<=1000000000
 x:∀x∈t.2.2.1,x.2.2.length<=1000000000
theorem FB (t:eC)(z:agz t):qK t=some t:=by simp only[qK,uo _ z.p,GD _ z.w z.x,ab]
theorem aq6 (z:dk 1000000000 dD h):agz h.2.2.1:=⟨z.2.2.1.2.1.2.2.2.1,z.2.2.1.2.2.1.1,λx hx=>(z.2.2.1.2.2.1.2 x hx).2.2.1⟩
theorem js (h:Host)(z:dk 1000000000 dD h):gN h=some h:=by have hp:h.2.2.2.2.1.length<=1000000000:=z.2.2.2.2.1.1;have hm:h.1.length<=1000000000:=z.1.1;unfold gN;simp only[gx _ (show h.1.length<=1073741824 by omega),vu,lh z.2.1.1,FB _ (aq6 z),lh z.2.2.2.1.1,ab,cj];refine(dz (λi=>((i:Int),h.1,h.2.1,h.2.2.1,h.2.2.2.1,h.2.2.2.2.1.take i,h.2.2.2.2.2)) h.2.2.2.2.1.length (by omega) (λi nx hi=>?_) (λnx=>?_));simp only[rM];rw[jz,bu hi,ak];simp only[ah,ab,uo _ (z.2.2.2.2.1.2 _ (aN hi)).2.2.2.1];rw[aQ (by simp;omega),<-bp hi];rfl;simp only[rM];rw[iw,cO];simp only[af,lh z.2.2.2.2.2.1.1,lh z.2.2.2.2.2.2.1.1,nj _ z.2.2.2.2.2.2.2.1.2.2.1,NC _ z.2.2.2.2.2.2.2.2.1.1.1 z.2.2.2.2.2.2.2.2.1.2.1.1 z.2.2.2.2.2.2.2.2.1.2.2.2.1,yf _ z.2.2.2.2.2.2.2.2.2.1.1,lH _ z.2.2.2.2.2.2.2.2.2.2.2.1.1,kA _ z.2.2.2.2.2.2.2.2.2.2.2.2.1.1,kA _ z.2.2.2.2.2.2.2.2.2.2.2.2.2.1.1,ab,cj]
theorem YD:∀l:aw oe,(bJ l).length<=N0 (.sl jZ) l
 |[]=>by simp[bJ]
 |x::l=>by have:=YD l;simp only[bJ,N0,List.flatMap_cons,ai,di,fJ,bf]at this⊢;omega
def atF (f:F4)(s:Stream):Bool:=decide (s.1=f)
def acC (l:aw Stream)(f:F4):Int:=match l.findIdx? (atF f)with|some i=>(i:Int)|none=> -1
theorem ad1 (l:aw Stream)(f:F4)(h:l.length<=1000000000):rC l f=some (acC l f):=by
 unfold rC acC;rw[Ej (p:=atF f) (hit:=λi=>some i) (fin:=some (-1)) l (by omega) (λi hi nx=>?hs) (λnx=>?hf)]
 case hs=>
  simp only[mV]
  rw[jz,bu hi,ak]
  simp only[ah,ab,Kk,atF];rfl
 case hf=>
  simp only[mV]
  rw[iw];rfl
 cases l.findIdx? (atF f)<;>rfl
def Yn:Stream:=((0,0,0,0,0),0,([]:Bytes),false)
def body (p:aI):Bytes:=p.2.2.2.2.2.2.2.2.2.2.2.2.2.2.2
def udp (p:aI):Bytes:=cm ((body p).length:Int)++body p
def EI (p:aI)(b:Int):Bool:=ar (BitVec.toNat (gX p.2.2.2.2.2.2.2.2.2.2.2.2.2.1&&&gX b)) !=0
def yb (s:Stream)(p:aI):Int:=(s.2.1-p.2.2.2.2.2.2.2.2.2.2.2.1)%4294967296
def am8 (s:Stream)(p:aI):Stream:=(s.1,(s.2.1+((body p).length:Int)-yb s p)%4294967296,s.2.2.1++(body p).drop (yb s p).toNat,EI p 1)
def Dg (l:aw Stream)(p:aI):aw Stream:=
 bif !dG p then l else
 match l.findIdx? (atF (mB p))with
 |none=>
  bif p.2.2.2.2.2.2.2.2.1==17 then l++[(mB p,0,udp p,false)] else
  bif EI p 2 then l++[(mB p,Int.tmod (ar (p.2.2.2.2.2.2.2.2.2.2.2.1+1)) 4294967296,([]:Bytes),false)] else l
 |some i=>
  bif p.2.2.2.2.2.2.2.2.1==17 then l.set i ((l.getD i Yn).1,(l.getD i Yn).2.1,(l.getD i Yn).2.2.1++udp p,(l.getD i Yn).2.2.2) else
  bif EI p 2 then l else
  bif (l.getD i Yn).2.2.2||EI p 4 then l else
  bif decide (yb (l.getD i Yn) p<=((body p).length:Int)) then l.set i (am8 (l.getD i Yn) p) else l
theorem ac1 (s:Stream)(p:aI):0<=yb s p/\yb s p<4294967296:=by unfold yb;omega
theorem amp (x:Int):ar (BitVec.toNat (gX x&&&gX 4294967295))=x%4294967296:=by have:=C4 x 32;rw[show((2:Int)^32-1)=4294967295 from rfl,show((2:Int)^32)=4294967296 from rfl]at this;rw[this,ak]
theorem ai5 (x:Int):ar x%4294967296=x%4294967296:=by have:=BW x 32;rwa[show((2:Int)^32)=4294967296 from rfl]at this
theorem RV (l:aw α)(x y:α):(l++[x]).set l.length y=l++[y]:=by rw[List.set_append_right _ _ (bh _),iT,List.set_cons_zero]
theorem ag7 {l:aw α}(h:i<l.length)(x:α):idx (l.set i x) (i:Int)=some x:=by rw[GB,dx h]
theorem GA (l:aw α)(x:α):idx (l++[x]) (l.length:Int)=some x:=by rw[GB,bA (bh _),iT];rfl
theorem Sr (h:dG p=true):(body p).length<=320:=CC h
theorem Ri (l:aw Stream)(p:aI)(h:dk 900000000 (.sl fB) l):yx l p=some (Dg l p):=by
 have hl:l.length<=900000000:=h.1;unfold yx Dg;simp only[yf l,lI,ab,LZ,ad1 l _ (show l.length<=1000000000 by omega),kU];cases hs:dG p with|false=>rfl|true=>?_
 have hb:=Sr hs;have hw:=bS ((body p).length:Int);simp only[aj,af];rw[show p.2.2.2.2.2.2.2.2.2.2.2.2.2.2.2=body p from rfl];cases hf:l.findIdx? (atF (mB p))with
 |none=>
  have e1:acC l (mB p)= -1:=by rw[acC,hf]
  simp only[e1,show decide ((-1:Int)<0)=true from rfl,ah];cases p.2.2.2.2.2.2.2.2.1==17 with|true=>simp only[ah];rw[aQ (by simp;omega),GA,ab];simp only;rw[aQ,aQ (by simp only[ai,dZ];omega),ab,ax];simp only[ab,GA,RV,cj];rfl|false=>simp only[af];rw[show(ar (BitVec.toNat (gX p.2.2.2.2.2.2.2.2.2.2.2.2.2.1&&&gX 2)) !=0)=EI p 2 from rfl];cases EI p 2 with|true=>simp only[ah];rw[nf,aQ (by simp;omega)]|false=>rfl
 |some i=>
  obtain⟨hi,_⟩:=List.findIdx?_eq_some_iff_getElem.1 hf;have hd:(l[i].2.2.1).length<=900000000:=(h.2 _ (aN hi)).2.2.1;have e1:acC l (mB p)=(i:Int):=by rw[acC,hf]
  simp only[e1,aq (show¬(i:Int)<0 by omega),af,bu hi,ab,cG hi,ax];cases p.2.2.2.2.2.2.2.2.1==17 with
  |true=>simp only[ah];rw[aQ,aQ (by simp only[ai];omega)];rfl
  |false=>
   simp only[af];rw[show(ar (BitVec.toNat (gX p.2.2.2.2.2.2.2.2.2.2.2.2.2.1&&&gX 2)) !=0)=EI p 2 from rfl,show(ar (BitVec.toNat (gX p.2.2.2.2.2.2.2.2.2.2.2.2.2.1&&&gX 4)) !=0)=EI p 4 from rfl,show(ar (BitVec.toNat (gX p.2.2.2.2.2.2.2.2.2.2.2.2.2.1&&&gX 1)) !=0)=EI p 1 from rfl];cases EI p 2 with|true=>rfl|false=>?_
   simp only[af];rw[show(aa (cond l[i].2.2.2 (some true) (some (EI p 4))):(Bool->az (aw Stream))->az (aw Stream))=λK=>K (l[i].2.2.2||EI p 4) from by funext K;cases l[i].2.2.2<;>rfl];simp only;cases l[i].2.2.2||EI p 4 with|true=>rfl|false=>?_
   simp only[af,Im _ 4294967296,ab,ai5];rw[show(l[i].2.1-p.2.2.2.2.2.2.2.2.2.2.2.1)%4294967296=yb l[i] p from rfl];have ha:=ac1 l[i] p;by_cases hq:yb l[i] p<=((body p).length:Int)
   rw[au hq,CA (l:=body p) (yb l[i] p).toNat (by omega) (by omega)];simp only[ah,ab];rw[aQ (by rw[aK];omega)];simp only[ag7 hi,ab,List.set_set];refine congrArg some (congrArg (l.set i) ?_);simp only[am8];rw[show(ar (l[i].2.1+((body p).length:Int))-yb l[i] p)%4294967296=(l[i].2.1+((body p).length:Int)-yb l[i] p)%4294967296 from by rw[Int.sub_emod,ai5,<-Int.sub_emod]];rw[aq hq];rfl
theorem QW {l:aw Stream}(h:dk n (.sl fB) l):dk (n+322) (.sl fB) (Dg l p):=by
 have h':dk (n+322) (.sl fB) l:=h.mono;unfold Dg;cases hs:dG p with|false=>exact h'|true=>?_
 have hb:=Sr hs;have hw:=bS ((body p).length:Int);have hu:(udp p).length<=322:=by simp only[udp,ai];omega
 simp only[aj,af];have app:∀x:Stream,x.2.2.1.length<=n+322->dk (n+322) (.sl fB) (l++[x]):=by intro x hx;refine⟨?_,λy hy=>?_⟩;have:l.length<=n:=h.1;simp only[ai,ba];omega;rcases ay.1 hy with g|g;exact h'.2 y g;rw[bE.1 g];exact⟨⟨cx,cx,cx,cx,cx⟩,cx,hx,cx⟩
 have put:∀(i:Nat)(x:Stream),x.2.2.1.length<=n+322->dk (n+322) (.sl fB) (l.set i x):=by intro i x hx;refine⟨?_,λy hy=>?_⟩;show(l.set i x).length<=_;rw[aB];exact h'.1;rcases dp hy with g|rfl;exact h'.2 y g;exact⟨⟨cx,cx,cx,cx,cx⟩,cx,hx,cx⟩
 split;cases p.2.2.2.2.2.2.2.2.1==17 with|true=>exact app _ (show(udp p).length<=_ by omega)|false=>cases EI p 2 with|true=>exact app _ (cf _)|false=>exact h'
 rename_i i hf;obtain⟨hi,_⟩:=List.findIdx?_eq_some_iff_getElem.1 hf;have hd:(l[i].2.2.1).length<=n:=(h.2 _ (aN hi)).2.2.1;simp only[cG hi];cases p.2.2.2.2.2.2.2.2.1==17 with
 |true=>exact put _ _ (by simp only[ai];omega)
 |false=>
  cases EI p 2 with|true=>exact h'|false=>?_
  cases l[i].2.2.2||EI p 4 with|true=>exact h'|false=>?_
  cases decide (yb l[i] p<=((body p).length:Int))with|false=>exact h'|true=>exact put _ _ (by simp only[am8,ai,aK];omega)
theorem jB {y:Bytes}(h:i<x.length):bX (x++y) i=bX x i:=by unfold bX;rw[bN,bN,bD h]
theorem um {y:Bytes}(h:x.length<=i):bX (x++y) i=bX y (i-x.length):=by unfold bX;rw[bN,bN,bA h]
theorem Sx (h:i<n):bX (x.take n) i=bX x i:=by unfold bX;rw[bN,bN,eD h]
theorem lS:bX (x.drop n) i=bX x (n+i):=by unfold bX;rw[bN,bN,bU]
theorem RK {p:Bytes}(h:i<a\/a+p.length<=i:=by omega):bX (wx s (a:Int) p) i=bX s i:=by
 unfold wx ft;by_cases hw:(0:Int)<=a/\(a:Int)+(p.length:Int)<=(s.length:Int)
 rw[au hw,ah,ax];have ht:(s.take a).length=a:=by rw[aV];omega
 rcases h with h|h;rw[jB (by rw[ai];omega),jB (by omega),Sx h];rw[um (by rw[ai];omega),lS,ai,ht];congr 1;omega;rw[aq hw];rfl
theorem ZE {p:Bytes}{j:Nat}(hw:a+p.length<=s.length)(hj:j<p.length:=by omega):bX (wx s (a:Int) p) (a+j)=bX p j:=by
 unfold wx ft;rw[au ⟨by omega,by omega⟩,ah,ax];have ht:(s.take a).length=a:=by rw[aV];omega
 rw[jB (by rw[ai];omega),um (by omega),ht];congr 1;omega
theorem uw:de s (a:Int)=bif decide (a+2<=s.length) then((bX s a*256+bX s (a+1):Nat):Int) else-1:=by unfold de ft;rw[ax,show decide ((0:Int)<=a/\(a:Int)+2<=(s.length:Int))=decide (a+2<=s.length) from decide_eq_decide.2 (by omega)]
theorem Ds (hl:s.length=t.length)(h0:bX s a=bX t a)(h1:bX s (a+1)=bX t (a+1)):de s (a:Int)=de t (a:Int):=by rw[uw,uw,hl,h0,h1]
theorem LI {k:Nat}:de (s.drop k) (a:Int)=de s ((k+a:Nat):Int):=by rw[uw,uw,lS,lS,aK,show k+(a+1)=k+a+1 by omega,show decide (a+2<=s.length-k)=decide (k+a+2<=s.length) from decide_eq_decide.2 (by omega)]
theorem Eo:eO s (a:Int)=bif decide (a+4<=s.length) then(((bX s a*256+bX s (a+1))*65536+(bX s (a+2)*256+bX s (a+3)):Nat):Int) else-1:=by unfold eO ft;rw[ax,show decide ((0:Int)<=a/\(a:Int)+4<=(s.length:Int))=decide (a+4<=s.length) from decide_eq_decide.2 (by omega)]
theorem LL {k:Nat}:eO (s.drop k) (a:Int)=eO s ((k+a:Nat):Int):=by rw[Eo,Eo,lS,lS,lS,lS,aK,show k+(a+1)=k+a+1 by omega,show k+(a+2)=k+a+2 by omega,show k+(a+3)=k+a+3 by omega,show decide (a+4<=s.length-k)=decide (k+a+4<=s.length) from decide_eq_decide.2 (by omega)]
theorem Tp (hl:s.length=t.length)(h:∀j,j<4->bX s (a+j)=bX t (a+j)):eO s (a:Int)=eO t (a:Int):=by rw[Eo,Eo,hl,show bX s a=bX t a from h 0 (by omega),h 1 (by omega),h 2 (by omega),h 3 (by omega)]
def dH (s:Bytes):Nat:=bif de s 12==33024 then 18 else 14
def kD (s:Bytes):Nat:=bX s (dH s+9)
def MZ (k:Nat):Nat:=bif (k:Int)==6 then 16 else 6
def Br (s:Bytes):Nat:=dH s+10
def yZ (s:Bytes):Nat:=dH s+20+MZ (kD s)
theorem Hp (k:Nat):MZ k=16/\k=6\/MZ k=6/\k≠6:=by unfold MZ;by_cases h:k=6;subst h;exact .inl ⟨rfl,rfl⟩;exact .inr ⟨by rw[show((k:Int)==6)=false from by rw[cl];omega];rfl,h⟩
theorem KK (s:Bytes):dH s=18/\(de s 12==33024)=true\/dH s=14/\(de s 12==33024)=false:=by unfold dH;cases de s 12==33024 with|true=>exact .inl ⟨rfl,rfl⟩|false=>exact .inr ⟨rfl,rfl⟩
theorem H6 (k:Nat)(h:k<256):fN (k:Int)=some (MZ k:Int):=by unfold fN MZ;cases (k:Int)==6<;>rfl
theorem GO (s:Bytes)(h:s.length<=1000000000):qO s=some ((Br s:Int),(yZ s:Int)):=by
 unfold qO;rw[wg s 12 h,ab];have hk:=eE s (dH s+9)
 have core:∀o:Nat,dH s=o->(o=18\/o=14)->(bif decide (ar ((o:Int)+9)<(s.length:Int)) then
  aa (idx s (ar ((o:Int)+9))) λx2=>aa (fN (ar ((UInt8.toNat x2:Int)))) λr3=>some (ar ((o:Int)+10),ar ((ar ((o:Int)+20))+r3))
  else aa (fN 0) λr4=>some (ar ((o:Int)+10),ar ((ar ((o:Int)+20))+r4)))=some ((Br s:Int),(yZ s:Int)):=by
  intro o ho h2
  have hs:=Hp (kD s)
  rw[ak (n:=(o:Int)+9),ak (n:=(o:Int)+10),ak (n:=(o:Int)+20)]
  unfold Br yZ
  rw[ho]
  by_cases hl:o+9<s.length
  ·obtain⟨x,hx,ex⟩:=lY hl
   rw[jz,ah,show(o:Int)+9=((o+9:Nat):Int) by omega,hx,ab,ex,je (by rw[<-ho];omega),H6 _ (by rw[<-ho];exact hk),ab,show bX s (o+9)=kD s by unfold kD;rw[ho],ak]
   congr 1
  ·have hz:kD s=0:=by unfold kD;rw[ho];exact Fo
   have h0:fN 0=some (MZ 0:Int):=H6 0 (by omega)
   rw[iw,af,h0,ab,<-hz,ak]
   congr 1
 rcases KK s with⟨h1,h2⟩|⟨h1,h2⟩;rw[h2,ah];exact core 18 h1 (.inl rfl);rw[h2,af];exact core 14 h1 (.inr rfl)
theorem Zu {a:Int}(h:cX a 0 281474976710655=true):(Zt a).length=6:=by
 have ha:=aW.1 h;have e:Zt a=cm (Int.fdiv a (2^(sH 32)))++gk (ar (BitVec.toNat (gX a&&&gX 4294967295))):=by unfold Zt iY;rw[nf];simp only[oL,mG,ab];have h1:=bS (Int.fdiv a (2^(sH 32)));have h2:=dS (ar (BitVec.toNat (gX a&&&gX 4294967295)));rw[aQ];rfl
 have e2:(2:Int)^(sH 32)=4294967296:=rfl;rw[e,ai,F3,No,amp,e2];rw[show cX (Int.fdiv a 4294967296) 0 65535=true from aW.2 (by rw[Int.fdiv_eq_ediv_of_nonneg _ (by omega)];omega),show cX (a%4294967296) 0 4294967295=true from aW.2 (by omega)];rfl
theorem TF (h:dG p=true):dH (dI p).1+46<=(dI p).1.length:=by
 have hh:pY p=true:=by simp only[dG,ae]at h;exact h.1
 have hp:=RH (ipP p).1;have hi:=Ep h;unfold dI agV S3 at hi⊢;rw[h,ah]at hi⊢;cases he:sL (p.1,p.2.1,p.2.2.1,2048,pad (ipP p).1)with|false=>rw[he]at hi;cases hi|true=>?_
 simp only[ah];simp only[pY,ae]at hh;have m1:=Zu hh.1;have m2:=Zu hh.2.1;have hv:=aW.1 hh.2.2.1;have w1:(cm 33024).length=2:=rfl;have w3:(cm 2048).length=2:=rfl;generalize pad (ipP p).1=bd at hp⊢;unfold Og;simp only;generalize Zt p.1=M1 at m1⊢;generalize Zt p.2.1=M2 at m2⊢;by_cases hc:p.2.2.1>=0;have w2:(cm p.2.2.1).length=2:=by rw[F3,aW.2 (by omega)];rfl
 rw[au hc,ah];have hb:dH (((((M1++M2)++cm 33024)++cm p.2.2.1)++cm 2048)++bd)=18:=by
  unfold dH;have e12:de (((((M1++M2)++cm 33024)++cm p.2.2.1)++cm 2048)++bd) ((12:Nat):Int)=33024:=by rw[uw,au (by simp only[ai];omega),ah];rw[jB (by simp only[ai];omega),jB (by simp only[ai];omega),jB (by simp only[ai];omega),um (by simp only[ai];omega)];rw[jB (by simp only[ai];omega),jB (by simp only[ai];omega),jB (by simp only[ai];omega),um (by simp only[ai];omega)];rw[ai,m1,m2];rfl
  rw[show(12:Int)=((12:Nat):Int) from rfl,e12];rfl
 rw[hb];simp only[ai];omega;rw[aq hc,af];have hb:dH (((M1++M2)++cm 2048)++bd)=14:=by
  unfold dH;have e12:de (((M1++M2)++cm 2048)++bd) ((12:Nat):Int)=2048:=by rw[uw,au (by simp only[ai];omega),ah];rw[jB (by simp only[ai];omega),um (by simp only[ai];omega)];rw[jB (by simp only[ai];omega),um (by simp only[ai];omega)];rw[ai,m1,m2];rfl
  rw[show(12:Int)=((12:Nat):Int) from rfl,e12];rfl
 rw[hb];simp only[ai];omega
def mu (t:Bytes)(x y:Bytes):Bytes:=wx (wx t (Br t:Int) x) (yZ t:Int) y
theorem DN (t x y:Bytes):(mu t x y).length=t.length:=by unfold mu;rw[Ac,Ac]
def kx (p:aI):Bytes×Bool:=bif dG p then(mu (dI p).1 (cm 0) (cm 0),true) else([],false)
theorem adK (h:dG p=false):dI p=([],false):=by unfold dI;rw[h];rfl
theorem OO (p:aI):mC p=some (kx p):=by have hl:=zi p;have w0:=bS 0;unfold mC kx mu;rw[BC,ab];cases h:dG p with|false=>rw[adK h];rfl|true=>rw[Ep h];simp only[aj,af,ah,GO _ (show(dI p).1.length<=1000000000 by omega),ab,kU,Ce _ _ _ (show(dI p).1.length<=1000000000 by omega) (show(cm 0).length<=1000000000 by omega),Ce _ _ _ (show(wx (dI p).1 (Br (dI p).1:Int) (cm 0)).length<=1000000000 by rw[Ac];omega) (show(cm 0).length<=1000000000 by omega)]
def CM (s t:Bytes):Prop:=s.length=t.length/\∀i,i<Br t\/(Br t+2<=i/\i<yZ t)\/yZ t+2<=i->bX s i=bX t i
theorem Ab (t:Bytes):(dH t=14\/dH t=18)/\Br t=dH t+10/\dH t+26<=yZ t/\yZ t<=dH t+36/\(yZ t=dH t+36/\kD t=6\/yZ t=dH t+26/\kD t≠6):=by have h1:=KK t;have h2:=Hp (kD t);unfold Br yZ;omega
theorem E5 (t:Bytes){y:Bytes}(hx:x.length<=2)(hy:y.length<=2):CM (mu t x y) t:=by have:=Ab t;refine⟨DN t x y,λi hi=>?_⟩;unfold mu;rw[RK,RK]
theorem CM.body (h:CM s t):dH s=dH t:=by have:=Ab t;unfold dH;have e:de s ((12:Nat):Int)=de t ((12:Nat):Int):=Ds h.1 (h.2 _ (by omega)) (h.2 _ (by omega));rw[show(12:Int)=((12:Nat):Int) from rfl,e]
theorem CM.kind (h:CM s t):kD s=kD t:=by have:=Ab t;unfold kD;rw[h.body,h.2 _ (by omega)]
theorem CM.amZ (h:CM s t):Br s=Br t/\yZ s=yZ t:=by unfold Br yZ;rw[h.body,h.kind];exact⟨rfl,rfl⟩
theorem CM.aq5 (h:CM s t):de s ((dH t+2:Nat):Int)=de t ((dH t+2:Nat):Int):=by have:=Ab t;exact Ds h.1 (h.2 _ (by omega)) (h.2 _ (by omega))
structure TOk (t:Bytes):Prop where
 eth:(gL t).2=true
 bd:(gL t).1.2.2.2.2=t.drop (dH t)
 l1:dH t+46<=t.length
 n1:20+MZ (kD t)+2<=de t ((dH t+2:Nat):Int)
 n2:de t ((dH t+2:Nat):Int)<=(t.length:Int)-(dH t:Int)
theorem Iw (h:(gL s).2=true):(gL s).1.2.2.2.2=s.drop (dH s)/\18<=s.length/\46<=s.length-dH s/\s.length-dH s<=400:=by
 unfold gL at h⊢;by_cases h8:(s.length:Int)<18;rw[au h8]at h;cases h;rw[aq h8]at h⊢;simp only[af]at h⊢;rcases KK s with⟨h1,h2⟩|⟨h1,h2⟩;rw[h2]at h⊢;simp only[ah]at h⊢;cases he:sL (HS s)with|false=>rw[he]at h;cases h|true=>rw[h1];simp only[sL,ae,aW,HS,aK]at he;simp only[ah,HS];refine⟨cx,by omega,by omega,by omega⟩
 rw[h2]at h⊢;simp only[af]at h⊢;cases he:sL (zE s)with|false=>rw[he]at h;cases h|true=>rw[h1];simp only[sL,ae,aW,zE,aK]at he;simp only[ah,zE];refine⟨cx,by omega,by omega,by omega⟩
theorem MF (h:(jP s).2=0):(gL s).2=true/\(oI (gL s).1.2.2.2.2).2=true/\dG (jP s).1=true/\ (xS (oI (gL s).1.2.2.2.2).1.2.2.2.2.1 (oI (gL s).1.2.2.2.2).1.2.2.2.2.2.1 (oI (gL s).1.2.2.2.2).1.2.2.2.1 (oI (gL s).1.2.2.2.2).1.2.2.2.2.2.2).2=true:=by
 unfold jP at h⊢;simp only at h⊢;generalize gL s=e at h⊢;cases h1: !e.2||(e.1.2.2.2.1 !=2048)with|true=>rw[h1]at h;cases h|false=>?_
 rw[h1]at h;simp only[af]at h⊢;generalize oI e.1.2.2.2.2=i at h⊢;cases h2:i.2 with|false=>rw[h2]at h;cases h|true=>?_
 rw[h2]at h;simp only[aj,af]at h⊢;generalize xS i.1.2.2.2.2.1 i.1.2.2.2.2.2.1 i.1.2.2.2.1 i.1.2.2.2.2.2.2=g at h⊢;cases h3:g.2 with|false=>rw[h3]at h;cases h|true=>?_
 rw[h3]at h;simp only[aj,af]at h⊢;cases h4:dG (e.1.1,e.1.2.1,e.1.2.2.1,i.1.1,i.1.2.1,i.1.2.2.1,i.1.2.2.2.2.1,i.1.2.2.2.2.2.1,g.1)with|false=>rw[h4]at h;cases h|true=>?_
 simp only[cr,dU]at h1;exact⟨h1.1,cx,h4,cx⟩
theorem aew (h:(oI b).2=true):20<=de b 2/\de b 2<=(b.length:Int)/\(oI b).1=FF b:=by
 unfold oI at h⊢;cases h1:decide ((b.length:Int)<20)||(decide (de b 2<20)||decide (de b 2>(b.length:Int)))with|true=>rw[h1]at h;cases h|false=>?_
 rw[h1]at h;simp only[af]at h⊢;cases h2:(V2 (FF b)).2&&((V2 (FF b)).1==b.take (de b 2).toNat)with|false=>rw[h2]at h;cases h|true=>?_
 simp only[cr,cY]at h1;exact⟨by omega,by omega,rfl⟩
theorem abW {a b k:Int}(h:(xS a b k s).2=true):k=6/\20<=s.length\/k=17/\8<=s.length:=by unfold xS at h;cases h1:(k==6)&&decide ((s.length:Int)>=20)with|true=>simp only[ae,bm,aH]at h1;exact .inl ⟨h1.1,by omega⟩|false=>rw[h1]at h;simp only[af]at h;cases h2:(k==17)&&decide ((s.length:Int)>=8)with|true=>simp only[ae,bm,aH]at h2;exact .inr ⟨h2.1,by omega⟩|false=>rw[h2]at h;cases h
theorem aaB (hl:s.length=t.length)(h:∀i,i<18->bX s i=bX t i)(hs:(gL s).2=true):(gL t).2=true:=by
 have g16:∀a,a+2<=18->de s ((a:Nat):Int)=de t ((a:Nat):Int):=λa ha=>Ds hl (h _ (by omega)) (h _ (by omega));have g32:∀a,a+4<=18->eO s ((a:Nat):Int)=eO t ((a:Nat):Int):=λa ha=>Tp hl (λj hj=>h _ (by omega));have e0:E1 s 0=E1 t 0:=by unfold E1;rw[show(0:Int)=((0:Nat):Int) from rfl,g16 0 (by omega),show((0:Nat):Int)+2=((2:Nat):Int) from rfl,g32 2 (by omega)]
 have e6:E1 s 6=E1 t 6:=by unfold E1;rw[show(6:Int)=((6:Nat):Int) from rfl,g16 6 (by omega),show((6:Nat):Int)+2=((8:Nat):Int) from rfl,g32 8 (by omega)]
 have e12:de s 12=de t 12:=g16 12 (by omega);have e14:de s 14=de t 14:=g16 14 (by omega);have e16:de s 16=de t 16:=g16 16 (by omega);have b1:sL (HS s)=sL (HS t):=by unfold sL HS;rw[e0,e6,e14,e16];simp only[aK,hl]
 have b2:sL (zE s)=sL (zE t):=by unfold sL zE;rw[e0,e6,e12];simp only[aK,hl]
 unfold gL at hs⊢;rw[hl,e12,b1,b2]at hs;cases h8:decide ((t.length:Int)<18)with|true=>rw[h8]at hs;cases hs|false=>?_
 rw[h8]at hs;cases h12:de t 12==33024 with
 |true=>rw[h12]at hs;cases hb:sL (HS t)with|true=>rfl|false=>rw[hb]at hs;cases hs
 |false=>rw[h12]at hs;cases hb:sL (zE t)with|true=>rfl|false=>rw[hb]at hs;cases hs
theorem am9 (ha:CM s t)(h:(jP s).2=0):TOk t:=by
 have hp:=Ab t;obtain⟨h1,h2,_,h4⟩:=MF h;have he:=Iw h1;rw[he.1]at h2 h4;have hi:=aew h2;have hs:=abW h4;rw[hi.2.2]at hs;have e1:(gL t).2=true:=aaB ha.1 (λi hi=>ha.2 i (by omega)) h1;have e2:=Iw e1;have en:de (s.drop (dH s)) 2=de t ((dH t+2:Nat):Int):=by have:de (s.drop (dH s)) ((2:Nat):Int)=de s ((dH s+2:Nat):Int):=LI;rw[show(2:Int)=((2:Nat):Int) from rfl,this,ha.body,ha.aq5]
 have ek:(FF (s.drop (dH s))).2.2.2.1=(kD t:Int):=by show(bX (s.drop (dH s)) 9:Int)=_;rw[lS,<-ha.kind];rfl
 have eg:(FF (s.drop (dH s))).2.2.2.2.2.2.length=(de t ((dH t+2:Nat):Int)).toNat-20:=by show(((s.drop (dH s)).take (de (s.drop (dH s)) 2).toNat).drop 20).length=_;rw[en,aK,aV];have:=hi.2.1;rw[en]at this;omega
 rw[ek,eg]at hs;rw[en]at hi;have hn:=hi.2.1;rw[aK,ha.1,ha.body]at hn;have hk:=Hp (kD t);exact⟨e1,e2.1,by omega,by omega,by omega⟩
theorem acE (h:(kx p).1=t)(hs:dG p=true)(ht:TOk t):de t (Br t:Int)=0/\de t (yZ t:Int)=0:=by
 unfold kx at h;rw[hs]at h;simp only[ah]at h;have w0:(cm 0).length=2:=rfl;have ha:CM (mu (dI p).1 (cm 0) (cm 0)) (dI p).1:=E5 _ (by omega) (by omega);rw[h]at ha;have hp:=Ab t;have hpl:=ha.amZ;have hl:=ht.l1;have hl2:=ha.1;have hn1:=ht.n1;have hn2:=ht.n2;have hk:=Hp (kD t);have hB:yZ t+2<=t.length:=by omega
 have b0:bX (cm 0) 0=0:=rfl;have b1:bX (cm 0) 1=0:=rfl;rw[uw,uw,jz,au hB,ah,ah];have eB:∀j,j<2->bX t (yZ t+j)=bX (cm 0) j:=by intro j hj;rw[<-h];unfold mu;rw[show yZ (wx (wx (dI p).1 (Br (dI p).1:Int) (cm 0)) (yZ (dI p).1:Int) (cm 0))=yZ (dI p).1 from by have:=hpl.2;rw[<-h]at this;exact this];exact ZE (by rw[Ac,w0];omega)
 have eA:∀j,j<2->bX t (Br t+j)=bX (cm 0) j:=by intro j hj;rw[<-h];unfold mu;rw[show Br (wx (wx (dI p).1 (Br (dI p).1:Int) (cm 0)) (yZ (dI p).1:Int) (cm 0))=Br (dI p).1 from by have:=hpl.1;rw[<-h]at this;exact this];rw[RK];exact ZE (by rw[w0];omega)
 have a0:=eA 0 (by omega);have a1:=eA 1 (by omega);have c0:=eB 0 (by omega);have c1:=eB 1 (by omega);rw[eG]at a0 c0;rw[a0,a1,c0,c1,b0,b1];exact⟨rfl,rfl⟩
end
end Go.Pu
