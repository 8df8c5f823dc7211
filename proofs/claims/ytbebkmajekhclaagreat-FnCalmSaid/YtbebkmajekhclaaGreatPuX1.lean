import Derived.Test.YtbebkmajekhclaaGreatDnData
import Derived.Test.YtbebkmajekhclaaGreatPure
namespace Go.Pu
open Go.Dn
open List (range)
open BitVec (toNat)
open Int (fdiv tmod)
set_option linter.unusedSimpArgs false
set_option linter.unusedVariables false
noncomputable section
variable {b s t x:Bytes} {h:Host} {v:Int} {f:Int->aB Int} {m:bN} {a i n:Nat} {p:aN} {R X α σ:Type} {l:cc}
/- Plain laws of the partial operations and of loops. -/
theorem ak {n:Int}(h1: -9223372036854775808<=n:=by omega)(h2:n<=9223372036854775807:=by omega):ar n=n:=by simp only[ar,hY,IntKind.wrap,IntKind.bits,IntKind.signed];simp;omega
@[simp] theorem ab (a:α)(k:α->aB R):aa (some a) k=k a:=rfl
@[simp] theorem apS (k:α->aB R):aa none k=none:=rfl
@[simp] theorem F0 (c:Bool)(x y:α)(k:α->aB R):aa (cond c (some x) (some y)) k=k (cond c x y):=by cases c<;>rfl
theorem bQ (c:Bool)(x y:α):cond c (some x) (some y)=some (cond c x y):=by cases c<;>rfl
theorem aX {k:aB R}(h:n<=1073741824:=by omega):room n k=k:=by simp[room,h]
theorem KK (xs:aw α)(i:Nat):idx xs (i:Int)=xs[i]?:=rfl
theorem bB {xs:aw α}(h:i<xs.length):idx xs (i:Int)=some xs[i]:=by rw[KK];exact al h
def upK (step:Nat->σ->(σ->aB R)->aB R)(fin:σ->aB R)(N:Nat):Nat->Nat->σ->aB R
 |0,_,s=>fin s
 |n+1,i,s=>step i s (λs'=>upK step fin N n (i+1) s')
theorem K6 {T:(X->aB R)->X->aB R}(N:Nat)(e:σ->Nat->X)(step:Nat->σ->(σ->aB R)->aB R)(fin:σ->aB R)(hs:∀i s nx,i<N->T nx (e s i)=step i s (λs'=>nx (e s' (i+1))))(hf:∀s nx,T nx (e s N)=fin s): ∀n i s,i<=N->N-i<n->bj T n (e s i)=upK step fin N (N-i) i s:=by
 intro n;induction n with
 |zero=>intro i s _ h;omega
 |succ n ih=>
  intro i s hi hn;rw[bj];rcases cg i N with hG|CF;rw[hs i s _ hG,show N-i=(N-(i+1))+1 by omega,upK];congr 1;funext s';exact ih (i+1) s' (by omega) (by omega);have:i=N:=by omega
  subst this;rw[hf,iC,upK]
def Cy (step:α->σ->(σ->aB R)->aB R)(fin:σ->aB R):aw α->σ->aB R
 |[],s=>fin s
 |x::xs,s=>step x s (Cy step fin xs)
theorem EG {T:(X->aB R)->X->aB R}(xs:aw α)(e:σ->Nat->X)(step:α->σ->(σ->aB R)->aB R)(fin:σ->aB R)(hs:∀i (h:i<xs.length) s nx,T nx (e s i)=step xs[i] s (λs'=>nx (e s' (i+1))))(hf:∀s nx,T nx (e s xs.length)=fin s): ∀n i s,i<=xs.length->xs.length-i<n->bj T n (e s i)=Cy step fin (xs.drop i) s:=by
 intro n;induction n with
 |zero=>intro i s _ h;omega
 |succ n ih=>
  intro i s hi hn;rw[bj];rcases cg i xs.length with hG|CF;rw[hs i hG s _,bW hG,Cy];congr 1;funext s';exact ih (i+1) s' (by omega) (by omega);have:i=xs.length:=by omega
  subst this;rw[hf,gN,Cy]
def TC:(t:CT)->t.D->Nat
 | .int _,_=>0
 | .bool,_=>0
 | .str,s=>s.length
 | .sl e,xs=>xs.length+(xs.map (TC e)).sum
 | .pair a b,x=>TC a x.1+TC b x.2
def dC (n:Nat):(t:CT)->t.D->Prop
 | .int _,_=>True
 | .bool,_=>True
 | .str,s=>s.length<=n
 | .sl e,xs=>xs.length<=n/\∀x∈xs,dC n e x
 | .pair a b,x=>dC n a x.1/\dC n b x.2
theorem JL (f:α->Nat):∀(xs:aw α)(x:α),x∈xs->f x<=(xs.map f).sum
 |y::ys,x,h=>by rcases bU.1 h with rfl|h;simp;have:=JL f ys x h;simp;omega
theorem LO:∀{t:CT}{x:t.D},TC t x<=n->dC n t x
 | .int _,_,_=>trivial
 | .bool,_,_=>trivial
 | .str,_,h=>h
 | .sl e,xs,h=>by simp only[TC]at h;exact⟨by omega,λx hx=>LO (by have:=JL (TC e) xs x hx;omega)⟩
 | .pair a b,x,h=>by simp only[TC]at h;exact⟨LO (by omega),LO (by omega)⟩
theorem dC.mono {m:Nat}(h:n<=m:=by omega):∀{t:CT}{x:t.D},dC n t x->dC m t x
 | .int _,_,_=>trivial
 | .bool,_,_=>trivial
 | .str,_,k=>bq k h
 | .sl _,_,k=>⟨bq k.1 h,λx hx=>dC.mono h (k.2 x hx)⟩
 | .pair _ _,_,k=>⟨dC.mono h k.1,dC.mono h k.2⟩
def agf:(t:CT)->t.D->Prop
 | .int k,n=>k.min<=n/\n<=k.max
 | .bool,_=>True
 | .str,s=>s.length<=9223372036854775807
 | .sl e,xs=>xs.length<=9223372036854775807/\∀x∈xs,agf e x
 | .pair a b,x=>agf a x.1/\agf b x.2
def mN (l n:Int):Int:=if n<=l then l-n else-1
def Pp (f:α->Int->aB Int)(k0:Int->Int->aB R)(k1:Int->Int->Int->aB R)(v0:aw α)(nx:Int×Int->aB R)(x:Int×Int):aB R:=
 cond (decide (x.2<((List.length v0:Int)))) (
  aa (idx v0 x.2) λx1=>
  aa (f x1 x.1) λr2=>
  cond (decide (r2<0)) (
   k1 r2 (-1) x.2) (
   nx (r2,ar (x.2+1)))) (
  k0 x.1 x.2)
noncomputable def XN (f:α->Int->aB Int)(a0:aw α)(a1:Int):aB Int:=
 cond (decide ((ar (a1-((List.length a0:Int))))<0)) (
  some (-1)) (
  bj (Pp f (λy3 _=>some y3) (λ_ y6 _=>some y6) a0) fuel (ar (a1-((List.length a0:Int))),0))
theorem aeE {f:α->Int->aB Int}{s:α->Nat}{a:aw α}{l:Int}(h0:0<=l)(h1:l<=1048576)(hm:a.length<=9223372036854775807)(hf:∀x∈a,∀l:Int,0<=l->l<=1048576->∃r,f x l=some r/\((s x:Int)<=l->r=l-s x)/\(¬(s x:Int)<=l->r<0)):XN f a l=some (mN l ((a.length+(a.map s).sum:Nat):Int)):=by
 unfold XN;have D7:=eX;rw[ak];rcases Int.lt_or_le (l-a.length) 0 with axw|ag6;rw[ax axw];simp only[ah,mN];rw[lI];rw[cL];simp only[af];have key:=EG (T:=Pp f (λy3 _=>some y3) (λ_ y6 _=>some y6) a) a (λ(q:Int) i=>(q,(i:Int))) (λx q k=>aa (f x q) λr=>cond (decide (r<0)) (some (-1)) (k r)) (λq=>some q) (λi hi q nx=>by simp only[Pp];rw[jP];simp only[ah,bB hi,ab];rw[ak];rfl) (λq nx=>by simp only[Pp];rw[cL];rfl) fuel 0 (l-a.length) (by omega) (by omega);have e:((0:Nat):Int)=0:=rfl;rw[e,fQ]at key;rw[key];have main:∀(b:aw α)(q:Int),0<=q->q<=1048576->(∀x∈b,x∈a)->Cy (λx q k=>aa (f x q) λr=>cond (decide (r<0)) (some (-1)) (k r)) (λq=>some q) b q=some (mN q ((b.map s).sum:Nat)):=by intro b;induction b with|nil=>intro q hq _ _;simp[Cy,mN,hq]|cons x b ih=>intro q hq hq2 hb;obtain⟨r,hr,hr1,SK⟩:=hf x (hb x (by simp)) q hq hq2;rw[Cy,hr,ab];by_cases hle:(s x:Int)<=q;have:=hr1 hle;subst this;rw[cL];simp only[af];rw[ih _ (by omega) (by omega) (λy hy=>hb y (by simp[hy]))];simp only[mN,dm,gu];congr 1;split<;>split<;>omega;rw[ax (SK hle)];simp only[ah,mN,dm,gu];rw[lI]
 rw[main a _ (by omega) (by omega) (λx h=>h)];simp only[mN];congr 1;split<;>split<;>omega
def D0 (f:Int->aB Int)(n:Nat):Prop:=∀l:Int,0<=l->l<=1048576->f l=some (mN l n)
theorem D0.nil:D0 (λl=>some l) 0:=λl h0 _=>by simp[mN,h0]
theorem D0.len {m:Nat}(hn:n<=9223372036854775807){k:Int->aB Int}(h:D0 k m): D0 (λl=>cond (decide (ar (l-(n:Int))<0)) (some (-1)) (k (ar (l-(n:Int))))) (n+m):=by intro l h0 h1;simp only;rw[ak];by_cases hl:l-(n:Int)<0;rw[ax hl];simp only[ah,mN];rw[lI];rw[aq hl];simp only[af];rw[h _ (by omega) (by omega)];simp only[mN];congr 1;split<;>split<;>omega
theorem D0.sub {k:Int->aB Int}{m:Nat}(hf:D0 f n)(h:D0 k m):D0 (λl=>aa (f l) λr=>cond (decide (r<0)) (some (-1)) (k r)) (n+m):=by
 intro l h0 h1;simp only;rw[hf l h0 h1,ab];by_cases hl:(n:Int)<=l;have e:mN l n=l-n:=by simp[mN,hl]
 rw[e,cL];simp only[af];rw[h _ (by omega) (by omega)];simp only[mN];congr 1;split<;>split<;>omega;have e:mN l n= -1:=by simp[mN,hl]
 rw[e];simp only[mN];rw[lI];rfl
theorem D0.cast {m:Nat}(h:D0 f n)(e:n=m):D0 f m:=e▸h
theorem D0.list {f:α->Int->aB Int}{s:α->Nat}{a:aw α}(hm:a.length<=9223372036854775807)(hf:∀x∈a,D0 (f x) (s x)):D0 (XN f a) (a.length+(a.map s).sum):=λ_ h0 h1=>aeE h0 h1 hm (λx hx l h0 h1=>⟨_,hf x hx l h0 h1,λh=>by simp[mN,h],λh=>by simp[mN,h]⟩)
theorem D0.flat (hn:n<=9223372036854775807):D0 (λl=>cond (decide (ar (l-(n:Int))<0)) (some (-1)) (some (ar (l-(n:Int))))) n:=(D0.len (n:=n) hn D0.nil).cast (by omega)
theorem D0.use (hf:D0 f n){l:Int}(h0:0<=l)(h1:l<=1048576){k:Int->aB Bool}(hk:(n:Int)<=l->k (l-n)=some true): (aa (f l) λr=>cond (decide (r<0)) (some true) (k r))=some true:=by
 rw[hf l h0 h1,ab];by_cases hl:(n:Int)<=l;have e:mN l n=l-n:=by simp[mN,hl]
 rw[e,cL];exact hk hl;have e:mN l n= -1:=by simp[mN,hl]
 rw[e];rfl
theorem J9 {T:(Int->aB R)->Int->aB R}{fin hit:aB R}(p:α->Bool)(a:aw α)(h:a.length<=1000000000000)(hs:∀i (hi:i<a.length) nx,T nx (i:Int)=cond (p a[i]) hit (nx ((i+1:Nat):Int)))(hf:∀nx,T nx (a.length:Int)=fin): bj T fuel 0=cond (a.any p) hit fin:=by
 have D7:=eX;have key:∀n i,i<=a.length->a.length-i<n->bj T n (i:Int)=cond ((a.drop i).any p) hit fin:=by
  intro n;induction n with
  |zero=>intro i _ h;omega
  |succ n ih=>
   intro i hi hn;rw[bj];rcases cg i a.length with hG|CF;rw[hs i hG,bW hG,List.any_cons];cases hq:p a[i]with|true=>rfl|false=>exact ih (i+1) (by omega) (by omega)
   have:i=a.length:=by omega
   subst this;rw[hf,gN];rfl
 exact key fuel 0 (by omega) (by omega)
theorem jG {T:(Int->aB R)->Int->aB R}{fin hit:aB R}(p:Nat->Bool)(N:Nat)(h:N<=1000000000000)(hs:∀i nx,i<N->T nx (i:Int)=cond (!(p i)) hit (nx ((i+1:Nat):Int)))(hf:∀nx,T nx (N:Int)=fin): bj T fuel 0=cond ((range N).all p) fin hit:=by
 have D7:=eX;have key:∀n i,i<=N->N-i<n->bj T n (i:Int)=cond ((List.range' i (N-i)).all p) fin hit:=by
  intro n;induction n with
  |zero=>intro i _ h;omega
  |succ n ih=>
   intro i hi hn;rw[bj];rcases cg i N with hG|CF;rw[hs i _ hG,show N-i=(N-(i+1))+1 by omega,List.range'_succ,cz];cases hq:p i with|false=>rfl|true=>exact ih (i+1) (by omega) (by omega)
   have:i=N:=by omega
   subst this;rw[hf,iC];rfl
 have:=key fuel 0 (by omega) (by omega);rw[Nat.sub_zero,<-List.range_eq_range']at this;exact this
theorem tM {T:(Int->aB R)->Int->aB R}{fin hit:aB R}(p:α->Bool)(a:aw α)(h:a.length<=1000000000000)(hs:∀i (hi:i<a.length) nx,T nx (i:Int)=cond (!(p a[i])) hit (nx ((i+1:Nat):Int)))(hf:∀nx,T nx (a.length:Int)=fin): bj T fuel 0=cond (a.all p) fin hit:=by
 have:=J9 (T:=T) (fin:=fin) (hit:=hit) (λx=> !(p x)) a h hs hf;rw[this];have e:a.any (λx=> !(p x))= !(a.all p):=by rw[cQ];simp
 rw[e];cases a.all p<;>rfl
theorem L5 {T:(X->aB R)->X->aB R}{fin hit:aB R}(e:Nat->X)(p:Nat->Bool)(N:Nat)(h:N<=1000000000000)(hs:∀i nx,i<N->(∀j,j<i->p j=true)->T nx (e i)=cond (!(p i)) hit (nx (e (i+1))))(hf:(∀j,j<N->p j=true)->∀nx,T nx (e N)=fin): bj T fuel (e 0)=cond ((range N).all p) fin hit:=by
 have D7:=eX;have key:∀n i,i<=N->N-i<n->(∀j,j<i->p j=true)->bj T n (e i)=cond ((List.range' i (N-i)).all p) fin hit:=by
  intro n;induction n with
  |zero=>intro i _ h;omega
  |succ n ih=>
   intro i hi hn hp;rw[bj];rcases cg i N with hG|CF;rw[hs i _ hG hp,show N-i=(N-(i+1))+1 by omega,List.range'_succ,cz];cases hq:p i with|false=>rfl|true=>refine ih (i+1) (by omega) (by omega) λj hj=>?_;by_cases hji:j=i;rw[hji];exact hq;exact hp j (by omega)
   have:i=N:=by omega
   subst this;rw[hf hp,iC];rfl
 have:=key fuel 0 (by omega) (by omega) (λj hj=>absurd hj (by omega));rw[Nat.sub_zero,<-List.range_eq_range']at this;exact this
theorem HO {T:(Int->aB R)->Int->aB R}{fin:aB R}{hit:Int->aB R}(p:α->Bool)(a:aw α)(h:a.length<=1000000000000)(hs:∀i (hi:i<a.length) nx,T nx (i:Int)=cond (p a[i]) (hit (i:Int)) (nx ((i+1:Nat):Int)))(hf:∀nx,T nx (a.length:Int)=fin): bj T fuel 0=(match a.findIdx? p with|some i=>hit (i:Int)|none=>fin):=by
 have D7:=eX;have key:∀n i,i<=a.length->a.length-i<n->bj T n (i:Int)=(match (a.drop i).findIdx? p with|some j=>hit ((i+j:Nat):Int)|none=>fin):=by
  intro n;induction n with
  |zero=>intro i _ h;omega
  |succ n ih=>
   intro i hi hn;rw[bj];rcases cg i a.length with hG|CF;rw[hs i hG,bW hG,List.findIdx?_cons];cases hq:p a[i]with|true=>rfl|false=>have:=ih (i+1) (by omega) (by omega);simp only[af];refine this.trans ?_;cases (a.drop (i+1)).findIdx? p with|none=>rfl|some j=>simp only[dP,bm,cC];congr 2;omega
   have:i=a.length:=by omega
   subst this;rw[hf,gN];rfl
 have:=key fuel 0 (by omega) (by omega);refine this.trans ?_;rw[fQ];cases a.findIdx? p with|none=>rfl|some j=>simp only[cE]
theorem cF (a b:Bool):(bif a then b else false)=(a&&b):=by cases a<;>rfl
theorem cT (a b:Bool):(bif a then true else b)=(a||b):=by cases a<;>rfl
theorem cN (a b:Bool):(bif a then false else b)=(!a&&b):=by cases a<;>rfl
def Eg (g:α->σ->Except (aB R) σ)(fin:σ->aB R):aw α->σ->aB R
 |[],s=>fin s
 |x::xs,s=>match g x s with| .error r=>r| .ok s'=>Eg g fin xs s'
theorem vF {T:(X->aB R)->X->aB R}(xs:aw α)(e:σ->Nat->X)(Inv:Nat->σ->Prop)(g:α->σ->Except (aB R) σ)(fin:σ->aB R)(h:xs.length<=1000000000000)(hs:∀i (hi:i<xs.length) s nx,Inv i s->T nx (e s i)=match g xs[i] s with| .error r=>r| .ok s'=>nx (e s' (i+1)))(hn:∀i (hi:i<xs.length) s s',Inv i s->g xs[i] s=.ok s'->Inv (i+1) s')(hf:∀s nx,Inv xs.length s->T nx (e s xs.length)=fin s)(s:σ)(h0:Inv 0 s): bj T fuel (e s 0)=Eg g fin xs s:=by
 have key:∀n i s,i<=xs.length->xs.length-i<n->Inv i s->bj T n (e s i)=Eg g fin (xs.drop i) s:=by
  intro n;induction n with
  |zero=>intro i s _ h;omega
  |succ n ih=>
   intro i s hi En hI;rw[bj];rcases cg i xs.length with hG|CF;rw[hs i hG s _ hI,bW hG,Eg];cases hg:g xs[i] s with|error r=>rfl|ok s'=>exact ih (i+1) s' (by omega) (by omega) (hn i hG s s' hI hg)
   have:i=xs.length:=by omega
   subst this;rw[hf s _ hI,gN,Eg]
 have D7:=eX;have:=key fuel 0 s (by omega) (by omega) h0;rwa[fQ]at this
theorem Ic (f:σ->α->σ)(fin:σ->aB R):∀(xs:aw α)(s:σ),Eg (λx s=> .ok (f s x)) fin xs s=fin (xs.foldl f s)
 |[],_=>rfl
 |x::xs,s=>by rw[Eg];exact Ic f fin xs (f s x)
theorem dG {T:(X->aB R)->X->aB R}{fin:aB R}(e:Nat->X)(N:Nat)(h:N<=1000000000000)(hs:∀i nx,i<N->T nx (e i)=nx (e (i+1)))(hf:∀nx,T nx (e N)=fin):bj T fuel (e 0)=fin:=by rw[L5 (hit:=fin) (fin:=fin) e (λ_=>true) N h (λi nx hi _=>by rw[hs i nx hi];rfl) (λ_ nx=>hf nx)];cases (range N).all (λ_=>true)<;>rfl
theorem mP {l:aw α}{k:aB R}(h:l.length<=10^9:=by omega):room (List.length ([]:aw α)+l.length) k=k:=aX (by simp only[dZ];omega)
def di (a lo hi:Int):Bool:=decide (lo<=a)&&decide (a<=hi)
theorem aU {a lo hi:Int}:di a lo hi=true↔lo<=a/\a<=hi:=by simp[di]
theorem dV (a b c:Int):bh a b c=some (di a b c):=by simp only[bh,bQ,ab,di];cases h:decide (a>=b)<;>rfl
theorem cx (a b c:Int):aC a b c=some (di a b c):=dV a b c
theorem cB {l:aw α}(h:i<l.length)(d:α):l.getD i d=l[i]:=by rw[aW,al h];rfl
def Sx (l:cc)(i:Nat):Bool:=di (l.getD i 0) 0 4095&& !(decide (0<i)&&decide (l.getD i 0<=l.getD (i-1) 0))
def fK (f:Filter):Bool:=(range f.2.2.length).all (Sx f.2.2)&&(di f.1 0 281474976710654&&decide ((f.2.2.length:Int)<=8))
theorem FB (f:Filter)(h:f.2.2.length<=10^9):rM f=some (fK f):=by
 unfold rM;rw[jG (hit:=some false) (fin:=some (di f.1 0 281474976710654&&decide ((f.2.2.length:Int)<=8))) (Sx f.2.2) f.2.2.length (by omega) (λi nx hi=>?hs) (λnx=>?hf)]
 case hs=>
  simp only[uA]
  rw[jP,bB hi,ak (n:=(i:Int)+1)]
  simp only[ah,ab,dV,Sx,cB hi]
  by_cases h0:0<i
  ·have e:ar ((i:Int)-1)=((i-1:Nat):Int):=by rw[ak];omega
   have hp:i-1<f.2.2.length:=by omega
   rw[e,bB hp,ax (show(i:Int)>0 by omega),ax h0,cB hp]
   simp only[ah,ab,bt]
   cases di f.2.2[i] 0 4095<;>cases decide (f.2.2[i]<=f.2.2[i-1])<;>rfl
  ·rw[aq (show¬(i:Int)>0 by omega),aq h0]
   simp only[af,eo]
   cases di f.2.2[i] 0 4095<;>rfl
 case hf=>
  simp only[uA]
  rw[cL]
  simp only[af,dV,ab,F0,bQ]
  cases di f.1 0 281474976710654<;>rfl
 unfold fK;cases (range f.2.2.length).all (Sx f.2.2)<;>rfl
theorem sZ (f:Filter)(h:f.2.2.length<=10^9):jb f=some (fK f):=by
 unfold jb;rw[jG (hit:=some false) (fin:=some (di f.1 0 281474976710654&&decide ((f.2.2.length:Int)<=8))) (Sx f.2.2) f.2.2.length (by omega) (λi nx hi=>?hs) (λnx=>?hf)]
 case hs=>
  simp only[tX]
  rw[jP,bB hi,ak (n:=(i:Int)+1)]
  simp only[ah,ab,cx,Sx,cB hi]
  by_cases h0:0<i
  ·have e:ar ((i:Int)-1)=((i-1:Nat):Int):=by rw[ak];omega
   have hp:i-1<f.2.2.length:=by omega
   rw[e,bB hp,ax (show(i:Int)>0 by omega),ax h0,cB hp]
   simp only[ah,ab,bt,ge_iff_le]
   cases di f.2.2[i] 0 4095<;>cases decide (f.2.2[i]<=f.2.2[i-1])<;>rfl
  ·rw[aq (show¬(i:Int)>0 by omega),aq h0]
   simp only[af,eo]
   cases di f.2.2[i] 0 4095<;>rfl
 case hf=>
  simp only[tX]
  rw[cL]
  simp only[af,cx,ab,F0,bQ]
  cases di f.1 0 281474976710654<;>rfl
 unfold fK;cases (range f.2.2.length).all (Sx f.2.2)<;>rfl
def DP (r:oe):Bool:=(oa r).getD false
theorem aba (r:oe):oa r=some (DP r):=by
 have:∃b,oa r=some b:=by simp only[oa,dV,ab,bQ];exact⟨_,rfl⟩
 obtain⟨b,hb⟩:=this;simp[DP,hb]
theorem ak9 (r:oe):DG r=some (DP r):=aba r
theorem aaU {r:oe}(h:DP r=true):r.2.2.2.2.2.2.2.1=0\/r.2.2.2.2.2.2.2.2=0:=by
 by_cases h0:r.2.2.2.2.2.2.2.1=0;exact .inl h0;by_cases h1:r.2.2.2.2.2.2.2.2=0;exact .inr h1;exfalso;have e0:(r.2.2.2.2.2.2.2.1==0)=false:=by simp[h0]
 have e1:(r.2.2.2.2.2.2.2.2==0)=false:=by simp[h1]
 revert h;unfold DP;simp only[oa,dV,ab,bQ,e0,e1,af,gO];have z:∀c:Bool,(bif c then false else false)=false:=by intro c;cases c<;>rfl
 simp only[z];intro h;cases h
def Bf (l:aw oe):Bool:=l.all DP&&decide ((l.length:Int)<=12)
theorem Vh (l:aw oe)(h:l.length<=10^9):BP l=some (Bf l):=by
 unfold BP;rw[tM (hit:=some false) (fin:=some (decide ((l.length:Int)<=12))) DP l (by omega) (λi hi nx=>?hs) (λnx=>?hf)]
 case hs=>
  simp only[wx]
  rw[jP,bB hi,ak]
  simp only[ah,ab,aba];rfl
 case hf=>
  simp only[wx]
  rw[cL];rfl
 unfold Bf;cases l.all DP<;>rfl
theorem Uw (l:aw oe)(h:l.length<=10^9):BD l=some (Bf l):=by rw[<-Vh l h];rfl
theorem awR (x:Int):((BitVec.ofInt 64 x&&&BitVec.ofInt 64 7).toNat:Int)=x%8:=by
 have h7:(BitVec.ofInt 64 7).toNat=2^3-1:=by decide
 rw[BitVec.toNat_and,h7,Nat.and_two_pow_sub_one_eq_mod];simp only[BitVec.toNat_ofInt];omega
theorem ar4 (x:Int):((iR x&&&iR 7).toNat:Int)=x%8:=awR x
theorem an4 (x:Int):jN x 8=some (x%8):=by unfold jN;rw[lI,Int.tmod_eq_emod];split;rw[cL];simp;rw[ax (by simp;omega),ak (by simp;omega) (by simp;omega)];simp
def IH (f:lJ):Int:=(f.1%8+f.2.1%8+f.2.2.1%8+f.2.2.2.1%8+f.2.2.2.2%8)%8
theorem Zn (f:lJ):0<=IH f/\IH f<8:=by unfold IH;omega
theorem amO {n:Int}(h:0<=n:=by omega):tmod n 8=n%8:=dR h
theorem amd (f:lJ):Ac f=some (IH f):=by
 unfold Ac;generalize hL:[f.1,f.2.1,f.2.2.1,f.2.2.2.1,f.2.2.2.2]=L;have hlen:L.length=5:=by rw[<-hL];rfl
 have D7:=eX;have key:=EG (R:=Int) (T:=pQ (λ(y2:Int) (y3:Int)=>if 8=0 then none else(some (tmod y2 8))) L) L (λ(s:Int) i=>(s,(i:Int))) (λx s k=>k (ar (s+ar (x%8)))) (λs=>some (tmod s 8)) (λi hi s nx=>by simp only[pQ];rw[jP,bB hi,ak (n:=(i:Int)+1)];simp only[ah,ab];rw[ar4 L[i]];rfl) (λs nx=>by simp only[pQ];rw[cL];rfl) fuel 0 0 (by omega) (by omega);refine key.trans ?_;rw[<-hL];simp only[fQ,Cy];rw[ak (n:=f.1%8),ak (n:=f.2.1%8),ak (n:=f.2.2.1%8),ak (n:=f.2.2.2.1%8),ak (n:=f.2.2.2.2%8)];rw[ak (n:=0+f.1%8),ak (n:=0+f.1%8+_),ak (n:=0+f.1%8+_+_),ak (n:=0+f.1%8+_+_+_),ak (n:=0+f.1%8+_+_+_+_)];rw[amO,IH,Int.zero_add]
theorem ak0 (f:lJ):zN f=some (IH f):=by
 unfold zN;generalize hL:[f.1,f.2.1,f.2.2.1,f.2.2.2.1,f.2.2.2.2]=L;have hlen:L.length=5:=by rw[<-hL];rfl
 have D7:=eX;have key:=EG (R:=Int) (T:=po (λ(y2:Int) (y3:Int)=>if 8=0 then none else(some (tmod y2 8))) L (L.length:Int)) L (λ(s:Int) i=>(s,(i:Int))) (λx s k=>k (ar (s+(x%8)))) (λs=>some (tmod s 8)) (λi hi s nx=>by simp only[po];rw[jP,bB hi,ak (n:=(i:Int)+1)];simp only[ah,ab,an4];rfl) (λs nx=>by simp only[po];rw[cL];rfl) fuel 0 0 (by omega) (by omega);refine key.trans ?_;rw[<-hL];simp only[fQ,Cy];rw[ak (n:=0+f.1%8),ak (n:=0+f.1%8+_),ak (n:=0+f.1%8+_+_),ak (n:=0+f.1%8+_+_+_),ak (n:=0+f.1%8+_+_+_+_)];rw[amO,IH,Int.zero_add]
def ij (t:aw Slot)(i:Nat):Slot:=t.getD i (0,(0,0,0,0,0),0)
theorem za {t:aw Slot}(h:i<t.length):ij t i=t[i]:=cB h _
def na (f:lJ)(k:Nat):Nat:=((IH f).toNat+k)%8
theorem LX (f:lJ)(k:Nat):na f k<8:=Nat.mod_lt _ (by omega)
theorem aby (f:lJ)(k:Nat)(h:k<8):tmod (ar (IH f+(k:Int))) 8=(na f k:Int):=by have:=Zn f;rw[ak,amO,na];omega
def ry (s:Slot)(f:lJ):Bool:=(s.1==1)&&decide (s.2.1=f)
theorem O9 (p q:lJ):((p.1==q.1)&&((p.2.1==q.2.1)&&((p.2.2.1==q.2.2.1)&&((p.2.2.2.1==q.2.2.2.1)&&((p.2.2.2.2==q.2.2.2.2)&&true)))))=decide (p=q):=by obtain⟨a,b,c,d,e⟩:=p;obtain⟨a',b',c',d',e'⟩:=q;rw[cQ];simp
def walk (t:aw Slot)(f:lJ):Nat->Nat->Int
 |0,_=> -1
 |n+1,k=>if(ij t (na f k)).1=0 then-1 else if ry (ij t (na f k)) f then(na f k:Int) else walk t f n (k+1)
theorem amc (t:aw Slot)(f:lJ)(ht:t.length=8):BW t f=some (walk t f 8 0):=by
 unfold BW;have D7:=eX
 have key:=K6 (R:=Int) (T:=rp (λ(y6:Int)=>some (-1)) (λ(y7:Int) (y8:Int)=>some y7) 0 t f) 8 (λ(_:Unit) i=>(i:Int))
  (λi s k=>if(ij t (na f i)).1=0 then some (-1) else if ry (ij t (na f i)) f then some (na f i:Int) else k s) (λ_=>some (-1))
  (λi s nx hi=>by
   have hw:na f i<t.length:=by have:=LX f i;omega
   simp only[rp,amd];rw[jP,ak (n:=(i:Int)+1)];simp only[ah,ab,aby f i hi,bB hw,za hw,O9,ry,bQ,ab];rw[lI];by_cases h0:t[na f i].1=0;simp[h0];have e0:(t[na f i].1==0)=false:=by simp[h0]
   rw[e0,aG h0];cases (t[na f i].1==1)<;>cases decide (t[na f i].2.1=f)<;>rfl)
  (λs nx=>by simp only[rp];rfl)
  fuel 0 () (by omega) (by omega)
 refine key.trans ?_;have main:∀n i,upK (R:=Int) (λi (s:Unit) k=>if(ij t (na f i)).1=0 then some (-1) else if ry (ij t (na f i)) f then some (na f i:Int) else k s) (λ_=>some (-1)) 8 n i ()=some (walk t f n i):=by intro n;induction n with|zero=>intro i;rfl|succ n ih=>intro i;rw[upK,walk];split;rfl;split;rfl;exact ih (i+1)
 exact main 8 0
def AU (f:lJ):aw Slot->Int->Int
 |[],_=> -1
 |s::r,i=>if ry s f then i else AU f r (i+1)
theorem ZK (t:aw Slot)(f:lJ)(h:t.length<=10^9):Ay t f=some (AU f t 0):=by
 unfold Ay;have D7:=eX;have key:∀n i,i<=t.length->t.length-i<n->bj (yc (λ(y3:Int)=>some (-1)) (λ(y4:Int) (y5:Int)=>some y4) 0 t ((List.length t:Int)) f) n (i:Int)=some (AU f (t.drop i) i):=by
  intro n;induction n with
  |zero=>intro i _ h;omega
  |succ n ih=>
   intro i hi hn;rw[bj];simp only[yc];rcases cg i t.length with hG|CF;rw[jP,bB hG,bW hG,AU,ak];simp only[ah,ab,O9,bQ];have e:(bif t[i].1==1 then decide (t[i].2.1=f) else false)=ry t[i] f:=by unfold ry;cases (t[i].1==1)<;>rfl
   rw[e];cases ry t[i] f with|true=>rfl|false=>exact ih (i+1) (by omega) (by omega)
   have:i=t.length:=by omega
   subst this;rw[cL,gN];rfl
 exact key fuel 0 (by omega) (by omega)
theorem anK (f:lJ):Fq f=some ((range 8).map λk=>(na f k:Int)):=by unfold Fq;have D7:=eX;have key:=K6 (R:=cc) (T:=vC (λ(y2:cc) (y3:Int)=>some y2) f) 8 (λ(_:Unit) i=>((range i).map (λk=>(na f k:Int)),(i:Int))) (λ_ s k=>k s) (λ_=>some ((range 8).map λk=>(na f k:Int))) (λi s nx hi=>by simp only[vC,ak0];rw[jP,ak (n:=(i:Int)+1)];simp only[ah,ab,aby f i hi];rw[lI,aX (by simp;omega),iz,cZ];rfl) (λs nx=>by simp only[vC];rfl) fuel 0 () (by omega) (by omega);exact key
def clear (t:aw Slot)(f:lJ)(i:Nat):Nat->Nat->Bool
 |0,_=>true
 |n+1,k=>if na f k=i then true else if(ij t (na f k)).1=0 then false else clear t f i n (k+1)
theorem ahc (k0:Int->aB R)(k1:Bool->Int->aB R)(hit fin:aB R)(h0:∀x,k0 x=fin)(h1:∀x,k1 false x=hit)(v2:Bool)(i:Nat)(Vw:aw Slot)(Vx v14:Int)(t:aw Slot)(f:lJ)(ht:t.length=8): bj (mq k0 k1 v2 (i:Int) Vw Vx v14 ((range 8).map λk=>(na f k:Int)) (((range 8).map λk=>(na f k:Int)).length:Int) t) fuel 0=cond (clear t f i 8 0) fin hit:=by
 have D7:=eX;have hl:((range 8).map λk=>(na f k:Int)).length=8:=by simp
 have key:=K6 (R:=R) (T:=mq k0 k1 v2 (i:Int) Vw Vx v14 ((range 8).map λk=>(na f k:Int)) (((range 8).map λk=>(na f k:Int)).length:Int) t) 8 (λ(_:Unit) i=>(i:Int))
  (λk s c=>if na f k=i then fin else if(ij t (na f k)).1=0 then hit else c s) (λ_=>fin)
  (λk s nx hk=>by
   have hw:na f k<t.length:=by have:=LX f k;omega
   simp only[mq];rw[jP,bB (show k<((range 8).map λk=>(na f k:Int)).length by omega),ak (n:=(k:Int)+1)];simp only[ah,ab,List.getElem_map,List.getElem_range,bB hw,za hw,h0,h1];by_cases e1:na f k=i;subst e1;simp;have:((na f k:Int)==(i:Int))=false:=by simp;omega
   rw[this,aG e1];by_cases e2:t[na f k].1=0;simp[e2];have:(t[na f k].1==0)=false:=by simp[e2]
   rw[this,aG e2];rfl)
  (λs nx=>by simp only[mq];rw[cL];exact h0 _)
  fuel 0 () (by omega) (by omega)
 refine key.trans ?_;have main:∀n k,upK (R:=R) (λk (s:Unit) c=>if na f k=i then fin else if(ij t (na f k)).1=0 then hit else c s) (λ_=>fin) 8 n k ()=cond (clear t f i n k) fin hit:=by intro n;induction n with|zero=>intro k;rfl|succ n ih=>intro k;rw[upK,clear];split;rfl;split;rfl;exact ih (k+1)
 exact main 8 0
def YL:lJ:=(0,0,0,0,0)
theorem YM (p:lJ):((p.1==0)&&((p.2.1==0)&&((p.2.2.1==0)&&((p.2.2.2.1==0)&&((p.2.2.2.2==0)&&true)))))=decide (p=YL):=O9 p YL
def Vb (s:Slot):Bool:=di s.1 0 2&&di s.2.2 0 3&&((s.1==1)||(s.2.2==0)&&decide (s.2.1=YL))
def pN (t:aw Slot)(i:Nat):Bool:=Vb (ij t i)&&(!((ij t i).1==1)||(walk t (ij t i).2.1 8 0==(i:Int)))
def wY (t:aw Slot)(i:Nat):Bool:=Vb (ij t i)&&(!((ij t i).1==1)||(AU (ij t i).2.1 t 0==(i:Int))&&clear t (ij t i).2.1 i 8 0)
def uU (t:aw Slot):Bool:=(t.length==8)&&(range 8).all (pN t)
theorem aiO (t:aw Slot):BQ t=some (uU t):=by
 unfold BQ uU;by_cases ht:t.length=8
 ·have e:((t.length:Int) !=8)=false:=by rw[ht];rfl
  have e2:(t.length==8)=true:=by rw[ht];rfl
  rw[e,e2];simp only[af,bt];rw[jG (hit:=some false) (fin:=some true) (pN t) 8 (by omega) (λi nx hi=>?hs) (λnx=>?hf)]
  case hs=>
   have hl:i<t.length:=by omega
   simp only[wz]
   rw[jP,bB hl,ak]
   simp only[ah,ab,dV,bQ,YM,amc t _ ht,pN,za hl,Vb,bne]
   cases di t[i].1 0 2<;>cases di t[i].2.2 0 3<;>cases (t[i].1==1)<;>cases (t[i].2.2==0)<;>cases decide (t[i].2.1=YL)<;>first|rfl|(cases (walk t t[i].2.1 8 0==(i:Int))<;>rfl)
  case hf=>
   simp only[wz]
   rw[cL];rfl
  cases (range 8).all (pN t)<;>rfl
 have e:((t.length:Int) !=8)=true:=by simp;omega
 have e2:(t.length==8)=false:=by simp[ht]
 rw[e,e2];rfl
theorem ado (t:aw Slot):uj t=some ((t.length==8)&&(range 8).all (wY t)):=by
 unfold uj;by_cases ht:t.length=8
 ·have e:((t.length:Int) !=8)=false:=by rw[ht];rfl
  have e2:(t.length==8)=true:=by rw[ht];rfl
  rw[e,e2];simp only[af,bt];rw[jG (hit:=some false) (fin:=some true) (wY t) 8 (by omega) (λi nx hi=>?hs) (λnx=>?hf)]
  case hs=>
   have hl:i<t.length:=by omega
   simp only[vZ]
   rw[jP,bB hl,ak]
   simp only[ah,ab,cx,bQ,YM,ZK t _ (show t.length<=10^9 by omega),anK,wY,za hl,Vb,bne]
   rw[ahc (λ_=>nx ((i:Int)+1)) (λ(y:Bool) (_:Int)=>some y) (some false) (nx ((i:Int)+1)) (λ_=>rfl) (λ_=>rfl) _ _ _ _ _ _ _ ht]
   cases di t[i].1 0 2<;>cases di t[i].2.2 0 3<;>cases (t[i].1==1)<;>cases (t[i].2.2==0)<;>cases decide (t[i].2.1=YL)<;>first|rfl|(cases (AU t[i].2.1 t 0==(i:Int))<;>first|rfl|(cases clear t t[i].2.1 i 8 0<;>rfl))
  case hf=>
   simp only[vZ]
   rw[cL];rfl
  cases (range 8).all (wY t)<;>rfl
 have e:((t.length:Int) !=8)=true:=by simp;omega
 have e2:(t.length==8)=false:=by simp[ht]
 rw[e,e2];rfl
theorem VA (t:aw Slot)(f:lJ)(i:Nat):∀n k,walk t f n k=(i:Int)->ry (ij t i) f=true/\clear t f i n k=true/\∃j,j<n/\na f (k+j)=i
 |0,k,h=>by unfold walk at h;omega
 |n+1,k,h=>by
  unfold walk at h;unfold clear;by_cases h0:(ij t (na f k)).1=0;rw[aH h0]at h;omega;rw[aG h0]at h;by_cases h1:ry (ij t (na f k)) f=true;rw[aH h1]at h;have:na f k=i:=by omega
  subst this;exact⟨h1,by simp,0,by omega,rfl⟩;rw[aG h1]at h;obtain⟨a,b,j,hj,e⟩:=VA t f i n (k+1) h;refine⟨a,?_,j+1,by omega,by rw[<-e];congr 1;omega⟩;rw[aG h0,b];split<;>rfl
theorem agd (t:aw Slot)(f:lJ)(i:Nat)(hu:ry (ij t i) f=true)(ao7:∀j,j<8->ry (ij t j) f=true->j=i):∀n k,clear t f i n k=true->(∃j,j<n/\na f (k+j)=i)->walk t f n k=(i:Int)
 |0,k,_,h=>by obtain⟨j,hj,_⟩:=h;omega
 |n+1,k,hc,⟨j,hj,e⟩=>by unfold walk;unfold clear at hc;by_cases h1:na f k=i;rw[h1,aG,aH hu];intro h0;unfold ry at hu;rw[h0]at hu;simp at hu;rw[aG h1]at hc;by_cases h0:(ij t (na f k)).1=0;rw[aH h0]at hc;cases hc;rw[aG h0]at hc;rw[aG h0,aG (λWQ=>h1 (ao7 _ (LX f k) WQ))];refine agd t f i hu ao7 n (k+1) hc ?_;cases j with|zero=>exact absurd e h1|succ j=>exact⟨j,by omega,by rw[<-e];congr 1;omega⟩
theorem aox (f:lJ)(i:Nat)(hi:i<8):∃j,j<8/\na f (0+j)=i:=by have:=Zn f;refine⟨(i+8-(IH f).toNat)%8,by omega,?_⟩;unfold na;omega
theorem GG (f:lJ):∀(t:aw Slot)(m:Nat),(∃j,j<t.length/\ry (ij t j) f=true)->∃j,j<t.length/\ry (ij t j) f=true/\AU f t m=((m+j:Nat):Int)
 |[],_,h=>by obtain⟨j,hj,_⟩:=h;simp at hj
 |s::r,m,⟨j,hj,e⟩=>by
  unfold AU;by_cases hs:ry s f=true;rw[aH hs];exact⟨0,by simp,by simpa[ij]using hs,by simp⟩;rw[aG hs];cases j with
  |zero=>exact absurd (by simpa[ij]using e) hs
  |succ j=>
   obtain⟨j',h1,h2,h3⟩:=GG f r (m+1) ⟨j,by simpa using hj,by simpa[ij]using e⟩;refine⟨j'+1,by simpa using h1,by simpa[ij]using h2,?_⟩;have:((m:Int)+1)=((m+1:Nat):Int):=by omega
   rw[this,h3];congr 1;omega
theorem aeo (t:aw Slot)(ht:t.length=8):(range 8).all (wY t)=(range 8).all (pN t):=by
 rw[cQ,aF,aF];simp only[bG];constructor;intro h i hi;have hI:=h i hi;unfold wY at hI;unfold pN;simp only[ae,cY,aO,bn]at hI⊢;refine⟨hI.1,?_⟩;rcases hI.2 with h1|⟨h1,h2⟩;exact .inl h1;by_cases hu:((ij t i).1==1)=true;right;have WQ:ry (ij t i) (ij t i).2.1=true:=by unfold ry;rw[hu];simp
 refine agd t _ i WQ (λj hj huj=>?_) 8 0 h2 (aox _ i hi);have hJ:=h j hj;unfold wY at hJ;unfold ry at huj;simp only[ae,aJ]at huj;simp only[ae,cY,aO,bn]at hJ;rcases hJ.2 with h3|⟨h3,_⟩;rw[huj.1]at h3;cases h3;rw[huj.2]at h3;omega;exact .inl (by simpa using hu);intro h i hi;have hI:=h i hi;unfold pN at hI;unfold wY;simp only[ae,cY,aO,bn]at hI⊢;refine⟨hI.1,?_⟩;rcases hI.2 with h1|h1;exact .inl h1;right;obtain⟨hu,hc,_⟩:=VA t _ i 8 0 h1;refine⟨?_,hc⟩;obtain⟨j,hj,huj,e⟩:=GG (ij t i).2.1 t 0 ⟨i,by omega,hu⟩;have hJ:=h j (by omega);unfold pN at hJ;unfold ry at huj;simp only[ae,aJ]at huj;simp only[ae,cY,aO,bn]at hJ;rcases hJ.2 with h3|h3;rw[huj.1]at h3;cases h3;rw[huj.2,h1]at h3;have e':AU (ij t i).2.1 t 0=((0+j:Nat):Int):=e;rw[e'];omega
theorem UA (t:aw Slot):uj t=some (uU t):=by
 rw[ado,uU];by_cases ht:t.length=8;rw[aeo t ht];have e2:(t.length==8)=false:=by simp[ht]
 rw[e2];rfl
def afQ (n:Int):Bool:=(n==1)||(n==2)||(n==4)||(n==8)||(n==16)
theorem ady (n:Int):BU n=some (afQ n):=by simp only[BU,bQ,ab,afQ];cases (n==1)<;>cases (n==2)<;>cases (n==4)<;>cases (n==8)<;>rfl
def sH (s:uO)(q:Int):Bool:=di q 1 4&&((s.1.length:Int)==16)&&afQ s.2.length&&s.2.all λx=>di x 0 (q-1)
theorem Sb (s:uO)(q:Int)(h:s.2.length<=10^9):Af s q=some (sH s q):=by
 unfold Af sH;simp only[dV,ady,ab,bQ,bne];by_cases hq:di q 1 4=true
 ·rw[tM (hit:=some false) (fin:=some true) (λx=>di x 0 (q-1)) s.2 (by omega) (λi hi nx=>?hs) (λnx=>?hf)]
  case hs=>
   rw[aU]at hq
   simp only[uF]
   rw[jP,bB hi,ak (n:=(i:Int)+1),ak (n:=q-1)]
   simp only[ah,ab,dV];rfl
  case hf=>
   simp only[uF]
   rw[cL];rfl
  rw[hq];cases ((s.1.length:Int)==16)<;>cases afQ s.2.length<;>cases s.2.all (λx=>di x 0 (q-1))<;>rfl
 have hq':di q 1 4=false:=by simpa using hq
 rw[hq'];rfl
theorem Q5 (s:uO)(q:Int)(h:s.2.length<=10^9):zT s q=some (sH s q):=by rw[<-Sb s q h];rfl
def fI (s:dQ)(q:Int):Bool:=Bf s.1&&uU s.2.1&&sH s.2.2 q&&s.1.all (λr=> !(decide (r.2.2.2.2.2.2.2.2>=q)))&&s.2.1.all (λx=> !(decide (x.2.2>=q)))
theorem LF (s:dQ)(q:Int)(h1:s.1.length<=10^9)(h2:s.2.1.length<=10^9)(h3:s.2.2.2.length<=10^9):wy s q=some (fI s q):=by
 unfold wy fI;simp only[Vh _ h1,aiO,Sb _ _ h3,ab,bQ];rw[tM (hit:=some false) (fin:=cond (s.2.1.all (λx=> !(decide (x.2.2>=q)))) (some true) (some false)) (λr:oe=> !(decide (r.2.2.2.2.2.2.2.2>=q))) s.1 (by omega) (λi hi nx=>?hs) (λnx=>?hf)]
 case hs=>
  simp only[qK]
  rw[jP,bB hi,ak]
  simp only[ah,ab,gP];rfl
 case hf=>
  simp only[qK]
  rw[cL]
  simp only[af]
  rw[tM (hit:=some false) (fin:=some true) (λx:Slot=> !(decide (x.2.2>=q))) s.2.1 (by omega) (λi hi nx=>?hs) (λnx=>?hf)]
  case hs=>
   simp only[qL]
   rw[jP,bB hi,ak]
   simp only[ah,ab,gP];rfl
  case hf=>
   simp only[qL]
   rw[cL];rfl
 cases Bf s.1<;>cases uU s.2.1<;>cases sH s.2.2 q<;>cases s.1.all (λr=> !(decide (r.2.2.2.2.2.2.2.2>=q)))<;>cases s.2.1.all (λx=> !(decide (x.2.2>=q)))<;>rfl
theorem KV (s:dQ)(q:Int)(h1:s.1.length<=10^9)(h2:s.2.1.length<=10^9)(h3:s.2.2.2.length<=10^9):rb s q=some (fI s q):=by
 unfold rb fI;simp only[Uw _ h1,UA,Q5 _ _ h3,ab,bQ];rw[tM (hit:=some false) (fin:=cond (s.2.1.all (λx=> !((x.1==1)&&decide (x.2.2>=q)))) (some true) (some false)) (λr:oe=> !((r.2.2.2.2.2.2.2.1==0)&&decide (r.2.2.2.2.2.2.2.2>=q))) s.1 (by omega) (λi hi nx=>?hs) (λnx=>?hf)]
 case hs=>
  simp only[qx]
  rw[jP,bB hi,ak]
  simp only[ah,ab,gP,bQ]
  cases (s.1[i].2.2.2.2.2.2.2.1==0)<;>rfl
 case hf=>
  simp only[qx]
  rw[cL]
  simp only[af]
  rw[tM (hit:=some false) (fin:=some true) (λx:Slot=> !((x.1==1)&&decide (x.2.2>=q))) s.2.1 (by omega) (λi hi nx=>?hs) (λnx=>?hf)]
  case hs=>
   simp only[oF]
   rw[jP,bB hi,ak]
   simp only[ah,ab,gP,bQ]
   cases (s.2.1[i].1==1)<;>rfl
  case hf=>
   simp only[oF]
   rw[cL];rfl
 cases hr:Bf s.1 with
 |false=>rfl
 |true=>
  cases ht:uU s.2.1 with
  |false=>rfl
  |true=>
   cases hs:sH s.2.2 q with
   |false=>rfl
   |true=>
    have hq:1<=q:=by unfold sH at hs;simp only[ae,aU]at hs;exact hs.1.1.1.1
    have e1:s.1.all (λr=> !((r.2.2.2.2.2.2.2.1==0)&&decide (r.2.2.2.2.2.2.2.2>=q)))=s.1.all (λr=> !(decide (r.2.2.2.2.2.2.2.2>=q))):=by unfold Bf at hr;simp only[ae,aF]at hr;rw[cQ,aF,aF];refine forall_congr' λr=>forall_congr' λhm=>?_;rcases aaU (hr.1 r hm)with h0|h0;rw[h0];simp;rw[h0];simp only[aq (show¬(0:Int)>=q by omega),eM]
    have e2:s.2.1.all (λx=> !((x.1==1)&&decide (x.2.2>=q)))=s.2.1.all (λx=> !(decide (x.2.2>=q))):=by unfold uU at ht;simp only[ae,aF,bG,bn]at ht;rw[cQ,aF,aF];refine forall_congr' λx=>forall_congr' λhm=>?_;obtain⟨i,hi,rfl⟩:=List.mem_iff_getElem.1 hm;have hsl:=ht.2 i (by omega);unfold pN Vb at hsl;rw[za hi]at hsl;simp only[ae,cY,bn]at hsl;rcases hsl.1.2 with h0|⟨h0,_⟩;rw[h0];simp;rw[h0];simp only[aq (show¬(0:Int)>=q by omega),eM]
    rw[e1,e2];cases s.1.all (λr=> !(decide (r.2.2.2.2.2.2.2.2>=q)))<;>cases s.2.1.all (λx=> !(decide (x.2.2>=q)))<;>rfl
theorem jU (h:n<9223372036854775808:=by omega):ar (n:Int)=(n:Int):=ak
theorem LY (h:n<4294967296:=by omega):IntKind.wrap .u32 (n:Int)=(n:Int):=by simp only[ar,hY,IntKind.wrap,IntKind.bits,IntKind.signed];simp;omega
theorem vQ (b:UInt8):b.toNat<256:=b.toNat_lt
def cy (v:Int):Bytes:=(dK v).getD []
theorem qH (v:Int):dK v=some (cy v):=by
 unfold cy;have:∃x,dK v=some x:=by simp only[dK,dV,ab];cases di v 0 65535<;>exact⟨_,rfl⟩
 obtain⟨x,hx⟩:=this;rw[hx];rfl
theorem mF (v:Int):cD v=some (cy v):=qH v
theorem J0 (v:Int):(cy v).length=bif di v 0 65535 then 2 else 0:=by have h:=qH v;simp only[dK,dV,ab]at h;cases hb:di v 0 65535<;>rw[hb]at h<;>(rw[<-bP h];rfl)
theorem bT (v:Int):(cy v).length<=2:=by rw[J0];cases di v 0 65535<;>simp
def gz (v:Int):Bytes:=(gi v).getD []
theorem oq (v:Int):gi v=some (gz v):=by
 unfold gz;have:∃x,gi v=some x:=by simp only[gi,dV,ab];cases di v 0 4294967295<;>exact⟨_,rfl⟩
 obtain⟨x,hx⟩:=this;rw[hx];rfl
theorem wJ (v:Int):gM v=some (gz v):=oq v
theorem Sz (v:Int):(gz v).length=bif di v 0 4294967295 then 4 else 0:=by have h:=oq v;simp only[gi,dV,ab]at h;cases hb:di v 0 4294967295<;>rw[hb]at h<;>(rw[<-bP h];rfl)
theorem dU (v:Int):(gz v).length<=4:=by rw[Sz];cases di v 0 4294967295<;>simp
def cn (s:Bytes)(i:Nat):Nat:=(s.getD i 0).toNat
theorem fg (s:Bytes)(i:Nat):cn s i<256:=vQ _
theorem nI (h:i<s.length:=by omega):∃x,idx s (i:Int)=some x/\x.toNat=cn s i:=⟨s[i],bB h,by rw[cn,cB h]⟩
def fT (s:Bytes)(a n:Int):Bool:=decide (0<=a/\a+n<=(s.length:Int))
theorem Hs (s:Bytes)(a n:Int)(h:s.length<=10^9)(hn:0<=n:=by omega):pU s a n=some (fT s a n):=by
 unfold pU fT;by_cases h0:0<=a;by_cases h1:a<=(s.length:Int)
 rw[ax (show a>=0 from h0),ax h1,ak];simp only[ah,ab];congr 1;rw[decide_eq_decide];omega;rw[ax (show a>=0 from h0),aq h1,aq (show¬(0<=a/\a+n<=(s.length:Int)) by omega)];rfl;rw[aq (show¬a>=0 from h0),aq (show¬(0<=a/\a+n<=(s.length:Int)) by omega)];rfl
def dA (s:Bytes)(a:Int):Int:=bif fT s a 2 then((cn s a.toNat*256+cn s (a.toNat+1):Nat):Int) else-1
def fj (s:Bytes)(a:Int):Int:=bif fT s a 4 then(((cn s a.toNat*256+cn s (a.toNat+1))*65536+(cn s (a.toNat+2)*256+cn s (a.toNat+3)):Nat):Int) else-1
theorem Vf (s:Bytes)(a:Int)(h:s.length<=10^9):C3 s a=some (dA s a):=by unfold C3 dA;rw[Hs s a 2 h,ab];cases hw:fT s a 2 with|false=>rfl|true=>simp only[fT,aJ]at hw;obtain⟨n,rfl⟩:=aD hw.1;obtain⟨x,hx,ex⟩:=nI (s:=s) (i:=n);obtain⟨y,hy,ey⟩:=nI (s:=s) (i:=n+1);have hxl:=fg s n;have hyl:=fg s (n+1);rw[ak (n:=(n:Int)+1),hx,show(n:Int)+1=((n+1:Nat):Int) by omega,hy];simp only[aj,af,ab,au,ah];rw[lI,ex,ey,jU,jU];have e8:rX 8=8:=rfl;rw[e8,ak (n:=((cn s n:Nat):Int)*2^8),ak];congr 1;all_goals omega
theorem aiJ (s:Bytes)(a:Int)(h:s.length<=10^9):zb s a=some (fj s a):=by
 unfold zb fj;rw[Hs s a 4 h,ab];cases hw:fT s a 4 with
 |false=>rfl
 |true=>
  simp only[fT,aJ]at hw;obtain⟨n,rfl⟩:=aD hw.1;have w1:fT s (n:Int) 2=true:=by simp only[fT,aJ];omega
  have w2:fT s ((n:Int)+2) 2=true:=by simp only[fT,aJ];omega
  have b0:=fg s n;have b1:=fg s (n+1);have b2:=fg s (n+2);have b3:=fg s (n+3);rw[ak (n:=(n:Int)+2),Vf s _ h,Vf s _ h];simp only[aj,af,ab,ah,dA,w1,w2,au];rw[lI,show((n:Int)+2).toNat=n+2 by omega,show n+2+1=n+3 by omega];have e8:rX 16=16:=rfl;rw[e8,ak (n:=((cn s n*256+cn s (n+1):Nat):Int)*2^16),ak];congr 1;all_goals omega
theorem axY (a b:Nat)(ha:a<9223372036854775808)(hb:b<9223372036854775808):toNat (iR (a:Int)|||iR (b:Int))=a|||b:=by show(BitVec.ofInt 64 (a:Int)|||BitVec.ofInt 64 (b:Int)).toNat=_;rw[eE,eE,BitVec.toNat_or,eZ,eZ,fi (by omega),fi (by omega)]
theorem aoI (a b:Nat)(ha:a<9223372036854775808:=by omega)(hb:b<9223372036854775808:=by omega):toNat (iR (a:Int)&&&iR (b:Int))=a&&&b:=by show(BitVec.ofInt 64 (a:Int)&&&BitVec.ofInt 64 (b:Int)).toNat=_;rw[eE,eE,BitVec.toNat_and,eZ,eZ,fi (by omega),fi (by omega)]
theorem am1 (a b:Nat)(ha:a<9223372036854775808)(hb:b<9223372036854775808):toNat (iR (a:Int)^^^iR (b:Int))=a^^^b:=by show(BitVec.ofInt 64 (a:Int)^^^BitVec.ofInt 64 (b:Int)).toNat=_;rw[eE,eE,BitVec.toNat_xor,eZ,eZ,fi (by omega),fi (by omega)]
theorem ar3 (a b:Nat)(ha:a<4294967296)(hb:b<4294967296):toNat (BitVec.ofInt (IntKind.bits .u32) (a:Int)&&&BitVec.ofInt (IntKind.bits .u32) (b:Int))=a&&&b:=by show(BitVec.ofInt 32 (a:Int)&&&BitVec.ofInt 32 (b:Int)).toNat=_;rw[eE,eE,BitVec.toNat_and,eZ,eZ,fi (by omega),fi (by omega)]
theorem apv (a b:Nat)(ha:a<4294967296)(hb:b<4294967296):toNat (BitVec.ofInt (IntKind.bits .u32) (a:Int)^^^BitVec.ofInt (IntKind.bits .u32) (b:Int))=a^^^b:=by show(BitVec.ofInt 32 (a:Int)^^^BitVec.ofInt 32 (b:Int)).toNat=_;rw[eE,eE,BitVec.toNat_xor,eZ,eZ,fi (by omega),fi (by omega)]
theorem JN (x k y:Nat)(hy:y<2^k:=by omega)(h:2^k*x+y<9223372036854775808:=by omega):ar (toNat (iR ((2^k*x:Nat):Int)|||iR (y:Int)):Int)=((2^k*x+y:Nat):Int):=by rw[axY _ _ (by omega) (by omega),<-Nat.two_pow_add_eq_or_of_lt hy];exact jU h
theorem OE (s:Bytes)(a n:Int):(cond (decide (a<0)) (some true) (some (decide (a>(s.length:Int)-n))))=some (!fT s a n):=by cases hw:fT s a n with|true=>simp only[fT,aJ]at hw;rw[aq (show¬a<0 by omega),aq (show¬a>(s.length:Int)-n by omega)];rfl|false=>simp only[fT,df]at hw;by_cases h0:a<0;rw[ax h0];rfl;rw[aq h0,ax (show a>(s.length:Int)-n by omega)];rfl
theorem yR (s:Bytes)(a:Int)(h:s.length<=10^9):gr s a=some (dA s a):=by unfold gr dA;rw[ak (n:=(s.length:Int)-2)];rw[OE,ab];cases hw:fT s a 2 with|false=>rfl|true=>simp only[fT,aJ]at hw;obtain⟨n,rfl⟩:=aD hw.1;obtain⟨x,hx,ex⟩:=nI (s:=s) (i:=n);obtain⟨y,hy,ey⟩:=nI (s:=s) (i:=n+1);have hxl:=fg s n;have hyl:=fg s (n+1);rw[ak (n:=(n:Int)+1),hx,show(n:Int)+1=((n+1:Nat):Int) by omega,hy];simp only[aj,af,ah,ab,au];rw[lI,ex,ey,jU (n:=cn s n),jU (n:=cn s (n+1))];have e8:rX 8=8:=rfl;rw[e8,show((cn s n:Nat):Int)*2^8=((2^8*cn s n:Nat):Int) by omega,jU (n:=2^8*cn s n),JN (cn s n) 8 (cn s (n+1))];congr 1;all_goals omega
theorem yS (s:Bytes)(a:Int)(h:s.length<=10^9):iU s a=some (fj s a):=by
 unfold iU fj;rw[ak (n:=(s.length:Int)-4)];rw[OE,ab];cases hw:fT s a 4 with
 |false=>rfl
 |true=>
  simp only[fT,aJ]at hw;obtain⟨n,rfl⟩:=aD hw.1;obtain⟨x0,h0,e0⟩:=nI (s:=s) (i:=n);obtain⟨x1,h1,e1⟩:=nI (s:=s) (i:=n+1);obtain⟨x2,h2,e2⟩:=nI (s:=s) (i:=n+2);obtain⟨x3,h3,e3⟩:=nI (s:=s) (i:=n+3);have b0:=fg s n;have b1:=fg s (n+1);have b2:=fg s (n+2);have b3:=fg s (n+3)
  rw[ak (n:=(n:Int)+1),ak (n:=(n:Int)+2),ak (n:=(n:Int)+3),h0,show(n:Int)+1=((n+1:Nat):Int) by omega,h1,
   show(n:Int)+2=((n+2:Nat):Int) by omega,h2,show(n:Int)+3=((n+3:Nat):Int) by omega,h3]
  simp only[aj,af,ah,ab,au];rw[lI,lI,lI,e0,e1,e2,e3];generalize cn s n=p0 at*;generalize cn s (n+1)=p1 at*;generalize cn s (n+2)=p2 at*;generalize cn s (n+3)=p3 at*;have f24:rX 24=24:=rfl;have f16:rX 16=16:=rfl;have f8:rX 8=8:=rfl
  rw[jU (n:=p0),jU (n:=p1),jU (n:=p2),jU (n:=p3),f24,f16,f8,
   show((p0:Nat):Int)*2^24=((2^24*p0:Nat):Int) by omega,show((p1:Nat):Int)*2^16=((2^16*p1:Nat):Int) by omega,show((p2:Nat):Int)*2^8=((2^8*p2:Nat):Int) by omega,
   jU (n:=2^24*p0),jU (n:=2^16*p1),jU (n:=2^8*p2),JN p0 24 (2^16*p1),
   show 2^24*p0+2^16*p1=2^16*(2^8*p0+p1) by omega,JN _ 16 (2^8*p2),
   show 2^16*(2^8*p0+p1)+2^8*p2=2^8*(2^8*(2^8*p0+p1)+p2) by omega,JN _ 8 p3]
  congr 1;all_goals omega
def Jo (c:Nat):Nat:=if c%2=1 then(c/2)^^^3988292384 else c/2
def xj:Nat->Nat->Nat
 |0,c=>c
 |n+1,c=>Jo (xj n c)
def awT (c:Nat)(s:Bytes):Nat:=s.foldl (λc b=>xj 8 (c^^^b.toNat)) c
def Nr (s:Bytes):Int:=4294967295-(awT 4294967295 s:Int)
theorem FV {b:Nat}(ha:a<4294967296:=by omega)(hb:b<4294967296:=by omega):a^^^b<4294967296:=Nat.xor_lt_two_pow (n:=32) ha hb
theorem agB {c:Nat}(h:c<4294967296):Jo c<4294967296:=by unfold Jo;split;exact FV;omega
theorem Kj {c:Nat}(h:c<4294967296):∀n,xj n c<4294967296
 |0=>h
 |n+1=>agB (Kj h n)
theorem al7 (k0:Int->Int->aB R)(k:Int->aB R)(hk:∀x y,k0 x y=k x)(v0:Bytes)(v4:Int)(c:Nat)(h:c<4294967296):bj (rL k0 v0 v4) fuel ((c:Int),0)=k (xj 8 c:Int):=by
 have D7:=eX
 have key:=K6 (T:=rL k0 v0 v4) 8 (λ(_:Unit) i=>((xj i c:Int),(i:Int))) (λ_ s nx=>nx s) (λ_=>k (xj 8 c:Int))
  (λi s nx hi=>by
   have hc:=Kj h i;simp only[rL];have a1:=aoI (xj i c) 1;have x1:=am1 (xj i c/2) 3988292384 (by omega) (by omega);simp only[Int.natCast_one]at a1
   rw[jP,ah,a1,Nat.and_one_is_mod,
    show rX 1=1 from rfl,show fdiv ((xj i c:Nat):Int) (2^1)=((xj i c/2:Nat):Int) from by rw[Int.fdiv_eq_ediv_of_nonneg _ (by omega)];rfl,
    show(3988292384:Int)=((3988292384:Nat):Int) from rfl,x1,
    jU (n:=xj i c%2),jU (n:=(xj i c/2)^^^3988292384) (by have:=FV (a:=xj i c/2) (b:=3988292384);omega),lI,lI,ak (n:=(i:Int)+1)]
   show _=nx ((Jo (xj i c):Int),((i+1:Nat):Int));unfold Jo;by_cases hp:xj i c%2=1;rw[hp,aH rfl];rfl;have h0:xj i c%2=0:=by omega
   rw[h0,lI];rfl)
  (λs nx=>by simp only[rL];rw[cL,af,hk])
  fuel 0 () (by omega) (by omega)
 refine key.trans ?_;rfl
theorem akW (k0:Int->Int->aB R)(k:Int->aB R)(hk:∀x y,k0 x y=k x)(v0:Bytes)(v4:Int)(c:Nat)(h:c<4294967296):bj (rE k0 v0 v4) fuel ((c:Int),0)=k (xj 8 c:Int):=by
 have D7:=eX
 have key:=K6 (T:=rE k0 v0 v4) 8 (λ(_:Unit) i=>((xj i c:Int),(i:Int))) (λ_ s nx=>nx s) (λ_=>k (xj 8 c:Int))
  (λi s nx hi=>by
   have hc:=Kj h i;simp only[rE];have a1:=ar3 (xj i c) 1 (by omega) (by omega);have x1:=apv (xj i c/2) 3988292384 (by omega) (by omega);simp only[Int.natCast_one]at a1
   rw[jP,ah,a1,Nat.and_one_is_mod,
    show min (Int.toNat 1) (IntKind.bits .u32)=1 from rfl,show fdiv ((xj i c:Nat):Int) (2^1)=((xj i c/2:Nat):Int) from by rw[Int.fdiv_eq_ediv_of_nonneg _ (by omega)];rfl,
    show(3988292384:Int)=((3988292384:Nat):Int) from rfl,x1,
    LY (n:=xj i c%2),LY (n:=(xj i c/2)^^^3988292384) (FV),lI,ak (n:=(i:Int)+1)]
   show _=nx ((Jo (xj i c):Int),((i+1:Nat):Int));unfold Jo;by_cases hp:xj i c%2=1;rw[hp,aH rfl];rfl;have h0:xj i c%2=0:=by omega
   rw[h0,lI];rfl)
  (λs nx=>by simp only[rE];rw[cL,af,hk])
  fuel 0 () (by omega) (by omega)
 refine key.trans ?_;rfl
theorem afS (s:Bytes)(h:s.length<=10^9):C1 s=some (Nr s):=by
 unfold C1;have:=vF (T:=vI (λ(y4:Int) (_:Int)=>some (ar (4294967295-y4))) s) s (λ(c:Nat) i=>((c:Int),(i:Int))) (λ_ c=>c<4294967296) (λb c=> .ok (xj 8 (c^^^b.toNat))) (λc=>some (4294967295-(c:Int))) (by omega) (λi hi c nx hI=>?hs) (λi hi c c' hI hg=>?hn) (λc nx hI=>?hf) 4294967295 (by omega)
 case hs=>
  have hb:=vQ s[i]
  simp only[vI]
  rw[jP,bB hi,ah,ab,jU (n:=s[i].toNat),am1 c s[i].toNat (by omega) (by omega)]
  have hx:=FV hI (show s[i].toNat<4294967296 by omega)
  rw[jU,al7 _ (λy=>nx (y,(i:Int)+1)) (λx y=>by rw[ak]) _ _ _ hx];rfl
 case hn=>
  cases hg
  exact Kj (FV hI (by have:=vQ s[i];omega)) 8
 case hf=>
  simp only[vI]
  rw[cL,af,ak]
 rw[Ic]at this;exact this
theorem not_xor (c:Nat)(h:c<4294967296):toNat (BitVec.ofInt (IntKind.bits .u32) (IntKind.max .u32)^^^BitVec.ofInt (IntKind.bits .u32) (c:Int))=4294967295-c:=by show(BitVec.ofInt 32 4294967295^^^BitVec.ofInt 32 (c:Int)).toNat=_;rw[show BitVec.ofInt 32 4294967295=BitVec.allOnes 32 by decide,eE,BitVec.allOnes_xor,BitVec.toNat_not,eZ,fi (show c<2^32 by omega)]
theorem afo (s:Bytes)(h:s.length<=10^9):CJ s=some (Nr s):=by
 unfold CJ;have:=vF (T:=vp (λ(y4:Int) (_:Int)=>some (ar (IntKind.wrap .u32 (toNat (BitVec.ofInt (IntKind.bits .u32) (IntKind.max .u32)^^^BitVec.ofInt (IntKind.bits .u32) y4))))) s) s (λ(c:Nat) i=>((c:Int),(i:Int))) (λ_ c=>c<4294967296) (λb c=> .ok (xj 8 (c^^^b.toNat))) (λc=>some (4294967295-(c:Int))) (by omega) (λi hi c nx hI=>?hs) (λi hi c c' hI hg=>?hn) (λc nx hI=>?hf) 4294967295 (by omega)
 case hs=>
  have hb:=vQ s[i]
  simp only[vp]
  rw[jP,bB hi,ah,ab,LY (n:=s[i].toNat),apv c s[i].toNat (by omega) (by omega)]
  have hx:=FV hI (show s[i].toNat<4294967296 by omega)
  rw[LY hx,akW _ (λy=>nx (y,(i:Int)+1)) (λx y=>by rw[ak]) _ _ _ hx];rfl
 case hn=>
  cases hg
  exact Kj (FV hI (by have:=vQ s[i];omega)) 8
 case hf=>
  simp only[vp]
  rw[cL,af,not_xor c hI,LY,jU]
  congr 1
  all_goals omega
 rw[Ic]at this;exact this
def hasB (l:cc)(v:Int):Bool:=l.any (·==v)
theorem Zd:hasB l v=true↔v∈l:=by simp only[hasB,List.any_eq_true,bn];constructor;rintro⟨x,hx,rfl⟩;exact hx;intro h;exact⟨v,h,rfl⟩
theorem afT (l:cc)(v:Int)(h:l.length<=10^9):AI l v=some (hasB l v):=by
 unfold AI hasB;rw[J9 (hit:=some true) (fin:=some false) (λx:Int=>x==v) l (by omega) (λi hi nx=>?hs) (λnx=>?hf)]
 case hs=>
  simp only[yA]
  rw[jP,bB hi,ak];rfl
 case hf=>
  simp only[yA]
  rw[cL];rfl
 cases l.any (λx=>x==v)<;>rfl
theorem Bu (l:cc)(v:Int)(h:l.length<=10^9):ie l v=some (hasB l v):=by
 unfold ie hasB;rw[J9 (hit:=some true) (fin:=some false) (λx:Int=>x==v) l (by omega) (λi hi nx=>?hs) (λnx=>?hf)]
 case hs=>
  simp only[xY]
  rw[jP,bB hi,ak];rfl
 case hf=>
  simp only[xY]
  rw[cL];rfl
 cases l.any (λx=>x==v)<;>rfl
def ins (v:Int):cc->cc
 |[]=>[v]
 |x::l=>bif decide (v<x) then v::x::l else x::ins v l
theorem W5 (v:Int):∀l,(ins v l).length=l.length+1
 |[]=>rfl
 |x::l=>by rw[ins];cases decide (v<x)with|true=>rfl|false=>simp only[af,aP,W5 v l]
theorem afz (v x:Int):∀l,x∈ins v l↔x=v\/x∈l
 |[]=>by simp[ins]
 |y::l=>by rw[ins];cases decide (v<y)with|true=>simp|false=>simp only[af,bU,afz v x l];constructor<;>(rintro(h|h|h)<;>simp[h])
theorem alc (v:Int):∀l:cc,v∉l->l.take (l.findIdx (λx=> !decide (x<v)))++[v]++l.drop (l.findIdx (λx=> !decide (x<v)))=ins v l
 |[],_=>rfl
 |x::l,h=>by rw[ins,List.findIdx_cons];have hx:v≠x:=λe=>h (by simp[e]);have hl:v∉l:=λe=>h (by simp[e]);by_cases c:x<v;rw[ax c,aq (show¬v<x by omega)];have:=alc v l hl;simpa using this;rw[aq c,ax (show v<x by omega)];rfl
def yM (l:cc)(v:Int):cc:=bif hasB l v then l else ins v l
theorem J8 (l:cc)(v:Int):(yM l v).length<=l.length+1:=by unfold yM;cases hasB l v with|true=>simp|false=>simp only[af,W5];omega
theorem alr {x:Int}(h:x∈l):x∈yM l v:=by unfold yM;cases hasB l v with|true=>exact h|false=>exact(afz v x l).2 (.inr h)
theorem agn (h:v∈l):yM l v=l:=by unfold yM;rw[Zd.2 h];rfl
theorem EW:∀(vs l:cc),(vs.foldl yM l).length<=l.length+vs.length
 |[],l=>by simp
 |v::vs,l=>by have:=EW vs (yM l v);have:=J8 l v;simp only[dY,aP];omega
theorem ML:∀(vs:cc){l:cc}{x:Int},x∈l->x∈vs.foldl yM l
 |[],_,_,h=>h
 |v::vs,l,x,h=>ML vs (l:=yM l v) (alr h)
theorem akp (p:α->Bool)(k:Int->aB R)(l:aw α):(match l.findIdx? p with|some i=>k (i:Int)|none=>k (l.length:Int))=k (l.findIdx p:Int):=by cases h:l.findIdx? p with|none=>rw[List.findIdx?_eq_none_iff_findIdx_eq]at h;rw[h]|some i=>rw[List.findIdx?_eq_some_iff_findIdx_eq]at h;rw[h.2]
theorem abj (l:aw α)(j:Nat)(h:j<=l.length):sub l 0 (j:Int)=some (l.take j):=by unfold sub;rw[zip];simp
theorem LN (l:aw α)(j:Nat)(h:j<=l.length):sub l (j:Int) (l.length:Int)=some (l.drop j):=by unfold sub;rw[zip];simp
theorem Vk (a vs:cc)(h:a.length+vs.length<=10^9):vP a vs=some (vs.foldl yM a):=by
 unfold vP;rw[aX (by simp only[dZ];omega)];rw[cv];have:=vF (T:=pZ (λ(Em:cc) (_:Int)=>some Em) vs) vs (λ(s:cc) i=>(s,(i:Int))) (λi s=>s.length<=a.length+i) (λv s=> .ok (yM s v)) (λs=>some s) (by omega) (λi hi s nx hI=>?hs) (λi hi s s' hI hg=>?hn) (λs nx hI=>?hf) a (by simp)
 case hs=>
  simp only[pZ]
  rw[jP,bB hi,ak (n:=(i:Int)+1)]
  simp only[ah,ab,afT s vs[i] (by omega)]
  unfold yM
  cases hh:hasB s vs[i]with
  |true=>rfl
  |false=>
   have hm:vs[i]∉s:=λe=>by rw[Zd.2 e]at hh;cases hh
   simp only[af]
   rw[HO (hit:=λy6=>aa (sub s 0 y6) λx7=>room (List.length ([]:cc)+List.length x7) (room (List.length (([]:cc)++x7)+List.length ([vs[i]])) (aa (sub s y6 (s.length:Int)) λx9=>room (List.length ((([]:cc)++x7)++([vs[i]]))+List.length x9) (nx (((([]:cc)++x7)++([vs[i]]))++x9,(i:Int)+1)))))
    (fin:=aa (sub s 0 (s.length:Int)) λx7=>room (List.length ([]:cc)+List.length x7) (room (List.length (([]:cc)++x7)+List.length ([vs[i]])) (aa (sub s (s.length:Int) (s.length:Int)) λx9=>room (List.length ((([]:cc)++x7)++([vs[i]]))+List.length x9) (nx (((([]:cc)++x7)++([vs[i]]))++x9,(i:Int)+1)))))
    (λx=> !decide (x<vs[i])) s (by omega) (λj hj nx'=>?hs2) (λnx'=>?Dc)]
   case hs2=>
    simp only[uJ]
    rw[jP,bB hj,bB hi,ak (n:=(j:Int)+1)]
    simp only[ah,ab]
    cases decide (s[j]<vs[i])<;>rfl
   case Dc=>
    simp only[uJ]
    rw[cL];rfl
   refine Eq.trans (akp (λx=> !decide (x<vs[i])) (λy6=>aa (sub s 0 y6) λx7=>room (List.length ([]:cc)+List.length x7) (room (List.length (([]:cc)++x7)+List.length ([vs[i]])) (aa (sub s y6 (s.length:Int)) λx9=>room (List.length ((([]:cc)++x7)++([vs[i]]))+List.length x9) (nx (((([]:cc)++x7)++([vs[i]]))++x9,(i:Int)+1))))) s) ?_
   have hle:s.findIdx (λx=> !decide (x<vs[i]))<=s.length:=List.findIdx_le_length
   have e:=alc vs[i] s hm
   generalize s.findIdx (λx=> !decide (x<vs[i]))=j at*
   rw[abj s j hle,LN s j hle]
   simp only[ab,cv]
   rw[aX (by simp;omega),aX (by simp;omega),aX (by simp;omega),e];rfl
 case hn=>
  cases hg
  have:=J8 s vs[i]
  omega
 case hf=>
  simp only[pZ]
  rw[cL];rfl
 rw[Ic]at this;exact this
theorem WV (l:cc)(v:Int)(h:l.length<=10^9):lq l v=some (ins v l):=by
 unfold lq
 have hgo:∀(l:cc)(acc:cc)(d:Bool),acc.length+l.length+(bif d then 0 else 1)<=1073741824->
  Cy (λ(x:Int) (s:cc×Bool) (k:cc×Bool->aB cc)=>cond (cond (!s.2) (decide (v<x)) false) (room (List.length s.1+List.length ([v])) (room (List.length (s.1++([v]))+List.length ([x])) (k ((s.1++([v]))++([x]),true)))) (room (List.length s.1+List.length ([x])) (k (s.1++([x]),s.2))))
   (λs=>cond (!s.2) (room (List.length s.1+List.length ([v])) (some (s.1++([v])))) (some s.1)) l (acc,d)=some (acc++bif d then l else ins v l):=by
  intro l
  induction l with
  |nil=>
   intro acc d hl
   rw[Cy]
   simp only[dZ]at hl
   cases d with
   |true=>simp
   |false=>
    simp only[bE,ah,af]at hl⊢
    rw[aX (by simp;omega)];rfl
  |cons x l ih=>
   intro acc d hl
   simp only[aP]at hl
   rw[Cy]
   cases d with
   |true=>
    simp only[aj,af,ah]at hl⊢
    rw[aX (by simp;omega),ih _ _ (by simp;omega)]
    simp
   |false=>
    simp only[bE,ah,af]at hl⊢
    rw[ins]
    cases decide (v<x)with
    |true=>
     simp only[ah]
     rw[aX (by simp;omega),aX (by simp;omega)]
     rw[ih _ _ (by simp;omega)];simp
    |false=>
     simp only[af]
     rw[aX (by simp;omega),ih _ _ (by simp;omega)]
     simp
 have D7:=eX;have key:=EG (T:=mL (λ(y3:cc) (y4:Bool) (_:Int)=>cond (!y4) (room (List.length y3+List.length ([v])) (some (y3++([v])))) (some y3)) v l (l.length:Int)) l (λ(s:cc×Bool) i=>(s.1,s.2,(i:Int))) (λ(x:Int) (s:cc×Bool) (k:cc×Bool->aB cc)=>cond (cond (!s.2) (decide (v<x)) false) (room (List.length s.1+List.length ([v])) (room (List.length (s.1++([v]))+List.length ([x])) (k ((s.1++([v]))++([x]),true)))) (room (List.length s.1+List.length ([x])) (k (s.1++([x]),s.2)))) (λs=>cond (!s.2) (room (List.length s.1+List.length ([v])) (some (s.1++([v])))) (some s.1)) (λi hi s nx=>by simp only[mL];rw[jP,bB hi,ak (n:=(i:Int)+1)];simp only[ah,ab,bQ];rfl) (λs nx=>by simp only[mL];rw[cL];rfl) fuel 0 (([]:cc),false) (by omega) (by omega);rw[fQ,hgo l [] false (by simp;omega)]at key;exact key
def ng:Port:=(0,[],0,false)
def Ph (p:Port):Bool:=fK (p.1,false,p.2.1)&&hasB p.2.1 p.2.2.1
def Lo (l:aw Port)(i:Nat):Bool:=Ph (l.getD i ng)&&(range i).all (λj=> !((j !=0)&&((l.getD j ng).1==(l.getD i ng).1)))
def js (l:aw Port):Bool:=di (l.length:Int) 1 8&&(range l.length).all (Lo l)
theorem aed (i:Nat)(q:Nat->Bool):(range (i-1)).all (λj=> !(q (j+1)))=(range i).all (λj=> !((j !=0)&&q j)):=by
 rw[cQ,aF,aF];simp only[bG];constructor;intro h j hj;cases j with|zero=>rfl|succ j=>have:=h j (by omega);simpa using this
 intro h j hj;have:=h (j+1) (by omega);simpa using this
theorem aiM (l:aw Port)(h:l.length<=10^9)(hv:∀p∈l,p.2.1.length<=10^9):yv l=some (js l):=by
 unfold yv js;rw[jG (hit:=some false) (fin:=some true) (Lo l) l.length (by omega) (λi nx hi=>?hs) (λnx=>?hf)]
 case hs=>
  have hvi:=hv _ (aK hi)
  simp only[wu]
  rw[jP,bB hi,ak]
  simp only[ah,ab,FB (l[i].1,false,l[i].2.1) hvi,afT _ _ hvi]
  have e1:(1:Int)=(((0:Nat)+1:Nat):Int):=rfl
  rw[e1,L5 (hit:=some false) (fin:=nx ((i:Int)+1)) (λj=>((j+1:Nat):Int)) (λj=> !((l.getD (j+1) ng).1==l[i].1)) (i-1) (by omega) (λj nx' hj hp=>?hs2) (λhp nx'=>?Dc)]
  case hs2=>
   have hjl:j+1<l.length:=by omega
   simp only[wv]
   rw[jP,bB hjl,bB hi,ak]
   simp only[ah,ab,cB hjl,gP];rfl
  case Dc=>
   simp only[wv]
   rw[cL];rfl
  rw[aed i (λj=>(l.getD j ng).1==l[i].1)]
  simp only[Lo,Ph,cB hi]
  cases fK (l[i].1,false,l[i].2.1)<;>cases hasB l[i].2.1 l[i].2.2.1<;>cases (range i).all (λj=> !((j !=0)&&((l.getD j ng).1==l[i].1)))<;>rfl
 case hf=>
  simp only[wu]
  rw[cL];rfl
 simp only[dV,ab];cases di (l.length:Int) 1 8<;>cases (range l.length).all (Lo l)<;>rfl
def E8 (p:Nat->Bool):fM->Int
 |[]=> -1
 |j::r=>bif p j then(j:Int) else E8 p r
theorem YH (p:Nat->Bool):∀n s i,s<=i->i<s+n->p i=true->(E8 p (List.range' s n)==(i:Int))=(List.range' s (i-s)).all (λj=> !(p j))
 |0,s,i,h1,h2,_=>by omega
 |n+1,s,i,h1,h2,hp=>by
  rw[List.range'_succ,E8];rcases cg s i with hG|CF;obtain⟨k,hk⟩:∃k,i-s=k+1:=⟨i-s-1,by omega⟩
  rw[hk,List.range'_succ,cz];cases hps:p s with
  |true=>
   simp only[ah,aj,eo];have:¬(s:Int)=(i:Int):=by omega
   simpa using this
  |false=>simp only[af,bE,bt];rw[YH p n (s+1) i (by omega) (by omega) hp,show i-(s+1)=k by omega]
  have:s=i:=by omega
  subst this;rw[hp,iC];simp
theorem RT (p:Nat->Bool)(hit:Nat->aB R)(fin:aB R)(k:Int->aB R)(h1:∀j:Nat,hit j=k (j:Int))(h2:fin=k (-1)):∀l:fM,Eg (λ(j:Nat) (s:Unit)=>bif p j then .error (hit j) else .ok ()) (λ_=>fin) l ()=k (E8 p l)
 |[]=>h2
 |j::l=>by rw[Eg,E8];cases p j with|true=>exact h1 j|false=>exact RT p hit fin k h1 h2 l
theorem ZM (l:aw Port)(a:Int)(h:l.length<=10^9):vA l a=some (E8 (λj=>(j !=0)&&((l.getD j ng).1==a)) (List.range' 0 l.length)):=by
 unfold vA;have:=vF (T:=pB (λ(_:Int)=>some (-1)) (λ(y4:Int) (_:Int)=>some y4) a 0 l (l.length:Int)) (List.range' 0 l.length) (λ(_:Unit) i=>(i:Int)) (λ_ _=>True) (λ(j:Nat) (s:Unit)=>bif (j !=0)&&((l.getD j ng).1==a) then .error (some (j:Int)) else .ok ()) (λ_=>some (-1)) (by simp;omega) (λi hi s nx _=>?hs) (λ_ _ _ _ _ _=>trivial) (λs nx _=>?hf) () trivial
 case hs=>
  have Pd:i<l.length:=by simpa using hi
  have e:(List.range' 0 l.length)[i]=i:=by simp
  rw[e]
  simp only[pB]
  rw[jP,bB Pd,ak]
  simp only[ah,ab,cB Pd,bQ,cF]
  have e2:((i:Int) !=0)=(i !=0):=by rw[cQ];simp
  rw[e2]
  cases (i !=0)&&(l[i].1==a)<;>rfl
 case hf=>
  simp only[pB]
  rw[aq (by simp)];rfl
 rw[RT (λj=>(j !=0)&&((l.getD j ng).1==a)) _ _ (λx=>some x) (λ_=>rfl) rfl]at this;exact this
theorem H4 (l:aw Port)(h:l.length<=10^9)(hv:∀p∈l,p.2.1.length<=10^9):nP l=some (js l):=by
 unfold nP js;rw[jG (hit:=some false) (fin:=some true) (Lo l) l.length (by omega) (λi nx hi=>?hs) (λnx=>?hf)]
 case hs=>
  have hvi:=hv _ (aK hi)
  simp only[vW]
  rw[jP,bB hi,ak]
  simp only[ah,ab,Ea,sZ (l[i].1,false,l[i].2.1) hvi,Bu _ _ hvi,ZM l _ h,bQ,bne]
  have e2:((i:Int)==0)=(i==0):=by rw[cQ];simp
  rw[e2]
  simp only[Lo,Ph,cB hi]
  cases h0:i==0 with
  |true=>
   have:i=0:=by simpa using h0
   subst this
   cases fK (l[0].1,false,l[0].2.1)<;>cases hasB l[0].2.1 l[0].2.2.1<;>rfl
  |false=>
   have Eo:(i !=0)=true:=by simp only[bne,h0,bE]
   have fa:=YH (λj=>(j !=0)&&((l.getD j ng).1==l[i].1)) l.length 0 i (by omega) (by omega) (by simp only[Eo,cB hi,bt,fG])
   rw[Nat.sub_zero,<-List.range_eq_range' (n:=i)]at fa
   simp only[bne]at fa⊢
   rw[fa]
   cases fK (l[i].1,false,l[i].2.1)<;>cases hasB l[i].2.1 l[i].2.2.1<;>cases (range i).all (λj=> !((!(j==0))&&((l.getD j ng).1==l[i].1)))<;>rfl
 case hf=>
  simp only[vW]
  rw[cL];rfl
 simp only[cx,ab];cases di (l.length:Int) 1 8<;>cases (range l.length).all (Lo l)<;>rfl
def kq (m:bN):Bool:=fK m.1&&(di m.2.1 0 1000000000000&&di m.2.2.2 0 1000000000000)
theorem ame (m:bN)(h:m.1.2.2.length<=10^9):yq m=some (kq m):=by simp only[yq,FB _ h,dV,ab,bQ,cF,kq]
theorem ZD (m:bN)(h:m.1.2.2.length<=10^9):th m=some (kq m):=by simp only[th,sZ _ h,cx,ab,bQ,cF,kq]
theorem CN (h:kq m=true):m.1.2.2.length<=8:=by unfold kq fK at h;simp only[ae,aJ]at h;omega
def Xo (m:bN):Port:=(m.1.1,m.1.2.2.foldl yM [0],0,true)
def Gc (s:cc×aw Port)(m:bN):cc×aw Port:=(m.1.2.2.foldl yM s.1,s.2++[Xo m])
def mY (ms:aw bN):aw Port:=(0,(ms.foldl Gc ([0],[])).1,0,false)::(ms.foldl Gc ([0],[])).2
def dw (ms:aw bN):aw Port×Bool:=bif di (ms.length:Int) 1 3&&(ms.all kq&&js (mY ms)) then(mY ms,true) else([],false)
theorem RS (p:α->Bool)(f:σ->α->σ)(r:aB R)(fin:σ->aB R):∀(l:aw α)(s:σ),Eg (λx s=>bif p x then .ok (f s x) else .error r) fin l s=bif l.all p then fin (l.foldl f s) else r
 |[],s=>rfl
 |x::l,s=>by rw[Eg,cz,dY];cases p x with|false=>rfl|true=>simp only[ah,bt];exact RS p f r fin l (f s x)
def X1 (i:Nat)(s:cc×aw Port):Prop:=s.1.length<=1+9*i/\s.2.length=i/\∀p∈s.2,p.2.1.length<=9
theorem X1.port {s:cc×aw Port}(h:X1 i s)(hm:kq m=true)(U:cc)(hU:U.length<=s.1.length+9:=by omega):X1 (i+1) (U,s.2++[Xo m]):=by have hl:=CN hm;have:=EW m.1.2.2 [0];refine⟨?_,?_,?_⟩;have:=h.1;simp only;omega;have:=h.2.1;simp;omega;intro p hp;rcases aA.1 hp with hp|hp;exact h.2.2 p hp;simp only[br]at hp;subst hp;simp only[Xo,aY]at this⊢;omega
theorem He {s:cc×aw Port}(h:X1 i s)(hi:i<=3:=by omega):((0,s.1,0,false)::s.2:aw Port).length<=10^9/\∀p∈((0,s.1,0,false)::s.2:aw Port),p.2.1.length<=10^9:=by have h1:=h.1;have h2:=h.2.1;refine⟨by simp only[aP];omega,λp hp=>?_⟩;rcases bU.1 hp with rfl|hp;simp only;omega;have:=h.2.2 p hp;omega
theorem aa8 (ms:aw bN)(h:∀m∈ms,m.1.2.2.length<=10^9):BN ms=some (dw ms):=by
 unfold BN dw;simp only[dV,ab];cases hn:di (ms.length:Int) 1 3 with
 |false=>rfl
 |true=>
  have En:=aU.1 hn;simp only[aj,af,bt];have:=vF (T:=rj (λ(Dg:aw Port) (_:Int)=>aa (yv Dg) λXs=>cond (!Xs) (some (([]:aw Port),false)) (some (Dg,true))) (λ(E1:aw Port) (Gl:Bool) (_:aw Port) (_:Int)=>some (E1,Gl)) ms ([]:aw Port) false) ms (λ(s:cc×aw Port) i=>((0,s.1,0,false)::s.2,(i:Int))) X1 (λm s=>bif kq m then .ok (Gc s m) else .error (some (([]:aw Port),false))) (λs=>some (bif js ((0,s.1,0,false)::s.2) then((0,s.1,0,false)::s.2,true) else([],false))) (by omega) (λi hi s nx hI=>?hs) (λi hi s s' hI hg=>?hn) (λs nx hI=>?hf) ([0],[]) ⟨by simp,rfl,by simp⟩
  case hs=>
   simp only[rj]
   have hm:=h _ (aK hi)
   rw[jP,bB hi,ak (n:=(i:Int)+1)]
   simp only[ah,ab,ame _ hm]
   cases J3:kq ms[i]with
   |false=>rfl
   |true=>
    have hl:=CN J3
    have hU:=hI.1
    have hP:=hI.2.1
    have e0:idx ((0,s.1,0,false)::s.2:aw Port) 0=some (0,s.1,0,false):=rfl
    simp only[aj,af,ah,e0,ab]
    rw[Vk s.1 _ (by omega),Vk [0] _ (by simp;omega)]
    simp only[ab]
    rw[aX (by simp;omega)]
    rfl
  case hn=>
   cases J3:kq ms[i]with
   |false=>rw[J3]at hg;cases hg
   |true=>
    rw[J3]at hg
    cases hg
    have:=EW ms[i].1.2.2 s.1
    have:=CN J3
    exact hI.port J3 _
  case hf=>
   simp only[rj]
   rw[cL]
   have hb:=He hI
   simp only[af,aiM _ hb.1 hb.2,ab]
   cases js ((0,s.1,0,false)::s.2)<;>rfl
  rw[RS]at this;refine Eq.trans this ?_;unfold mY;cases ms.all kq<;>rfl
def Vo (s:cc×aw Port)(m:bN):cc×aw Port:=(([0]++m.1.2.2).foldl yM s.1,s.2++[Xo m])
theorem ami {s:cc×aw Port}(h:(0:Int)∈s.1):Vo s m=Gc s m:=by unfold Vo Gc;rw[List.foldl_append];simp only[dY,List.foldl_nil,agn h]
theorem Sj:∀(ms:aw bN)(s:cc×aw Port),(0:Int)∈s.1->ms.foldl Vo s=ms.foldl Gc s
 |[],_,_=>rfl
 |m::ms,s,h=>by rw[dY,dY,ami h];exact Sj ms _ (ML _ h)
theorem abf (ms:aw bN)(h:ms≠[]):ms.foldl Vo ([],[])=ms.foldl Gc ([0],[]):=by cases ms with|nil=>exact absurd rfl h|cons m ms=>rw[dY,dY];have e:Vo ([],[]) m=Gc ([0],[]) m:=rfl;rw[e];exact Sj ms _ (ML _ (by simp))
theorem ahh (k0:cc->cc->Int->aB R)(k:cc->cc->aB R)(hk:∀a b i,k0 a b i=k a b)(v2:aw Port)(v3:Bool)(v4:aw Port)(v18:aw bN)(v19 v20:Int)(b7:bN)(vs all:cc)(h:all.length+vs.length<=10^9): bj (mn k0 v2 v3 v4 v18 v19 v20 vs (vs.length:Int) b7) fuel (all,([]:cc),0)=k (vs.foldl yM all) (vs.foldl yM []):=by
 have:=vF (T:=mn k0 v2 v3 v4 v18 v19 v20 vs (vs.length:Int) b7) vs (λ(s:cc×cc) i=>(s.1,s.2,(i:Int))) (λi s=>s.1.length<=all.length+i/\s.2.length<=i) (λv s=> .ok (yM s.1 v,yM s.2 v)) (λs=>k s.1 s.2) (by omega) (λi hi s nx hI=>?hs) (λi hi s s' hI hg=>?hn) (λs nx hI=>?hf) (all,[]) ⟨by simp,by simp⟩
 case hs=>
  simp only[mn]
  rw[jP,bB hi,ak (n:=(i:Int)+1)]
  simp only[ah,ab,Bu s.2 vs[i] (by omega),Bu s.1 vs[i] (by omega),WV s.2 vs[i] (by omega),WV s.1 vs[i] (by omega),yM]
  cases hasB s.2 vs[i]<;>cases hasB s.1 vs[i]<;>rfl
 case hn=>
  cases hg
  have:=J8 s.1 vs[i]
  have:=J8 s.2 vs[i]
  have h1:=hI.1
  have h2:=hI.2
  exact⟨by simp only;omega,by simp only;omega⟩
 case hf=>
  simp only[mn]
  rw[cL]
  simp only[af,hk]
 rw[Ic]at this;refine Eq.trans this ?_;have e:∀(l:cc)(s:cc×cc),l.foldl (λs v=>(yM s.1 v,yM s.2 v)) s=(l.foldl yM s.1,l.foldl yM s.2):=by intro l;induction l with|nil=>intro s;rfl|cons x l ih=>intro s;rw[dY,ih];rfl
 rw[e]
theorem DF (ms:aw bN)(h:∀m∈ms,m.1.2.2.length<=10^9):qt ms=some (dw ms):=by
 unfold qt dw;simp only[cx,ab];cases hn:di (ms.length:Int) 1 3 with
 |false=>rfl
 |true=>
  have En:=aU.1 hn;simp only[aj,af,bt];have:=vF (T:=qY (λ(Cb:aw Port) (E1:cc) (_:Int)=>aa (idx Cb 0) λx17=>aa (idx Cb 0) λVC=>aa (nP (List.set Cb (Int.toNat 0) (VC.1,E1,VC.2.2))) λr19=>cond (!r19) (some (([]:aw Port),false)) (some (List.set Cb (Int.toNat 0) (VC.1,E1,VC.2.2),true))) (λ(y20:aw Port) (y21:Bool) (_:aw Port) (_:cc) (_:Int)=>some (y20,y21)) ([]:aw Port) false ms (ms.length:Int)) ms (λ(s:cc×aw Port) i=>((0,[],0,false)::s.2,s.1,(i:Int))) X1 (λm s=>bif kq m then .ok (Vo s m) else .error (some (([]:aw Port),false))) (λs=>some (bif js ((0,s.1,0,false)::s.2) then((0,s.1,0,false)::s.2,true) else([],false))) (by omega) (λi hi s nx hI=>?hs) (λi hi s s' hI hg=>?hn) (λs nx hI=>?hf) ([],[]) ⟨by simp,rfl,by simp⟩
  case hs=>
   simp only[qY]
   have hm:=h _ (aK hi)
   rw[jP,bB hi,ak (n:=(i:Int)+1)]
   simp only[ah,ab,ZD _ hm]
   cases J3:kq ms[i]with
   |false=>rfl
   |true=>
    have hl:=CN J3
    have hU:=hI.1
    have hP:=hI.2.1
    simp only[aj,af,ah]
    rw[aX (by simp;omega)]
    refine(ahh _ (λa b=>room (List.length ((0,[],0,false)::s.2:aw Port)+List.length ([(ms[i].1.1,b,0,true)]:aw Port)) (nx (((0,[],0,false)::s.2)++([(ms[i].1.1,b,0,true)]),a,(i:Int)+1))) (λ_ _ _=>rfl) _ _ _ _ _ _ _ ([0]++ms[i].1.2.2) s.1 (by simp only[ai,aY];omega)).trans ?_
    rw[aX (by simp;omega)]
    rfl
  case hn=>
   cases J3:kq ms[i]with
   |false=>rw[J3]at hg;cases hg
   |true=>
    rw[J3]at hg
    cases hg
    have hu:=EW ([0]++ms[i].1.2.2) s.1
    have hl:=CN J3
    simp only[ai,aY]at hu
    exact hI.port J3 _
  case hf=>
   simp only[qY]
   rw[cL]
   have hb:=He hI
   have e0:idx ((0,[],0,false)::s.2:aw Port) 0=some (0,[],0,false):=rfl
   have e1:List.set ((0,[],0,false)::s.2:aw Port) (Int.toNat 0) (0,s.1,0,false)=(0,s.1,0,false)::s.2:=rfl
   simp only[af,e0,ab,e1,H4 _ hb.1 hb.2]
   cases js ((0,s.1,0,false)::s.2)<;>rfl
  rw[RS,abf ms (by rintro rfl;simp at En)]at this;refine Eq.trans this ?_;unfold mY;cases ms.all kq<;>rfl
def SF (a b:α):Bool:= @decide (a=b) (Classical.propDecidable _)
theorem HL {a b:α}:SF a b=true↔a=b:=by unfold SF;exact @decide_eq_true_iff _ (Classical.propDecidable _)
theorem Wr {a b:α}{x:Bool}(h:x=true↔a=b):x=SF a b:=by rw[cQ,HL];exact h
theorem awS [BEq α][LawfulBEq α](a b:α):(a==b)=SF a b:=Wr bn
theorem ake {β:Type}(a b:α)(c d:β):SF (a,c) (b,d)=(SF a b&&SF c d):=by rw[cQ];simp only[ae,HL,Prod.mk.injEq]
theorem Yv {β:Type}(a b:α×β):SF a b=(SF a.1 b.1&&SF a.2 b.2):=ake a.1 b.1 a.2 b.2
theorem Yw {a b:α}(h:a=b):SF a b=true:=HL.2 h
theorem agG {a b:α}(h:¬a=b):SF a b=false:=by rw[Bool.eq_false_iff,ne_eq,HL];exact h
theorem akf {T:(Int->aB R)->Int->aB R}{fin hit:aB R}(p:α->α->Bool)(hp:∀x y,p x y=true↔x=y)(a b:aw α)(hl:a.length=b.length)(h:a.length<=10^9)(hs:∀i (hi:i<a.length) nx,T nx (i:Int)=cond (!(p a[i] (b[i]'(hl▸hi)))) hit (nx ((i+1:Nat):Int)))(hf:∀nx,T nx (a.length:Int)=fin): bj T fuel 0=cond (SF a b) fin hit:=by
 have hq:∀i,i<a.length->i<b.length:=λi hi=>hl▸hi;rw[jG (fin:=fin) (hit:=hit) (λi=>SF a[i]? b[i]?) a.length (by omega) ?hs hf]
 case hs=>
  intro i nx hi
  rw[hs i hi,al hi,al (hq i hi)]
  have:p a[i] (b[i]'(hq i hi))=SF (some a[i]) (some (b[i]'(hq i hi))):=Wr (by rw[hp,bu])
  rw[this]
 congr 1;apply Wr;rw[aF];constructor;intro k;apply dj;intro i;by_cases hi:i<a.length;exact HL.1 (k i (bG.2 hi));rw[bI (by omega),bI (by omega)];rintro rfl i _;exact Yw rfl
theorem ano {T:(Int->aB Bool)->Int->aB Bool}(p:α->α->Bool)(hp:∀x y,p x y=true↔x=y)(a b:aw α)(h:a.length<=10^9)(hs:a.length=b.length->∀i (hi:i<a.length)(xk:i<b.length) nx,T nx (i:Int)=cond (!(p a[i] b[i])) (some false) (nx ((i+1:Nat):Int)))(hf:∀nx,T nx (a.length:Int)=some true): cond ((a.length:Int) !=(b.length:Int)) (some false) (bj T fuel 0)=some (SF a b):=by by_cases hl:a.length=b.length;rw[akf p hp a b hl h (λi hi nx=>hs hl i hi (hl▸hi) nx) hf];rw[show((a.length:Int) !=(b.length:Int))=false by simp[hl]];cases SF a b<;>rfl;rw[agG (λe=>hl (by rw[e]))];rw[show((a.length:Int) !=(b.length:Int))=true by simp;omega];rfl
theorem ak1 (a b:cc)(h:a.length<=10^9):uz a b=some (SF a b):=by unfold uz;refine ano (λx y=>x==y) (λx y=>bn) a b h (λhl i hi xk nx=>?_) (λnx=>?_);simp only[oN];rw[jP,bB hi,bB xk,ak];rfl;simp only[oN];rw[cL];rfl
theorem W0 (a b:Filter)(h:a.2.2.length<=10^9):we a b=some (SF a b):=by simp only[we,ak1 _ _ h,ab,bQ,cF,Yv a b,Yv a.2 b.2,awS]
def Mi:aZ:=(0,0,(0,0,0),false,0,0)
def jg (b:uW):Bool:=di b.1 0 10000&&(di b.2.1 0 100000&&di b.2.2 0 b.2.1)
def F4 (n:Int)(f:aZ):Bool:=di f.1 0 7&&(di f.2.1 1 (ar (n-1))&&(jg f.2.2.1&&(di f.2.2.2.2.1 0 1000000000000&&di f.2.2.2.2.2 0 1000000000000)))
def agQ (f g:aZ):Bool:=(g.1==f.1)||(g.2.1==f.2.1)
def fnB (l:aw aZ)(n:Int)(i:Nat):Bool:=F4 n (l.getD i Mi)&&(range i).all (λj=> !(agQ (l.getD i Mi) (l.getD j Mi)))
def iS (l:aw aZ)(ps:aw Port):Bool:=js ps&&(range l.length).all (fnB l (ps.length:Int))
theorem R5 (b:uW):zY b=some (jg b):=by simp only[zY,dV,ab,bQ,cF,jg]
theorem Jz (b:uW):vn b=some (jg b):=R5 b
theorem IQ (l:aw aZ)(ps:aw Port)(h:l.length<=10^9)(h1:ps.length<=10^9)(h2:∀p∈ps,p.2.1.length<=10^9):pn l ps=some (iS l ps):=by
 unfold pn iS;rw[jG (hit:=some false) (fin:=some true) (fnB l (ps.length:Int)) l.length (by omega) (λi nx hi=>?hs) (λnx=>?hf)]
 case hs=>
  simp only[oC]
  rw[jP,bB hi,ak (n:=(i:Int)+1),abj l i (by omega)]
  simp only[ah,ab,cx,Jz,bQ,cT]
  have hti:(l.take i).length=i:=by simp;omega
  rw[hti,jG (hit:=some false) (fin:=nx ((i:Int)+1)) (λj=> !(agQ l[i] (l.getD j Mi))) i (by omega) (λj nx' hj=>?hs2) (λnx'=>?Dc)]
  case hs2=>
   have hjl:j<l.length:=by omega
   have hjt:j<(l.take i).length:=by omega
   simp only[oD]
   rw[jP,bB hjt,ak (n:=(j:Int)+1),List.getElem_take]
   simp only[ah,ab,bQ,cT,cB hjl,gP];rfl
  case Dc=>
   simp only[oD]
   rw[cL];rfl
  simp only[fnB,cB hi]
  rw[show(!di l[i].1 0 7||(!di l[i].2.1 1 (ar ((ps.length:Int)-1))||(!jg l[i].2.2.1||(!di l[i].2.2.2.2.1 0 1000000000000|| !di l[i].2.2.2.2.2 0 1000000000000))))= !F4 (ps.length:Int) l[i] by unfold F4;simp only[Bool.not_and]]
  cases F4 (ps.length:Int) l[i]<;>cases (range i).all (λj=> !(agQ l[i] (l.getD j Mi)))<;>rfl
 case hf=>
  simp only[oC]
  rw[cL];rfl
 simp only[H4 ps h1 h2,ab];cases js ps<;>cases (range l.length).all (fnB l (ps.length:Int))<;>rfl
def Be (l:aw aZ)(i:Nat):Bool:=((l.getD i Mi).1==(i:Int))&&((l.getD i Mi).2.1==(i:Int)+1)
theorem adk (l:aw aZ)(h:l.length<=10^9):xZ l=some ((range l.length).all (Be l)):=by
 unfold xZ;rw[jG (hit:=some false) (fin:=some true) (Be l) l.length (by omega) (λi nx hi=>?hs) (λnx=>?hf)]
 case hs=>
  simp only[sC]
  rw[jP,bB hi,ak (n:=(i:Int)+1)]
  simp only[ah,ab,bQ,cT,bne,Be,cB hi]
  cases l[i].1==(i:Int)<;>cases l[i].2.1==(i:Int)+1<;>rfl
 case hf=>
  simp only[sC]
  rw[cL];rfl
 cases (range l.length).all (Be l)<;>rfl
theorem Kt:∀(ms:aw bN)(i:Nat)(s:cc×aw Port),X1 i s->ms.all kq=true->X1 (i+ms.length) (ms.foldl Gc s)
 |[],i,s,h,_=>h
 |m::ms,i,s,h,hm=>by rw[cz,ae]at hm;have hu:=EW m.1.2.2 s.1;have hl:=CN hm.1;have:=Kt ms (i+1) (Gc s m) (h.port hm.1 _) hm.2;rw[dY,aP,show i+(ms.length+1)=i+1+ms.length by omega];exact this
theorem N3 {ms:aw bN}(h:(dw ms).2=true):ms.length<=3:=by unfold dw at h;cases hq:di (ms.length:Int) 1 3&&(ms.all kq&&js (mY ms))with|false=>rw[hq]at h;cases h|true=>simp only[ae]at hq;have:=aU.1 hq.1;omega
theorem MX (ms:aw bN):(dw ms).1.length<=10^9/\∀p∈(dw ms).1,p.2.1.length<=10^9:=by unfold dw;cases hc:di (ms.length:Int) 1 3&&(ms.all kq&&js (mY ms))with|false=>exact⟨by simp,by simp⟩|true=>simp only[ae,aU]at hc;have:=Kt ms 0 ([0],[]) ⟨by simp,rfl,by simp⟩ hc.2.1;rw[cE]at this;exact He this
theorem U1 (ms:aw bN):(dw ms).1.length<=4/\∀p∈(dw ms).1,p.2.1.length<=28:=by unfold dw;cases hc:di (ms.length:Int) 1 3&&(ms.all kq&&js (mY ms))with|false=>exact⟨by simp,by simp⟩|true=>simp only[ae,aU]at hc;have h:=Kt ms 0 ([0],[]) ⟨by simp,rfl,by simp⟩ hc.2.1;rw[cE]at h;have h1:=h.1;have h2:=h.2.1;simp only[ah,mY];refine⟨by simp only[aP];omega,λp hp=>?_⟩;rcases bU.1 hp with rfl|hp;simp only;omega;have:=h.2.2 p hp;omega
def dq (m:bO):Bool:=m.all (λx=>(x.length:Int)==128)&&decide ((m.length:Int)<=64)
theorem JQ (m:bO)(h:m.length<=10^9):vK m=some (dq m):=by
 unfold vK dq;rw[tM (hit:=some false) (fin:=some (decide ((m.length:Int)<=64))) (λx:Bytes=>(x.length:Int)==128) m (by omega) (λi hi nx=>?hs) (λnx=>?hf)]
 case hs=>
  simp only[uB]
  rw[jP,bB hi,ak];rfl
 case hf=>
  simp only[uB]
  rw[cL];rfl
 cases m.all (λx=>(x.length:Int)==128)<;>rfl
theorem JC (m:bO)(h:m.length<=10^9):vr m=some (dq m):=JQ m h
def OU:aI:=(0,0,0,false)
def MF (m:aI):Bool:=di m.1 0 7&&(di m.2.1 0 1023&&di m.2.2.1 0 63)
def tw (d p:Int)(m:aI):Bool:=(m.1==d)&&(m.2.1==p)
def Ro (l:aw aI)(i:Nat):Bool:=MF (l.getD i OU)&&(range i).all (λj=> !(tw (l.getD i OU).1 (l.getD i OU).2.1 (l.getD j OU)))
def gG (l:aw aI):Bool:=decide ((l.length:Int)<=96)&&(range l.length).all (Ro l)
theorem XE (l:aw aI)(h:l.length<=10^9):wo l=some (gG l):=by
 unfold wo gG;rw[jG (hit:=some false) (fin:=some true) (Ro l) l.length (by omega) (λi nx hi=>?hs) (λnx=>?hf)]
 case hs=>
  simp only[qJ]
  rw[jP,bB hi,ak]
  simp only[ah,ab,dV,bQ]
  rw[jG (hit:=some false) (fin:=nx ((i:Int)+1)) (λj=> !(tw l[i].1 l[i].2.1 (l.getD j OU))) i (by omega) (λj nx hj=>?hs2) (λnx=>?Dc)]
  case hs2=>
   have hjl:j<l.length:=by omega
   simp only[oO]
   rw[jP,bB hjl,ak]
   simp only[ah,ab,bQ,cB hjl,tw,cF,gP];rfl
  case Dc=>
   simp only[oO]
   rw[cL];rfl
  simp only[Ro,MF,cB hi,cT]
  cases di l[i].1 0 7<;>cases di l[i].2.1 0 1023<;>cases di l[i].2.2.1 0 63<;>cases (range i).all (λj=> !(tw l[i].1 l[i].2.1 (l.getD j OU)))<;>rfl
 case hf=>
  simp only[qJ]
  rw[cL];rfl
 have e:decide ((l.length:Int)>96)= !decide ((l.length:Int)<=96):=by rw[cQ];simp
 rw[e];cases decide ((l.length:Int)<=96)<;>cases (range l.length).all (Ro l)<;>rfl
def aaw (l:aw aI)(d p:Int):Int:=match l.findIdx? (tw d p)with|some i=>(i:Int)|none=> -1
theorem ZF (l:aw aI)(d p:Int)(h:l.length<=10^9):pA l d p=some (aaw l d p):=by
 unfold pA aaw;rw[HO (hit:=λi=>some i) (fin:=some (-1)) (tw d p) l (by omega) (λi hi nx=>?hs) (λnx=>?hf)]
 case hs=>
  simp only[oJ]
  rw[jP,bB hi,ak]
  simp only[ah,ab,bQ,cF,tw];rfl
 case hf=>
  simp only[oJ]
  rw[cL];rfl
 cases l.findIdx? (tw d p)<;>rfl
theorem adZ (l:aw aI)(i:Nat)(hi:i<l.length):(aaw l l[i].1 l[i].2.1==(i:Int))=(range i).all (λj=> !(tw l[i].1 l[i].2.1 (l.getD j OU))):=by
 have DD:tw l[i].1 l[i].2.1 l[i]=true:=by simp[tw]
 unfold aaw;cases hq:l.findIdx? (tw l[i].1 l[i].2.1)with
 |none=>rw[List.findIdx?_eq_none_iff]at hq;rw[hq l[i] (aK hi)]at DD;cases DD
 |some k=>
  rw[List.findIdx?_eq_some_iff_getElem]at hq;obtain⟨hk,hpk,hG⟩:=hq;rw[cQ,aF];simp only[bG,bn,aO];constructor;intro e j hj;have hjl:j<l.length:=by omega
  rw[cB hjl];have:=hG j (by omega);simpa using this;intro AX;rcases Nat.lt_trichotomy k i with hki|hki|hki;have:=AX k hki;rw[cB hk,hpk]at this;cases this;omega;have:=hG i hki;rw[DD]at this;simp at this
theorem KP (l:aw aI)(h:l.length<=10^9):qX l=some (gG l):=by
 unfold qX gG;rw[jG (hit:=some false) (fin:=some (decide ((l.length:Int)<=96))) (Ro l) l.length (by omega) (λi nx hi=>?hs) (λnx=>?hf)]
 case hs=>
  simp only[qq]
  rw[jP,bB hi,ak]
  simp only[ah,ab,cx,bQ,ZF _ _ _ h,bne,adZ l i hi,Ro,MF,cB hi]
  cases di l[i].1 0 7<;>cases di l[i].2.1 0 1023<;>cases di l[i].2.2.1 0 63<;>cases (range i).all (λj=> !(tw l[i].1 l[i].2.1 (l.getD j OU)))<;>rfl
 case hf=>
  simp only[qq]
  rw[cL];rfl
 cases decide ((l.length:Int)<=96)<;>cases (range l.length).all (Ro l)<;>rfl
def Ev (n:Int)(l:cc)(i:Nat):Bool:=di (l.getD i 0) 0 (n-1)&& !((l.take i).contains (l.getD i 0))
def dI (p:dD):Bool:=di p.1 0 130944&&(di p.2.1 1 512&&(di p.2.2.1 0 16&&(range p.2.2.2.length).all (Ev p.2.2.1 p.2.2.2)))
def Gb (n:Int)(l:cc):aw Bool:=(range n.toNat).map λk:Nat=>l.contains (k:Int)
theorem U7 (n:Int)(l:cc):(Gb n l).length=n.toNat:=by simp[Gb]
theorem Ie (n:Int)(l:cc)(k:Nat)(h:k<(Gb n l).length):(Gb n l)[k]=l.contains (k:Int):=by simp[Gb]
theorem aiy (n:Int)(l:cc)(k:Nat)(h:k<n.toNat):(Gb n l).set k true=Gb n (l++[(k:Int)]):=by
 apply List.ext_getElem;simp[Gb];intro j h1 h2;rw[List.getElem_set];split;rename_i e;subst e;rw[Ie];simp;rename_i e;rw[Ie,Ie];simp only[List.contains_append];have:([(k:Int)].contains (j:Int))=false:=by simp;omega
 rw[this];simp
theorem aaC {T:(aw Bool×Int->aB Bool)->aw Bool×Int->aB Bool}(n:Int)(l:cc)(hl:l.length<=10^9)
 (hs:∀i (hi:i<l.length)(s:aw Bool) nx,T nx (s,(i:Int))=aa (cond (!(di l[i] 0 (n-1))) (some true) (aa (idx s l[i]) λx=>some x)) λq=>
  cond q (some false) (aa (idx s l[i]) λ_=>aa (idx s l[i]) λ_=>nx (s.set l[i].toNat true,((i+1:Nat):Int)))) (hf:∀s nx,T nx (s,(l.length:Int))=some true):
 bj T fuel (List.replicate n.toNat false,0)=some ((range l.length).all (Ev n l)):=by
 have e0:(List.replicate n.toNat false,(0:Int))=(Gb n (l.take 0),((0:Nat):Int)):=by congr 1;simp only[Gb,List.take_zero,List.contains_nil,List.map_const',List.length_range]
 rw[e0,L5 (hit:=some false) (fin:=some true) (λi=>(Gb n (l.take i),(i:Int))) (Ev n l) l.length (by omega) (λi nx hi hp=>?hs) (λ_ nx=>hf _ nx)]
 case hs=>
  rw[hs i hi]
  unfold Ev
  rw[cB hi]
  by_cases uX:di l[i] 0 (n-1)=true
  ·have hb:=uX
   rw[aU]at hb
   obtain⟨k,hk⟩:∃k:Nat,l[i]=(k:Int):=⟨l[i].toNat,by omega⟩
   have hkn:k<(Gb n (l.take i)).length:=by rw[U7];omega
   rw[uX,hk,bB hkn,Ie]
   simp only[aj,af,ab,bt,gP,au]
   rw[aiy _ _ _ (by rw[U7]at hkn;exact hkn),<-hk,<-bl hi]
  ·have aqa:di l[i] 0 (n-1)=false:=by simpa using uX
   rw[aqa];rfl
 cases (range l.length).all (Ev n l)<;>rfl
theorem LC (p:dD)(h:p.2.2.2.length<=10^9):xf p=some (dI p):=by
 unfold xf dI;simp only[dV,ab,bQ];by_cases hn:di p.2.2.1 0 16=true
 ·have hb:=hn;rw[aU]at hb;rw[zip,aX,aaC p.2.2.1 p.2.2.2 h (λi hi s nx=>?hs) (λs nx=>?hf)]
  case hs=>
   simp only[yu]
   rw[jP,bB hi,ak (n:=(i:Int)+1),ak (n:=p.2.2.1-1)]
   simp only[ah,ab,dV];rfl
  case hf=>
   simp only[yu]
   rw[cL];rfl
  rw[hn];cases di p.1 0 130944<;>cases di p.2.1 1 512<;>rfl
 have En:di p.2.2.1 0 16=false:=by simpa using hn
 rw[En];cases di p.1 0 130944<;>cases di p.2.1 1 512<;>rfl
theorem xC (p:dD)(h:p.2.2.2.length<=10^9):jM p=some (dI p):=by
 unfold jM dI;simp only[cx,ab,bQ];by_cases hn:di p.2.2.1 0 16=true
 ·have hb:=hn;rw[aU]at hb;rw[zip,aX,aaC p.2.2.1 p.2.2.2 h (λi hi s nx=>?hs) (λs nx=>?hf)]
  case hs=>
   simp only[xP]
   rw[jP,bB hi,ak (n:=(i:Int)+1),ak (n:=p.2.2.1-1)]
   simp only[ah,ab,cx];rfl
  case hf=>
   simp only[xP]
   rw[cL];rfl
  rw[hn];cases di p.1 0 130944<;>cases di p.2.1 1 512<;>rfl
 have En:di p.2.2.1 0 16=false:=by simpa using hn
 rw[En];cases di p.1 0 130944<;>cases di p.2.1 1 512<;>rfl
def jn (n:Int):Bool:=(n==2)||((n==4)||((n==8)||(n==16)))
theorem JG (n:Int):yx n=some (jn n):=by simp only[yx,bQ,ab,jn,cT]
theorem Hm (n:Int):vB n=some (jn n):=JG n
theorem iG {n:Int}:jn n=true↔n=2\/n=4\/n=8\/n=16:=by simp[jn]
theorem EX (x:Int)(k:Nat)(hk:k<=64:=by omega):ar x%(2^k:Int)=x%(2^k:Int):=by
 obtain⟨c,hc⟩:∃c:Int,(18446744073709551616:Int)=2^k*c:=⟨2^(64-k),by rw[<-Int.pow_add,show k+(64-k)=64 by omega];rfl⟩
 have:ar x=x\/∃q:Int,ar x=x+18446744073709551616*q:=by
  right;simp only[ar,hY,IntKind.wrap,IntKind.bits,IntKind.signed];simp;have h1:x=x%18446744073709551616+18446744073709551616*(x/18446744073709551616):=by omega
  split;exact⟨-(x/18446744073709551616)-1,by omega⟩;exact⟨-(x/18446744073709551616),by omega⟩
 rcases this with h|⟨q,h⟩;rw[h];rw[h,hc,Int.mul_assoc,Int.add_mul_emod_self_left]
theorem Gp (x:Int)(k:Nat)(hk:k<63:=by omega):((iR x&&&iR (2^k-1)).toNat:Int)=x%2^k:=by
 have h2:(2:Int)^k<=2^62:=by have:(2:Nat)^k<=2^62:=Nat.pow_le_pow_right (by omega) (by omega);exact_mod_cast this
 have h0:(1:Int)<=2^k:=by have:1<=(2:Nat)^k:=Nat.one_le_two_pow;exact_mod_cast this
 have hm:(iR (2^k-1)).toNat=2^k-1:=by
  show(BitVec.ofInt 64 (2^k-1)).toNat=2^k-1;rw[BitVec.toNat_ofInt,Int.emod_eq_of_lt (by omega) (by omega)];have:((2:Int)^k-1)=((2^k-1:Nat):Int):=by have:1<=(2:Nat)^k:=Nat.one_le_two_pow;push_cast [this];rfl
  rw[this];rfl
 rw[BitVec.toNat_and,hm,Nat.and_two_pow_sub_one_eq_mod];show(((BitVec.ofInt 64 x).toNat%2^k:Nat):Int)=x%2^k;rw[BitVec.toNat_ofInt];have hx:0<=x%18446744073709551616:=by omega
 have e:(((x%18446744073709551616).toNat%2^k:Nat):Int)=(x%18446744073709551616)%2^k:=by push_cast;rw[Int.toNat_of_nonneg hx]
 refine e.trans ?_;exact Int.emod_emod_of_dvd x ⟨2^(64-k),by rw[<-Int.pow_add,show k+(64-k)=64 by omega];rfl⟩
theorem MM (x n:Int)(h0:0<n:=by omega)(h1:n<=4611686018427387904:=by omega):jN x n=some (x%n):=by
 unfold jN;have:=fV x (show n≠0 by omega);have:=fY x h0;have hn:(n.natAbs:Int)=n:=by omega
 rw[lI,Int.tmod_eq_emod];split;rw[cL];simp;rw[jP,ak];simp only[ah,hn];congr 1;omega
def bS (r:lZ):Int:=if jn r.2.1 then(r.2.2.2-r.2.2.1)%(2*r.2.1) else 0
theorem abc (r:lZ):vN r=some (bS r):=by
 unfold vN bS;rw[JG,ab];cases hs:jn r.2.1 with
 |false=>rfl
 |true=>
  simp only[aj,af,cw];congr 1;rcases iG.1 hs with h|h|h|h<;>rw[h];have e:ar (ar (2*2)-1)=2^2-1:=by decide
  rw[e,Gp _ 2,EX _ 2,ak];rfl;have e:ar (ar (2*4)-1)=2^3-1:=by decide
  rw[e,Gp _ 3,EX _ 3,ak];rfl;have e:ar (ar (2*8)-1)=2^4-1:=by decide
  rw[e,Gp _ 4,EX _ 4,ak];rfl;have e:ar (ar (2*16)-1)=2^5-1:=by decide
  rw[e,Gp _ 5,EX _ 5,ak];rfl
theorem CG (r:lZ):kD r=some (bS r):=by unfold kD bS;rw[Hm,ab];cases hs:jn r.2.1 with|false=>rfl|true=>simp only[aj,af,cw];have hb:=iG.1 hs;rw[ak (n:=2*r.2.1)];have a1:=fV r.2.2.2 (show 2*r.2.1≠0 by omega);have a2:=fY r.2.2.2 (show 0<2*r.2.1 by omega);have a3:=fV r.2.2.1 (show 2*r.2.1≠0 by omega);have a4:=fY r.2.2.1 (show 0<2*r.2.1 by omega);simp only[MM _ (2*r.2.1) (show 0<2*r.2.1 by omega),ab];rw[ak,<-Int.sub_emod]
def dH (r:lZ):Bool:=di r.1 0 130944&&(jn r.2.1&&(di r.2.2.1 0 (2*r.2.1-1)&&(di r.2.2.2 0 (2*r.2.1-1)&&decide (bS r<=r.2.1))))
theorem yY {n:Int}(h:jn n=true):ar (ar (2*n)-1)=2*n-1:=by have:=iG.1 h;rw[ak (n:=2*n),ak]
theorem Sa (r:lZ):xg r=some (dH r):=by unfold xg dH;simp only[dV,JG,abc,ab,bQ,cF];cases hs:jn r.2.1 with|false=>rfl|true=>rw[yY hs]
theorem Ar (r:lZ):kP r=some (dH r):=by unfold kP dH;simp only[cx,Hm,CG,ab,bQ,cF];cases hs:jn r.2.1 with|false=>rfl|true=>rw[yY hs]
theorem adz (p:dD)(h:p.2.2.2.length<=10^9):B0 p=some p:=by unfold B0;rw[aX (by simp;omega)];rfl
theorem md (l:cc)(h:l.length<=10^9):gT l=some l:=by unfold gT;rw[aX (by simp;omega)];rfl
theorem wR (p:dD)(h:p.2.2.2.length<=10^9):jw p=some p:=by unfold jw;rw[md _ h];rfl
def iq (p:dD)(l:cc):dD:=(p.1,p.2.1,p.2.2.1,p.2.2.2++l)
def CA (p:dD)(l:cc):Bool:=dI p&&dI (iq p l)
def Cz (p:dD)(l:cc):dD×Bool:=bif CA p l then(iq p l,true) else(p,false)
theorem Q0 (p:dD)(l:cc)(h:p.2.2.2.length+l.length<=10^9):ia p l=some (Cz p l):=by unfold ia;rw[wR p (by omega),ab,aX,xC p (by omega)];rw[xC (p.1,p.2.1,p.2.2.1,p.2.2.2++l) (by simp;omega)];simp only[ab,bQ,Cz,CA];show _=some (bif dI p&&dI (p.1,p.2.1,p.2.2.1,p.2.2.2++l) then _ else _);cases dI p<;>cases dI (p.1,p.2.1,p.2.2.1,p.2.2.2++l)<;>rfl
theorem ap0 (p:dD)(l:cc):(Cz p l).2=CA p l:=by unfold Cz;cases CA p l<;>rfl
def qG (n:Int)(s:qc):Bool:=di s.2.1 1 n&&di s.1 0 65535
def bK (l:aw qc):cc:=l.flatMap (·.2.2)
def eS (l:aw qc):Int:=(l.map (·.2.1)).sum
def Pq (t:eR):Bool:=dH t.1&&(dI t.2.1&&(di t.2.2.2 0 65535&&(t.2.2.1.all (qG t.1.2.1)&&(CA t.2.1 (bK t.2.2.1)&&decide (eS t.2.2.1<=t.1.2.1)))))
theorem Br (n:Int):∀l:aw qc,l.all (qG n)=true->0<=eS l
 |[],_=>by simp[eS]
 |x::l,h=>by simp only[cz,ae]at h;have:=Br n l h.2;have hx:=h.1;unfold qG at hx;simp only[ae,aU]at hx;simp only[eS,dm,gu]at this⊢;omega
theorem Ux (p:dD)(n:Int)(hn:n<=16)(fin:Int×cc->aB Bool)(sM:∀s:Int×cc,p.2.2.2.length+s.2.length<=10^9->fin s=some (CA p s.2)):
 ∀(l:aw qc)(left:Int)(acc:cc),0<=left->left<=n->p.2.2.2.length+(acc.length+(bK l).length)<=10^9->
 Cy (λx (s:Int×cc) k=>cond (decide (x.2.1<1)||(decide (x.2.1>s.1)|| !(di x.1 0 65535))) (some false) (room (s.2.length+x.2.2.length) (k (ar (s.1-x.2.1),s.2++x.2.2)))) fin l (left,acc)
  =some (l.all (qG n)&&(CA p (acc++bK l)&&decide (eS l<=left)))
 |[],left,acc,h0,h1,h2=>by rw[Cy,sM _ (by simp[bK]at h2;exact h2)];simp[bK,eS,h0]
 |x::l,left,acc,h0,h1,h2=>by
  have hb:bK (x::l)=x.2.2++bK l:=by simp[bK]
  have hc:eS (x::l)=x.2.1+eS l:=by simp only[eS,dm,gu]
  rw[hb,ai]at h2;rw[Cy,cz,hb,hc];by_cases c1:x.2.1<1;have e:qG n x=false:=by unfold qG di;rw[aq (show¬1<=x.2.1 by omega)];rfl
  rw[e,ax c1];rfl;rw[aq c1];by_cases c2:x.2.1>left;rw[ax c2];simp only[jd,cJ,je,ah];cases ha:l.all (qG n)with|false=>simp|true=>have:=Br n l ha;rw[aq (show¬x.2.1+eS l<=left by omega)];simp
  rw[aq c2];have e:qG n x=di x.1 0 65535:=by have:di x.2.1 1 n=true:=aU.2 ⟨by omega,by omega⟩;unfold qG;rw[this];rfl
  rw[e];cases di x.1 0 65535 with
  |false=>rfl
  |true=>
   simp only[cJ,aj,af,bt];rw[aX,ak,Ux p n hn fin sM l _ _ (by omega) (by omega) (by rw[ai];omega),aR];have e:decide (eS l<=left-x.2.1)=decide (x.2.1+eS l<=left):=by rw[cQ];simp;omega
   rw[e]
theorem adp (t:eR)(h1:t.2.2.1.length<=10^9)(h2:t.2.1.2.2.2.length+(bK t.2.2.1).length<=10^9):Ch t=some (Pq t):=by
 unfold Ch Pq;simp only[Ar,xC _ (show t.2.1.2.2.2.length<=10^9 by omega),cx,ab,bQ];cases hr:dH t.1 with
 |false=>rfl
 |true=>
  have hn:0<=t.1.2.1/\t.1.2.1<=16:=by unfold dH at hr;simp only[ae]at hr;have:=iG.1 hr.2.1;omega
  have D7:=eX;have key:=EG (R:=Bool) (T:=xU (λ(_:Int) (y9:cc) (_:Int)=>aa (ia t.2.1 y9) λAN=>some AN.2) (λ(Dg:Bool) (_:Int) (_:cc) (_:Int)=>some Dg) false t.2.2.1 ((List.length t.2.2.1:Int)) t) t.2.2.1 (λ(s:Int×cc) i=>(s.1,s.2,(i:Int))) (λx (s:Int×cc) k=>cond (decide (x.2.1<1)||(decide (x.2.1>s.1)|| !(di x.1 0 65535))) (some false) (room (s.2.length+x.2.2.length) (k (ar (s.1-x.2.1),s.2++x.2.2)))) (λs=>aa (ia t.2.1 s.2) λxc=>some xc.2) (λi hi s nx=>by simp only[xU];rw[jP,bB hi,ak (n:=(i:Int)+1)];simp only[ah,ab,cx,bQ,cT];rfl) (λs nx=>by simp only[xU];rw[cL];rfl) fuel 0 (t.1.2.1,([]:cc)) (by omega) (by omega);rw[fQ,Ux t.2.1 t.1.2.1 (by omega) _ (λs hs=>by rw[Q0 _ _ hs,ab,ap0]) _ _ _ (by omega) (by omega) (by simpa using h2)]at key;cases dI t.2.1 with|false=>rfl|true=>cases di t.2.2.2 0 65535 with|false=>rfl|true=>refine key.trans ?_;simp
def vG (s:gF):Bool:=di s.2.1 0 65535&&(di s.2.2.1 0 65535&&(!decide ((List.length s.2.2.2.2.2.2.2:Int)>320)&&
 (bif s.1==17 then(s.2.2.2.1==0)&&((s.2.2.2.2.1==0)&&((s.2.2.2.2.2.1==0)&&(s.2.2.2.2.2.2.1==0)))
  else(s.1==6)&&(di s.2.2.2.1 0 4294967295&&(di s.2.2.2.2.1 0 4294967295&&(di s.2.2.2.2.2.1 0 31&&di s.2.2.2.2.2.2.1 0 65535))))))
theorem afU (s:gF):tE s=some (vG s):=by simp only[tE,dV,ab,bQ,cF,cT,cN,Bool.not_or,gP,Bool.and_assoc,vG]
theorem afr (s:gF):ti s=some (vG s):=by simp only[ti,cx,ab,bQ,cF,cT,cN,Bool.not_or,gP,Bool.and_assoc,vG];by_cases h:s.1=17;rw[h];rfl;rw[show(s.1==17)=false from by simpa using h];cases s.1==6<;>rfl
def E9 (f:Int):Bool:=(f==16)||(f==17)||(f==24)||(f==25)
theorem Ql (f:Int)(h:di f 0 31=true):(ar (toNat (iR f&&&~~~ iR 9))==16)=E9 f:=by
 have key:∀k:Fin 32,(ar (toNat (iR (k.val:Int)&&&~~~ iR 9))==16)=E9 (k.val:Int):=by decide
 rw[aU]at h;have:=key ⟨f.toNat,by omega⟩;rwa[show((f.toNat:Nat):Int)=f by omega]at this
theorem Qk (f:Int)(h:di f 0 31=true):tr f=some (E9 f):=by
 have key:∀k:Fin 32,((ar (toNat (iR (k.val:Int)&&&iR 16)) !=0)&&(ar (toNat (iR (k.val:Int)&&&~~~ iR 25))==0))=E9 (k.val:Int):=by decide
 rw[aU]at h;have:=key ⟨f.toNat,by omega⟩;rw[show((f.toNat:Nat):Int)=f by omega]at this;simp only[tr,bQ,ab,cF];rw[this]
theorem Ig {s:gF}(h:vG s=true)(h6:(s.1==6)=true):di s.2.2.2.2.2.1 0 31=true:=by
 have:s.1=6:=by simpa using h6
 unfold vG at h;rw[this]at h;simp only[ae]at h;have h:=h.2.2.2;simp at h;exact h.2.2.1
def sa (p:aN):Bool:=di p.1 0 281474976710655&&(di p.2.1 0 281474976710655&&(di p.2.2.1 (-1) 4095&&(di p.2.2.2.1 0 255&&(di p.2.2.2.2.2.1 0 255&&(di p.2.2.2.2.1 0 65535&&(di p.2.2.2.2.2.2.1 0 4294967295&&(di p.2.2.2.2.2.2.2.1 0 4294967295&&vG p.2.2.2.2.2.2.2.2)))))))
def dS (p:aN):Bool:=sa p&&(decide ((List.length p.2.2.2.2.2.2.2.2.2.2.2.2.2.2.2:Int)<=128)||(p.2.2.2.2.2.2.2.2.1==6)&&E9 p.2.2.2.2.2.2.2.2.2.2.2.2.2.1)
theorem CD (h:sa p=true):vG p.2.2.2.2.2.2.2.2=true:=by unfold sa at h;simp only[ae]at h;exact h.2.2.2.2.2.2.2.2
theorem Vi (p:aN):yw p=some (dS p):=by unfold yw dS;simp only[dV,afU,ab,bQ,cF,cT,cN,Bool.not_or,gP];rw[show(di p.1 0 281474976710655&&(di p.2.1 0 281474976710655&&(di p.2.2.1 (-1) 4095&&(di p.2.2.2.1 0 255&&(di p.2.2.2.2.2.1 0 255&&(di p.2.2.2.2.1 0 65535&&(di p.2.2.2.2.2.2.1 0 4294967295&&(di p.2.2.2.2.2.2.2.1 0 4294967295&&vG p.2.2.2.2.2.2.2.2))))))))=sa p from rfl];cases hh:sa p with|false=>rfl|true=>cases h6:p.2.2.2.2.2.2.2.2.1==6 with|false=>simp|true=>rw[Ql _ (Ig (CD hh) h6)];simp[Bool.or_comm]
theorem nn (p:aN):gX p=some (dS p):=by
 unfold gX dS;simp only[cx,afr,ab];have e:∀X:aB Bool,(cond (di p.1 0 281474976710655) (cond (di p.2.1 0 281474976710655) (cond (di p.2.2.1 (-1) 4095) (cond (di p.2.2.2.1 0 255) (cond (di p.2.2.2.2.2.1 0 255) (cond (di p.2.2.2.2.1 0 65535) (cond (di p.2.2.2.2.2.2.1 0 4294967295) (cond (di p.2.2.2.2.2.2.2.1 0 4294967295) (cond (vG p.2.2.2.2.2.2.2.2) X (some false)) (some false)) (some false)) (some false)) (some false)) (some false)) (some false)) (some false)) (some false))=cond (sa p) X (some false):=by intro X;unfold sa;cases di p.1 0 281474976710655;rfl;cases di p.2.1 0 281474976710655;rfl;cases di p.2.2.1 (-1) 4095;rfl;cases di p.2.2.2.1 0 255;rfl;cases di p.2.2.2.2.2.1 0 255;rfl;cases di p.2.2.2.2.1 0 65535;rfl;cases di p.2.2.2.2.2.2.1 0 4294967295;rfl;cases di p.2.2.2.2.2.2.2.1 0 4294967295<;>rfl
 rw[e];cases hh:sa p with|false=>rfl|true=>cases h6:p.2.2.2.2.2.2.2.2.1==6 with|false=>simp[bQ]|true=>rw[Qk _ (Ig (CD hh) h6)];simp only[ah,ab,bQ,cT,bt]
def gL (q:uW):Bool:=di q.1 0 130944&&(jn q.2.1&&di q.2.2 0 (ar ((ar (2*q.2.1))-1)))
theorem Mu (q:uW):qv q=some (gL q):=by simp only[qv,cx,Hm,ab,bQ,cF,gL]
def aiY:qP:=((0,0,0,0,0,0,0,0,0,0,0,0,0,0,0,([]:Bytes)),0,0)
def af1 (p:qP):Bool:=(p.1.1==0)&&((p.1.2.1==0)&&((p.1.2.2.1==0)&&((p.1.2.2.2.1==0)&&((p.1.2.2.2.2.1==0)&&((p.1.2.2.2.2.2.1==0)&&((p.1.2.2.2.2.2.2.1==0)&&((p.1.2.2.2.2.2.2.2.1==0)&&((p.1.2.2.2.2.2.2.2.2.1==0)&&((p.1.2.2.2.2.2.2.2.2.2.1==0)&&((p.1.2.2.2.2.2.2.2.2.2.2.1==0)&&((p.1.2.2.2.2.2.2.2.2.2.2.2.1==0)&&((p.1.2.2.2.2.2.2.2.2.2.2.2.2.1==0)&&((p.1.2.2.2.2.2.2.2.2.2.2.2.2.2.1==0)&&((p.1.2.2.2.2.2.2.2.2.2.2.2.2.2.2.1==0)&&((p.1.2.2.2.2.2.2.2.2.2.2.2.2.2.2.2==([]:Bytes))&&((p.2.1==0)&&((p.2.2==0)&&true)))))))))))))))))
def Gj (r:bL):Bool:=(dH r.1&&(gL r.2.1&&(gL r.2.2.1&&((r.2.1.1==r.2.2.1.1)&&((r.2.1.2.1==r.2.2.1.2.1)&&di r.2.2.2.2.2 0 1000000000000)))))&&
 (bif r.2.2.2.2.1 then dS r.2.2.2.1.1&&(di r.2.2.2.1.2.1 0 320&&di r.2.2.2.1.2.2 1 320) else af1 r.2.2.2.1)
theorem amk (p:qP):af1 p=true↔p=aiY:=by obtain⟨⟨a,b,c,d,e,f,g,h,i,j,k,l,m,n,o,q⟩,r,s⟩:=p;simp only[af1,aiY,gQ,ae,bn,Prod.mk.injEq,and_assoc]
theorem Q4 (r:bL):xa r=some (Gj r):=by unfold xa Gj af1;simp only[Ar,Mu,cx,nn,ab,bQ,cF,cT,cN,Bool.not_or,gP,bne];cases r.2.2.2.2.1<;>rfl
def ew (v:Vector):Bool:=(ot v).getD false
theorem JS (v:Vector):ot v=some (ew v):=by
 have:∃b,ot v=some b:=by simp only[ot,xh,dV,ab,bQ];exact⟨_,rfl⟩
 obtain⟨b,hb⟩:=this;rw[ew,hb];rfl
theorem CH (v:Vector):oh v=some (ew v):=JS v
theorem M3 (l:aw α)(p:α->Bool):(range l.length).all (λi=>l[i]?.all p)=l.all p:=by rw[cQ,aF,aF];constructor;intro h x hx;obtain⟨i,hi,rfl⟩:=gw hx;have:=h i (bG.2 hi);rwa[al hi]at this;intro h i hi;rw[al (bG.1 hi)];exact h _ (aK _)
theorem aeL (l:aw α)(p q:α->Bool):l.all (λx=>p x&&q x)=(l.all p&&l.all q):=by induction l with|nil=>rfl|cons x l ih=>simp only[cz,ih];cases p x<;>cases q x<;>cases l.all p<;>rfl
def jA (h:Host):cc:=[h.2.2.2.2.2.2.2.2.2.2.2.2.2.2.1,h.2.2.2.2.2.2.2.2.2.2.2.2.2.2.2.1,h.2.2.2.2.2.2.2.2.2.2.2.2.2.2.2.2.1,h.2.2.2.2.2.2.2.2.2.2.2.2.2.2.2.2.2.1,h.2.2.2.2.2.2.2.2.2.2.2.2.2.2.2.2.2.2]
def tu (h:Host):Bool:=di (h.2.2.2.1.length:Int) 1 2&&(((h.2.2.2.2.1.length:Int)==(h.2.2.2.1.length:Int))&&(((h.2.2.2.2.2.1.length:Int)==(h.2.2.2.1.length:Int))&&((h.2.2.2.2.2.2.1.length:Int)==(h.2.2.2.1.length:Int))))
def aaT (h:Host):Bool:=h.2.2.2.1.all Gj&&(h.2.2.2.2.1.all dI&&h.2.2.2.2.2.1.all ew)
def eT (h:Host):Bool:=dq h.1&&(gG h.2.1&&(Pq h.2.2.1&&(fK h.2.2.2.2.2.2.2.1&&(tu h&&(fI h.2.2.2.2.2.2.2.2.1 (h.2.2.2.1.length:Int)&&(aaT h&&(jA h).all (λx=>di x 0 1000000000000)))))))
structure Py (h:Host):Prop where
 a1:h.1.length<=10^9
 a2:h.2.1.length<=10^9
 t1:h.2.2.1.2.2.1.length<=10^9
 t2:h.2.2.1.2.1.2.2.2.length+(bK h.2.2.1.2.2.1).length<=10^9
 f1:h.2.2.2.2.2.2.2.1.2.2.length<=10^9
 s1:h.2.2.2.2.2.2.2.2.1.1.length<=10^9
 s2:h.2.2.2.2.2.2.2.2.1.2.1.length<=10^9
 s3:h.2.2.2.2.2.2.2.2.1.2.2.2.length<=10^9
 p1:∀p∈h.2.2.2.2.1,p.2.2.2.length<=10^9
theorem oK (l:tu h=true):h.2.2.2.1.length<=2/\h.2.2.2.2.1.length=h.2.2.2.1.length/\h.2.2.2.2.2.1.length=h.2.2.2.1.length/\h.2.2.2.2.2.2.1.length=h.2.2.2.1.length:=by unfold tu at l;simp only[ae,aU,bn]at l;omega
theorem aiv {T:(Int->aB R)->Int->aB R}{fin hit:aB R}(l:tu h=true)(hs:∀i (hi:i<h.2.2.2.1.length) nx,T nx (i:Int)=cond (!(Gj h.2.2.2.1[i]&&(dI (h.2.2.2.2.1[i]'((oK l).2.1▸hi))&&ew (h.2.2.2.2.2.1[i]'((oK l).2.2.1▸hi))))) hit (nx ((i+1:Nat):Int)))(hf:∀nx,T nx (h.2.2.2.1.length:Int)=fin):bj T fuel 0=cond (aaT h) fin hit:=by
 have hl:=oK l;rw[jG (fin:=fin) (hit:=hit) (λi=>h.2.2.2.1[i]?.all Gj&&(h.2.2.2.2.1[i]?.all dI&&h.2.2.2.2.2.1[i]?.all ew)) h.2.2.2.1.length (by omega) ?hs hf]
 case hs=>
  intro i nx hi
  rw[hs i hi,al hi,al (hl.2.1▸hi),al (hl.2.2.1▸hi)]
  rfl
 rw[aeL,aeL,M3];have e1:=M3 h.2.2.2.2.1 dI;have e2:=M3 h.2.2.2.2.2.1 ew;rw[hl.2.1]at e1;rw[hl.2.2.1]at e2;rw[e1,e2];rfl
theorem Yk {T:(Int->aB R)->Int->aB R}{fin hit:aB R}(h:Host)(hs:∀i (hi:i<(jA h).length) nx,T nx (i:Int)=cond (!(di (jA h)[i] 0 1000000000000)) hit (nx ((i+1:Nat):Int)))(hf:∀nx,T nx ((jA h).length:Int)=fin):bj T fuel 0=cond ((jA h).all (λx=>di x 0 1000000000000)) fin hit:=tM (λx=>di x 0 1000000000000) (jA h) (by simp[jA]) hs hf
theorem xB (h:Host)(z:Py h):jL h=some (eT h):=by
 unfold jL eT;simp only[JC _ z.a1,KP _ z.a2,adp _ z.t1 z.t2,sZ _ z.f1,KV _ _ z.s1 z.s2 z.s3,cx,ab,bQ];cases dq h.1;rfl;cases gG h.2.1;rfl;cases Pq h.2.2.1;rfl;cases fK h.2.2.2.2.2.2.2.1;rfl;simp only[aj,af,cT,bne];rw[show(!di (h.2.2.2.1.length:Int) 1 2||(!((h.2.2.2.2.1.length:Int)==(h.2.2.2.1.length:Int))||(!((h.2.2.2.2.2.1.length:Int)==(h.2.2.2.1.length:Int))|| !((h.2.2.2.2.2.2.1.length:Int)==(h.2.2.2.1.length:Int)))))= !(tu h) by unfold tu;simp only[Bool.not_and]];cases hl:tu h;rfl;have hL:=oK hl;simp only[aj,af,bt];rw[aiv (h:=h) (hit:=some false) (fin:=some ((jA h).all (λx=>di x 0 1000000000000)&&fI h.2.2.2.2.2.2.2.2.1 (h.2.2.2.1.length:Int))) hl ?hs ?hf]
 case hs=>
  intro i hi nx
  simp only[xK]
  rw[jP,bB hi,bB (hL.2.1▸hi),bB (hL.2.2.1▸hi),ak (n:=(i:Int)+1)]
  simp only[ah,ab,Q4,CH,xC _ (z.p1 _ (aK _)),bQ,cT,Bool.not_and]
  rfl
 case hf=>
  intro nx
  simp only[xK]
  rw[cL]
  simp only[af]
  refine(Yk (fin:=some (fI h.2.2.2.2.2.2.2.2.1 (h.2.2.2.1.length:Int))) (hit:=some false) h ?_ ?_).trans ?_
  ·intro i hi nx
   simp only[vU]
   have xk:i<5:=hi
   change (bif decide ((i:Int)<5) then aa (idx (jA h) (i:Int)) _ else _)=_
   rw[jP,bB hi,ak (n:=(i:Int)+1),ab,cx]
   rfl
  ·intro nx
   simp only[vU]
   rw[aq (by simp[jA])];rfl
  ·cases (jA h).all (λx=>di x 0 1000000000000)<;>rfl
 cases aaT h<;>cases fI h.2.2.2.2.2.2.2.2.1 (h.2.2.2.1.length:Int)<;>cases (jA h).all (λx=>di x 0 1000000000000)<;>rfl
def WT (v:Int)(b:Bytes):Bytes:=((gz v++gz (b.length:Int))++b)++gz (Nr ((gz v++gz (b.length:Int))++b))
def eK (v:Int)(b:Bytes):Bytes×Bool:=bif di v 0 1000000&&decide (b.length<=84) then(WT v b,true) else([],false)
theorem R7 (v:Int)(b:Bytes)(h:b.length<=10^9):pR v b=some (eK v b):=by have l1:=dU v;have l2:=dU (b.length:Int);unfold pR eK;rw[ak];simp only[dV,ab];cases di v 0 1000000 with|false=>rfl|true=>by_cases hb:b.length<=84;have l3:=dU (Nr ((gz v++gz (b.length:Int))++b));rw[aq (show¬((b.length:Int)+12>96) by omega),ax hb];simp only[aj,af,ab,cq,ah,oq];rw[aX,aX (by simp only[ai];omega),afS _ (by simp only[ai];omega)];simp only[ab,oq];rw[aX (by simp only[ai];omega)];rfl;rw[ax (show((b.length:Int)+12>96) by omega),aq hb];rfl
theorem ak5 (v:Int)(b:Bytes)(h:b.length<=10^9):xM v b=some (eK v b):=by have l1:=dU v;have l2:=dU (b.length:Int);unfold xM eK;rw[ak];simp only[cx,ab];cases di v 0 1000000 with|false=>rfl|true=>by_cases hb:b.length<=84;have l3:=dU (Nr ((gz v++gz (b.length:Int))++b));rw[aq (show¬(12+(b.length:Int)>96) by omega),ax hb];simp only[aj,af,ab,cq,ah,wJ];rw[aX,aX (by simp only[ai];omega),afo _ (by simp only[ai];omega)];simp only[ab,wJ];rw[aX (by simp only[ai];omega)];rfl;rw[ax (show(12+(b.length:Int)>96) by omega),aq hb];rfl
def ai3 (s:Bytes)(n:Nat):Int:=bif (eK (fj s 0) ((s.take (8+n)).drop 8)).2&&((eK (fj s 0) ((s.take (8+n)).drop 8)).1==s.take (12+n)) then fj s 0 else-1
def jj (s:Bytes):Int:=if 0<=fj s 4/\fj s 4<=(s.length:Int)-12 then ai3 s (fj s 4).toNat else-1
theorem YS (s:Bytes)(a:Int): -1<=fj s a/\fj s a<=4294967295:=by unfold fj;cases fT s a 4 with|false=>simp only[af];omega|true=>have b0:=fg s a.toNat;have b1:=fg s (a.toNat+1);have b2:=fg s (a.toNat+2);have b3:=fg s (a.toNat+3);simp only[ah];omega
theorem ai4 (h:¬n<=84)(hs:n+12<=s.length):ai3 s n= -1:=by
 have:(eK (fj s 0) ((s.take (8+n)).drop 8)).2=false:=by unfold eK;rw[aq (by simp only[aM,aV];omega),eM];rfl
 unfold ai3;rw[this];rfl
theorem afV (s:Bytes)(h:s.length<=10^9:=by omega):nY s=some (jj s):=by
 unfold nY jj;have hg:=YS s 4;simp only[aiJ s _ h,dV,ab];rw[ak (n:=fj s 4+12),ak (n:=8+fj s 4)];generalize fj s 4=n at hg;by_cases hc:0<=n/\n<=(s.length:Int)-12;rw[aH hc];obtain⟨m,rfl⟩:=aD hc.1;by_cases h84:m<=84;have e1:di (m:Int) 0 84=true:=aU.2 (by omega);have e2:sub s 8 (8+(m:Int))=some ((s.take (8+m)).drop 8):=by unfold sub;rw[zip];rfl
 have e3:sub s 0 ((m:Int)+12)=some (s.take (12+m)):=by unfold sub;rw[zip,show((m:Int)+12).toNat=12+m by omega];rfl
 rw[e1,aq (show¬((m:Int)+12>(s.length:Int)) by omega),e2,e3];simp only[aj,af,ab,au];rw[R7 _ _ (by simp only[aM,aV];omega)];unfold ai3;simp only[ab];cases (eK (fj s 0) ((s.take (8+m)).drop 8)).2<;>cases ((eK (fj s 0) ((s.take (8+m)).drop 8)).1==s.take (12+m))<;>rfl;have e1:di (m:Int) 0 84=false:=by rw[Bool.eq_false_iff,ne_eq,aU];omega
 rw[e1,au,ai4 h84 (by omega)];rfl;rw[aG hc];by_cases hb:di n 0 84=true;have:=aU.1 hb;rw[hb,ax (show n+12>(s.length:Int) by omega)];rfl;have iy:di n 0 84=false:=by simpa using hb
 rw[iy];rfl
theorem KZ (s:Bytes)(h:s.length<=10^9:=by omega):jB s=some (jj s):=by
 unfold jB jj;have hg:=YS s 4;simp only[yS s _ h,ab];rw[ak (n:=12+fj s 4),ak (n:=8+fj s 4),ak (n:=(s.length:Int)-12)];generalize fj s 4=n at hg;by_cases hc:0<=n/\n<=(s.length:Int)-12;rw[aH hc];obtain⟨m,rfl⟩:=aD hc.1;have e2:sub s 8 (8+(m:Int))=some ((s.take (8+m)).drop 8):=by unfold sub;rw[zip];rfl
 have e3:sub s 0 (12+(m:Int))=some (s.take (12+m)):=by unfold sub;rw[zip,show(12+(m:Int)).toNat=12+m by omega];rfl
 rw[aq (show¬((m:Int)<0) by omega),aq (show¬((m:Int)>(s.length:Int)-12) by omega),e2,e3];simp only[af,ab,au];rw[ak5 _ _ (by simp only[aM,aV];omega)];unfold ai3;simp only[ab];cases (eK (fj s 0) ((s.take (8+m)).drop 8)).2<;>cases ((eK (fj s 0) ((s.take (8+m)).drop 8)).1==s.take (12+m))<;>rfl;rw[aG hc];by_cases h0:n<0;rw[ax h0];rfl;rw[aq h0,ax (show n>(s.length:Int)-12 by omega)];rfl
def lg (f:bO):Bool:=((f.length:Int)==2)&&((((f.getD 0 []).length:Int)==96)&&(((f.getD 1 []).length:Int)==96))
theorem yP {f:bO}(h:lg f=true):f=[f.getD 0 [],f.getD 1 []]/\(f.getD 0 []).length=96/\(f.getD 1 []).length=96:=by simp only[lg,ae,bn]at h;match f,h with|[a,b],h=>have h1:(a.length:Int)=96:=h.2.1;have h2:(b.length:Int)=96:=h.2.2;exact⟨rfl,by show a.length=96;omega,by show b.length=96;omega⟩
theorem Ve (f:bO):BL f=some (lg f):=by
 unfold BL lg;match f with
 |[]=>rfl
 |[a]=>rfl
 |[a,b]=>have i0:idx [a,b] 0=some a:=rfl;have i1:idx [a,b] 1=some b:=rfl;rw[i0,i1];simp only[ab,bQ,cF];rfl
 |a::b::c::r=>
  have:(((a::b::c::r).length:Int)==2)=false:=by simp only[aP,bM];omega
  rw[this];rfl
theorem Ms (f:bO):xH f=some (lg f):=Ve f
def iZ (f:bO):Int:=bif lg f then(if jj (f.getD 0 [])<0/\jj (f.getD 1 [])<0 then-1 else if jj (f.getD 1 [])>jj (f.getD 0 []) then 1 else 0) else-1
theorem al8 (f:bO):zX f=some (iZ f):=by unfold zX iZ;rw[Ve,ab];cases hf:lg f with|false=>rfl|true=>obtain⟨e,l0,l1⟩:=yP hf;generalize f.getD 0 []=a at*;generalize f.getD 1 []=b at*;subst e;have i0:idx [a,b] 0=some a:=rfl;have i1:idx [a,b] 1=some b:=rfl;simp only[aj,af,ah,i0,i1,ab,afV a,afV b];by_cases p:jj a<0<;>by_cases q:jj b<0<;>by_cases r:jj b>jj a<;>simp[p,q,r]
theorem QV (f:bO):rD f=some (iZ f):=by
 unfold rD iZ;rw[Ms,ab];cases hf:lg f with
 |false=>rfl
 |true=>
  obtain⟨e,l0,l1⟩:=yP hf;generalize f.getD 0 []=a at*;generalize f.getD 1 []=b at*;subst e;have i0:idx [a,b] 0=some a:=rfl;have i1:idx [a,b] 1=some b:=rfl;simp only[aj,af,ah,i0,i1,ab,KZ a,KZ b];by_cases r:jj b>jj a;have r':¬jj a>=jj b:=by omega
  by_cases p:jj a<0<;>by_cases q:jj b<0<;>simp[p,q,r,r'];have r':jj a>=jj b:=by omega
  by_cases p:jj a<0<;>by_cases q:jj b<0<;>simp[p,q,r,r']
def sT (c:lZ):Bool:=di c.1 0 1125899906842624&&(di c.2.1 0 1048575&&(di c.2.2.1 0 67108864&&di c.2.2.2 0 1099511627776))
theorem Vc (c:lZ):BK c=some (sT c):=by simp only[BK,dV,ab,bQ,cF,sT]
theorem Mq (c:lZ):xG c=some (sT c):=Vc c
def Ke (c:cW)(i:Nat):Bool:=(c.1[i]?.all eT)&&SF (c.1[i]?.map (·.2.2.2.2.2.2.2.1)) (c.2.2.1[i]?.map (·.1))
def Rj (c:cW):Bool:=((c.1.length:Int)==(c.2.2.1.length:Int))&&((c.2.1.length:Int)==(c.2.2.1.length:Int))
def jT (c:cW):Bool:=(dw c.2.2.1).2&&(Rj c&&(iS c.2.1 (dw c.2.2.1).1&&((!decide (iZ c.2.2.2.1<0)&&sT c.2.2.2.2.1)&&((range c.1.length).all (Ke c)&&(range c.1.length).all (Be c.2.1)))))
structure abB (c:cW):Prop where
 h0:c.1.length<=10^9
 f0:c.2.1.length<=10^9
 m:∀m∈c.2.2.1,m.1.2.2.length<=10^9
 h1:∀h∈c.1,Py h
theorem H7 {c:cW}(h:Rj c=true):c.1.length=c.2.2.1.length/\c.2.1.length=c.2.2.1.length:=by unfold Rj at h;simp only[ae,bn]at h;omega
theorem PQ {c:cW}(i:Nat)(hi:i<c.1.length)(hj:i<c.2.2.1.length):Ke c i=(eT c.1[i]&&SF c.1[i].2.2.2.2.2.2.2.1 c.2.2.1[i].1):=by unfold Ke;rw[al hi,al hj];congr 1;apply Wr;rw[HL];simp
theorem xz (c:cW)(z:abB c):kM c=some (jT c):=by
 have hp:=MX c.2.2.1;unfold kM jT;simp only[DF _ z.m,IQ _ _ z.f0 hp.1 hp.2,adk _ z.f0,QV,Mq,ab,bQ,cT,cF,bne];rw[show((!((c.1.length:Int)==(c.2.2.1.length:Int)))|| !((c.2.1.length:Int)==(c.2.2.1.length:Int)))= !(Rj c) by unfold Rj;simp only[Bool.not_and]];cases (dw c.2.2.1).2;rfl;cases hl:Rj c;rfl;have hL:=H7 hl;have h0:=z.h0;simp only[aj,cJ,af,bt];have hd:decide (iZ c.2.2.2.1>=0)= !decide (iZ c.2.2.2.1<0):=by by_cases h:iZ c.2.2.2.1<0;rw[ax h,cL];rfl;rw[aq h,jP];rfl
 rw[hd,jG (hit:=some false) (fin:=some (iS c.2.1 (dw c.2.2.1).1&&((range c.2.1.length).all (Be c.2.1)&&(!decide (iZ c.2.2.2.1<0)&&sT c.2.2.2.2.1)))) (Ke c) c.1.length (by omega) (λi nx hi=>?hs) (λnx=>?hf)]
 case hs=>
  have q1:i<c.2.2.1.length:=by omega
  have hm:=aK hi
  rw[PQ i hi q1]
  simp only[xF]
  rw[jP,bB hi,bB q1,ak (n:=(i:Int)+1)]
  simp only[ah,ab,xB _ (z.h1 _ hm),W0 _ _ (z.h1 _ hm).f1,bQ,cT]
  cases eT c.1[i]<;>cases SF c.1[i].2.2.2.2.2.2.2.1 c.2.2.1[i].1<;>rfl
 case hf=>
  simp only[xF]
  rw[cL];rfl
 rw[hL.2,<-hL.1];cases (range c.1.length).all (Ke c)<;>cases (range c.1.length).all (Be c.2.1)<;>cases iS c.2.1 (dw c.2.2.1).1<;>cases (!decide (iZ c.2.2.2.1<0)&&sT c.2.2.2.2.1)<;>rfl
def abM (s:Bytes)(i:Nat):Nat:=cn s (i/8)/2^(7-i%8)%2
theorem VQ (s:Bytes)(i:Nat):abM s i<2:=Nat.mod_lt _ (by omega)
theorem ajp (b k:Nat)(hb:b<256)(hk:k<=7):ar (toNat (iR (ar (fdiv (b:Int) ((2^k:Nat):Int)))&&&iR 1))=((b/2^k%2:Nat):Int):=by have e:fdiv (b:Int) ((2^k:Nat):Int)=((b/2^k:Nat):Int):=(Int.ofNat_fdiv b (2^k)).symm;have h1:b/2^k<=b:=Nat.div_le_self _ _;rw[e,jU (n:=b/2^k)];have:=aoI (b/2^k) 1;rw[show((1:Nat):Int)=1 from rfl]at this;rw[this,Nat.and_one_is_mod];exact jU
theorem afm (s:Bytes)(i:Nat)(hi:i/8<s.length:=by omega)(h:s.length<=10^9:=by omega):Av s (i:Int)=some ((abM s i:Nat):Int):=by
 have e1:Int.tdiv (i:Int) 8=((i/8:Nat):Int):=(Int.ofNat_tdiv i 8).symm;have e2:tmod (i:Int) 8=((i%8:Nat):Int):=(Int.ofNat_tmod i 8).symm;unfold Av;rw[lI,e1,ak (n:=((i/8:Nat):Int)),bB hi,ab,lI,e2,ak (n:=7-((i%8:Nat):Int)),lI];have e3:(2:Int)^(min (Int.toNat (7-((i%8:Nat):Int))) (IntKind.bits .u8))=((2^(7-i%8):Nat):Int):=by rw[show min (Int.toNat (7-((i%8:Nat):Int))) (IntKind.bits .u8)=7-i%8 from by show min _ 8=_;omega];push_cast;rfl
 rw[e3,ajp _ _ (vQ _) (by omega),abM,cn,cB hi]
def win (s:Bytes)(a:Nat):Nat->Nat
 |0=>0
 |j+1=>2*win s a j+abM s (a+j)
theorem amX (s:Bytes)(a:Nat):∀j,win s a j<2^j
 |0=>by simp[win]
 |j+1=>by have:=amX s a j;have:=VQ s (a+j);rw[win,Nat.pow_succ];omega
theorem aeI (s:Bytes)(a j:Nat)(hj:j<=32:=by omega):win s a j<4294967296:=Nat.lt_of_lt_of_le (amX s a j) (Nat.pow_le_pow_right (n:=2) (by omega) hj)
def aoy (s:Bytes)(a:Int):Int:=bif ((s.length:Int) !=16)|| !di a 0 96 then-1 else((win s a.toNat 32:Nat):Int)
theorem anL (s:Bytes)(a:Int):xL s a=some (aoy s a):=by
 unfold xL aoy;rw[cx];cases hs:(s.length:Int) !=16;case true=>rfl
 cases ha:di a 0 96;rfl;have h1:=aU.1 ha;have h2:s.length=16:=by simp at hs;omega
 obtain⟨a,rfl⟩:=aD h1.1;simp only[af,ab,aj,cu,au];refine dG (λi=>(((win s a i:Nat):Int),((a+i:Nat):Int))) 32 (by omega) (λi nx hi=>?_) (λnx=>?_);have hw:=aeI s a i;have hb:=VQ s (a+i);simp only[sm];rw[ak (n:=(a:Int)+32),jP,ah,lI,afm s (a+i),ab,ak (n:=((a+i:Nat):Int)+1)];have e1:ar (((win s a i:Nat):Int)*2^(rX 1))=((2^1*win s a i:Nat):Int):=by have:(2:Int)^(rX 1)=2:=rfl;rw[this,ak];omega
 rw[e1,JN _ _ _];rw[show(((a+i:Nat):Int)+1)=((a+(i+1):Nat):Int) by omega];rfl;simp only[sm];rw[ak (n:=(a:Int)+32),cL];rfl
def IG (s v:Bytes):Nat->Nat
 |0=>0
 |i+1=>if abM v i=1 then IG s v i^^^win s i 32 else IG s v i
theorem QE (s v:Bytes):∀i,IG s v i<4294967296
 |0=>by simp[IG]
 |i+1=>by have:=QE s v i;rw[IG];split;exact FV this (aeI s i 32);exact this
def wW (s v:Bytes):Int:=bif ((s.length:Int) !=16)||decide ((v.length:Int)>12) then-1 else((IG s v (8*v.length):Nat):Int)
theorem akZ (s v:Bytes):xI s v=some (wW s v):=by
 unfold xI wW;cases hs:(s.length:Int) !=16;case true=>rfl
 cases hv:decide ((v.length:Int)>12);case true=>rfl
 have h2:s.length=16:=by simp at hs;omega
 have h3:v.length<=12:=by simp at hv;omega
 simp only[af,ab,cu];refine dG (λi=>(((IG s v i:Nat):Int),(i:Int))) (8*v.length) (by omega) (λi nx hi=>?_) (λnx=>?_);have hw:=aeI s i 32;have hh:=QE s v i;have hb:=VQ v i;have eW:aoy s (i:Int)=((win s i 32:Nat):Int):=by unfold aoy;rw[hs,aU.2 (show(0:Int)<=(i:Int)/\(i:Int)<=96 by omega)];rfl
 simp only[si];rw[ak (n:=8*(v.length:Int)),jP,ah,afm v i,ab,anL,ab,eW,am1 _ _ (by omega) (by omega),ak (n:=(i:Int)+1),jU (Nat.lt_trans (FV hh hw) (by omega)),IG];by_cases h1:abM v i=1;rw[h1,aH rfl];rfl;rw[aG h1,show(((abM v i:Nat):Int)==1)=false from by simp;omega];rfl;simp only[si];rw[ak (n:=8*(v.length:Int)),cL];rfl
def rO (f:Iv):Bytes:=((gz f.2.1++gz f.2.2.1)++cy f.2.2.2.1)++cy f.2.2.2.2
theorem agY (f:Iv):(rO f).length<=12:=by have:=dU f.2.1;have:=dU f.2.2.1;have:=bT f.2.2.2.1;have:=bT f.2.2.2.2;simp only[rO,ai];omega
theorem adh (f:Iv):xJ f=some (rO f):=by have:=dU f.2.1;have:=dU f.2.2.1;have:=bT f.2.2.2.1;have:=bT f.2.2.2.2;simp only[xJ,wJ,mF,ab];rw[aX,aX (by simp only[ai];omega),aX (by simp only[ai];omega)];rfl
theorem KO (s:Bytes)(f:Iv):vq s f=some (wW s (rO f)):=by simp only[vq,adh,akZ,ab]
def E7 (s:uO)(f:Iv):Int:=bif ((s.2.length:Int)==0)||decide (wW s.1 (rO f)<0) then-1 else tmod (wW s.1 (rO f)) (s.2.length:Int)
theorem ahd (s:uO)(f:Iv):BA s f=some (E7 s f):=by
 unfold BA E7;rw[KO,ab];cases h0:(s.2.length:Int)==0;case true=>rfl
 cases decide (wW s.1 (rO f)<0);case true=>rfl
 simp only[af,ab,cu];rw[aG (by simpa using h0)]
theorem TY (s:uO)(f:Iv)(h:¬E7 s f<0):∃n:Nat,E7 s f=(n:Int)/\n<s.2.length:=by
 unfold E7 at h⊢;cases hc:((s.2.length:Int)==0)||decide (wW s.1 (rO f)<0)with
 |true=>rw[hc]at h;simp at h
 |false=>
  rw[hc]at h;simp only[cA,bM,df]at hc;simp only[af]at h⊢;have h1:0<=wW s.1 (rO f):=by omega
  rw[dR h1]at h⊢;have:=fY (wW s.1 (rO f)) (show(0:Int)<s.2.length by omega);obtain⟨n,hn⟩:=aD (show 0<=wW s.1 (rO f)%(s.2.length:Int) by omega);exact⟨n,hn,by omega⟩
def Pn (s:uO)(q:Int)(f:Iv):Int:=bif !sH s q||decide (E7 s f<0) then-1 else s.2.getD (E7 s f).toNat 0
theorem ZL (s:uO)(q:Int)(f:Iv)(h:s.2.length<=10^9):uf s q f=some (Pn s q f):=by
 unfold uf Pn;rw[ahd,ab,Q5 s q h,ab];cases sH s q;rfl;have uX:=TY s f;cases hd:decide (E7 s f<0);case true=>rfl
 obtain⟨n,hn,hl⟩:=uX (eH hd);simp only[aj,af,ab,cu,hn,bB hl,au,cB hl]
theorem Vz (t:aw Slot)(f:Iv)(h:∀j,j<8->ry (ij t j) f=false):∀n k,walk t f n k= -1
 |0,_=>rfl
 |n+1,k=>by unfold walk;rw[h _ (LX f k),Vz t f h n (k+1)];split<;>rfl
theorem Nu (f:Iv):∀(t:aw Slot)(m:Int),(∀s∈t,ry s f=false)->AU f t m= -1
 |[],_,_=>rfl
 |s::r,m,h=>by unfold AU;rw[h s (by simp)];exact Nu f r (m+1) (λx hx=>h x (by simp[hx]))
theorem acO (t:aw Slot)(f:Iv)(h:uU t=true):AU f t 0=walk t f 8 0:=by simp only[uU,ae,bn,aF,bG]at h;obtain⟨h8,hs⟩:=h;by_cases hex:∃j,j<t.length/\ry (ij t j) f=true;obtain⟨j,hj,hu,e⟩:=GG f t 0 hex;have:=hs j (by omega);simp only[pN,ae,cY,aO,bn]at this;simp only[ry,ae,bn,aJ]at hu;rcases this.2 with g|g;rw[hu.1]at g;simp at g;rw[hu.2]at g;rw[show((0:Int))=((0:Nat):Int) from rfl,e,g];omega;have hn:∀j,j<t.length->ry (ij t j) f=false:=λj hj=>Bool.eq_false_iff.2 λhu=>hex ⟨j,hj,hu⟩;rw[Vz t f (λj hj=>hn j (by omega)),Nu];intro s yL;obtain⟨j,hj,rfl⟩:=gw yL;have:=hn j hj;rwa[za hj]at this
def findF (t:aw Slot)(f:Iv):Int:=bif uU t then walk t f 8 0 else-1
theorem W1 (t:aw Slot)(f:Iv)(h:t.length<=10^9):zK t f=some (findF t f):=by unfold zK findF;rw[UA,ab];cases ht:uU t;rfl;simp only[aj,af,ah,ZK t f h,ab,acO t f ht]
theorem agc (t:aw Slot)(f:Iv):∀n k,walk t f n k= -1\/∃m:Nat,walk t f n k=(m:Int)/\m<8
 |0,_=> .inl rfl
 |n+1,k=>by unfold walk;split;exact .inl rfl;split;exact .inr ⟨_,rfl,LX f k⟩;exact agc t f n (k+1)
theorem YF (t:aw Slot)(f:Iv)(h:findF t f>=0):∃m:Nat,findF t f=(m:Int)/\m<t.length:=by
 unfold findF at h⊢;cases ht:uU t with
 |false=>rw[ht]at h;simp at h
 |true=>
  rw[ht]at h;simp only[ah]at h⊢;have h8:t.length=8:=by simp only[uU,ae,bn]at ht;exact ht.1
  rcases agc t f 8 0 with g|⟨m,g,hm⟩;omega;exact⟨m,g,by omega⟩
def xq (f:Filter)(p:aN):Bool:=fK f&&(((p.1==f.1)||((p.1==281474976710655)||f.2.1))&&((p.2.2.1== -1)||hasB f.2.2 p.2.2.1))
theorem Zt (f:Filter)(p:aN)(h:f.2.2.length<=10^9):Bv f p=some (xq f p):=by simp only[Bv,sZ f h,Bu f.2.2 _ h,ab,xq];cases fK f<;>cases p.1==f.1<;>cases p.1==281474976710655<;>cases f.2.1<;>cases p.2.2.1== -1<;>rfl
def preB (a b n:Int):Bool:=fdiv a (2^(min (Int.toNat (ar (32-n))) (IntKind.bits .i64)))==fdiv b (2^(min (Int.toNat (ar (32-n))) (IntKind.bits .i64)))
theorem aiw {r:oe}(h:DP r=true):0<=r.2.2.2.1/\r.2.2.2.1<=32:=by rw[<-aU];unfold DP at h;simp only[oa,dV,ab,bQ]at h;cases hp:di r.2.2.2.1 0 32 with|true=>rfl|false=>rw[hp]at h;revert h;cases di r.1 0 1000<;>cases r.2.1 !=0<;>cases r.2.1 !=6<;>cases r.2.1 !=17<;>cases di r.2.2.1 0 4294967295<;>simp
def aoK (r:oe)(p:aN):Bool:=preB r.2.2.1 p.2.2.2.2.2.2.1 r.2.2.2.1&&(di p.2.2.2.2.2.2.2.2.2.2.1 r.2.2.2.2.1 r.2.2.2.2.2.1&&((r.2.2.2.2.2.2.1== -2)||(r.2.2.2.2.2.2.1==p.2.2.1)))
def MK (r:oe)(p:aN):Bool:=DP r&&(dS p&&(((r.2.1==0)||(r.2.1==p.2.2.2.2.2.2.2.2.1))&&aoK r p))
theorem anI (a b n:Int)(h0:0<=n)(h1:n<=32):re a b n=some (preB a b n):=by unfold re preB;rw[aG (by rw[ak (n:=32-n)];omega),aG (by rw[ak (n:=32-n)];omega)]
theorem ahj (r:oe)(p:aN):ud r p=some (MK r p):=by unfold ud MK;rw[ak9,ab];cases hr:DP r;rfl;have hp:=aiw hr;simp only[nn,anI _ _ _ hp.1 hp.2,cx,ab,aoK];cases dS p<;>cases r.2.1==0<;>cases r.2.1==p.2.2.2.2.2.2.2.2.1<;>cases preB r.2.2.1 p.2.2.2.2.2.2.1 r.2.2.2.1<;>cases di p.2.2.2.2.2.2.2.2.2.2.1 r.2.2.2.2.1 r.2.2.2.2.2.1<;>cases r.2.2.2.2.2.2.1== -2<;>rfl
def N9:oe:=(0,0,0,0,0,0,0,0,0)
def Cr (l:aw oe)(p:aN):Nat->Int
 |0=> -1
 |i+1=>bif MK (l.getD i N9) p&&(decide (Cr l p i<0)||decide ((l.getD i N9).1<(l.getD (Cr l p i).toNat N9).1)) then(i:Int) else Cr l p i
theorem PG (l:aw oe)(p:aN):∀i,Cr l p i= -1\/∃n:Nat,Cr l p i=(n:Int)/\n<i
 |0=> .inl rfl
 |i+1=>by rw[Cr];cases MK (l.getD i N9) p&&(decide (Cr l p i<0)||decide ((l.getD i N9).1<(l.getD (Cr l p i).toNat N9).1))with|true=>exact .inr ⟨i,rfl,by omega⟩|false=>rcases PG l p i with h|⟨n,h,hn⟩;exact .inl h;exact .inr ⟨n,h,by omega⟩
theorem agq (l:aw oe)(p:aN)(i:Nat)(hi:i<l.length)(nx:Int×Int->aB R): (aa (cond (MK l[i] p) (cond (decide (Cr l p i<0)) (some true) (aa (idx l (Cr l p i)) λx4=>some (decide (l[i].1<x4.1)))) (some false)) λq5=>cond q5 (nx ((i:Int),((i+1:Nat):Int))) (nx (Cr l p i,((i+1:Nat):Int))))=nx (Cr l p (i+1),((i+1:Nat):Int)):=by
 rw[Cr,cB hi];cases MK l[i] p;rfl;rcases PG l p i with h|⟨n,h,hn⟩;rw[h];rfl;have hl:n<l.length:=by omega
 rw[h,aq (show¬(n:Int)<0 by omega),bB hl];simp only[ah,af,ab,au,cB hl,bt,cJ];cases decide (l[i].1<l[n].1)<;>rfl
def Iz (l:aw oe)(p:aN):Int:=bif Bf l then Cr l p l.length else-1
theorem YG (l:aw oe)(p:aN)(h:Iz l p>=0):∃n:Nat,Iz l p=(n:Int)/\n<l.length:=by unfold Iz at h⊢;cases hr:Bf l with|false=>rw[hr]at h;simp at h|true=>rw[hr]at h;simp only[ah]at h⊢;rcases PG l p l.length with g|g;omega;exact g
theorem ahg (l:aw oe)(p:aN)(h:l.length<=10^9):zL l p=some (Iz l p):=by unfold zL Iz;rw[Uw l h,ab];cases Bf l;rfl;simp only[aj,af,ah];refine dG (λi=>(Cr l p i,(i:Int))) l.length (by omega) (λi nx hi=>?_) (λnx=>?_);simp only[tY];rw[jP,bB hi,ak (n:=(i:Int)+1)];simp only[ah,ab,ahj];exact agq l p i hi nx;simp only[tY];rw[cL];rfl
def lN (p:aN):Iv:=(p.2.2.2.2.2.2.2.2.1,p.2.2.2.2.2.2.1,p.2.2.2.2.2.2.2.1,p.2.2.2.2.2.2.2.2.2.1,p.2.2.2.2.2.2.2.2.2.2.1)
theorem QY (p:aN):wZ p=some (lN p):=rfl
def atd:Slot:=(0,(0,0,0,0,0),0)
def rT (s:dQ)(q:Int)(p:aN):Int:=
 bif !fI s q|| !dS p then-1 else
 bif decide (Iz s.1 p>=0) then(bif (s.1.getD (Iz s.1 p).toNat N9).2.2.2.2.2.2.2.1==1 then-1 else(s.1.getD (Iz s.1 p).toNat N9).2.2.2.2.2.2.2.2) else
 bif decide (findF s.2.1 (lN p)>=0) then(s.2.1.getD (findF s.2.1 (lN p)).toNat atd).2.2 else Pn s.2.2 q (lN p)
theorem ahs (s:dQ)(q:Int)(p:aN)(h1:s.1.length<=10^9)(h2:s.2.1.length<=10^9)(h3:s.2.2.2.length<=10^9):ug s q p=some (rT s q p):=by
 unfold ug rT;rw[KV s q h1 h2 h3,ab,nn,ab];cases fI s q;rfl;cases dS p;rfl;simp only[aj,af,ab,cu,ahg s.1 p h1,QY,W1 s.2.1 _ h2,ZL s.2.2 q _ h3];cases hd:decide (Iz s.1 p>=0)with
 |true=>obtain⟨n,hn,hl⟩:=YG s.1 p (bA hd);simp only[ah,hn,bB hl,ab,au,cB hl];cases s.1[n].2.2.2.2.2.2.2.1==1<;>rfl
 |false=>
  simp only[af];cases QF:decide (findF s.2.1 (lN p)>=0)with
  |true=>obtain⟨n,hn,hl⟩:=YF s.2.1 (lN p) (bA QF);simp only[ah,hn,bB hl,ab,au,cB hl]
  |false=>rfl
def agm (a b:Int):Int:=(nX a b).getD 0
theorem Pk (a b:Int):nX a b=some (agm a b):=by
 unfold agm;have:∃x,nX a b=some x:=by simp only[nX,dV,ab];cases di a 0 65535<;>cases di b 0 65535<;>cases decide (ar (a+b)>65535)<;>exact⟨_,rfl⟩
 obtain⟨x,hx⟩:=this;rw[hx];rfl
theorem Zu (a b:Int):Bw a b=some (agm a b):=Pk a b
theorem anb {a b:Int}(h:0<=a/\a<=65535)(k:0<=b/\b<=65535):0<=agm a b/\agm a b<=65535:=by have e:=Pk a b;simp only[nX,dV,ab,aU.2 h,aU.2 k,aj,af]at e;rw[ak (n:=a+b)]at e;by_cases hc:a+b>65535;rw[ax hc,ah,ak]at e;rw[<-bP e];omega;rw[aq hc,af]at e;rw[<-bP e];omega
def sw (s:Bytes):Nat->Int
 |0=>0
 |j+1=>agm (sw s j) ((cn s (2*j)*256+cn s (2*j+1):Nat):Int)
theorem aml (s:Bytes):∀j,0<=sw s j/\sw s j<=65535
 |0=>by simp[sw]
 |j+1=>by have b0:=fg s (2*j);have b1:=fg s (2*j+1);exact anb (aml s j) (by omega)
theorem Jm (h:s.length<=i:=by omega):cn s i=0:=by unfold cn;rw[aW,bI h];rfl
theorem aol (s:Bytes)(h:s.length<=10^9):Ag s=some (sw s ((s.length+1)/2)):=by
 unfold Ag;refine dG (λj=>(sw s j,((2*j:Nat):Int))) ((s.length+1)/2) (by omega) (λj nx hj=>?_) (λnx=>?_);have b0:=fg s (2*j);have b1:=fg s (2*j+1);obtain⟨x,hx,ex⟩:=nI (s:=s) (i:=2*j);simp only[uG];rw[jP,ah,hx,ab,lI,ak (n:=((2*j:Nat):Int)+1),ak (n:=((2*j:Nat):Int)+2),ex,jU];have e8:rX 8=8:=rfl;have en:((2*j:Nat):Int)+2=((2*(j+1):Nat):Int):=by omega
 rw[e8,ak (n:=((cn s (2*j):Nat):Int)*2^8)];by_cases hc:2*j+1<s.length;obtain⟨y,hy,ey⟩:=nI (s:=s) (i:=2*j+1) hc;rw[jP,ah,show((2*j:Nat):Int)+1=((2*j+1:Nat):Int) by omega,hy,ab,ey,jU (n:=cn s (2*j+1)),ak,Pk,ab,en,show((cn s (2*j):Nat):Int)*2^8+((cn s (2*j+1):Nat):Int)=((cn s (2*j)*256+cn s (2*j+1):Nat):Int) by omega];rfl;have hz:=Jm (s:=s) (i:=2*j+1);rw[cL,af,Pk,ab,en,show((cn s (2*j):Nat):Int)*2^8=((cn s (2*j)*256+cn s (2*j+1):Nat):Int) by rw[hz];omega];rfl;simp only[uG];rw[cL];rfl
theorem anJ (s:Bytes)(h:s.length<=10^9):zU s=some (sw s ((s.length+1)/2)):=by
 unfold zU;refine dG (λj=>(sw s j,((2*j:Nat):Int))) ((s.length+1)/2) (by omega) (λj nx hj=>?_) (λnx=>?_);have b0:=fg s (2*j);have b1:=fg s (2*j+1);obtain⟨x,hx,ex⟩:=nI (s:=s) (i:=2*j);simp only[ui];rw[jP,ah,hx,ab,lI,ak (n:=((2*j:Nat):Int)+1),ak (n:=((2*j:Nat):Int)+2),ex,jU];have e8:rX 8=8:=rfl;have en:((2*j:Nat):Int)+2=((2*(j+1):Nat):Int):=by omega
 rw[e8,show((cn s (2*j):Nat):Int)*2^8=((2^8*cn s (2*j):Nat):Int) by omega,jU (n:=2^8*cn s (2*j))];by_cases hc:2*j+1<s.length;obtain⟨y,hy,ey⟩:=nI (s:=s) (i:=2*j+1) hc;rw[jP,ah,show((2*j:Nat):Int)+1=((2*j+1:Nat):Int) by omega,hy,ab,ey,jU (n:=cn s (2*j+1)),JN (cn s (2*j)) 8 (cn s (2*j+1)),Zu,ab,en,show 2^8*cn s (2*j)+cn s (2*j+1)=cn s (2*j)*256+cn s (2*j+1) by omega];rfl;have hz:=Jm (s:=s) (i:=2*j+1);rw[cL,af,Zu,ab,en,show((2^8*cn s (2*j):Nat):Int)=((cn s (2*j)*256+cn s (2*j+1):Nat):Int) by rw[hz];omega];rfl;simp only[ui];rw[cL];rfl
def TN (s:Bytes):Int:=65535-sw s ((s.length+1)/2)
theorem XD (s:Bytes)(h:s.length<=10^9):rK s=some (TN s):=by have:=aml s ((s.length+1)/2);simp only[rK,aol s h,ab];rw[ak];rfl
theorem Pe (s:Bytes)(h:s.length<=10^9):kB s=some (TN s):=by have:=aml s ((s.length+1)/2);simp only[kB,anJ s h,ab];rw[ak];rfl
def yX (s:Bytes)(a:Int)(p:Bytes):Bytes:=bif fT s a (p.length:Int) then(s.take a.toNat++p)++s.drop (a.toNat+p.length) else s
theorem CU (s:Bytes)(a:Int)(p:Bytes):(yX s a p).length=s.length:=by unfold yX;cases hw:fT s a (p.length:Int)with|false=>rfl|true=>simp only[fT,aJ]at hw;simp only[ah,ai,aV,aM];omega
theorem aaL (s:Bytes)(a:Int)(p:Bytes)(h:s.length<=10^9)(hw:fT s a (p.length:Int)=true): (aa (sub s 0 a) λx2=>room (List.length x2+List.length p) (aa (sub s (ar (a+((List.length p:Int)))) ((List.length s:Int))) λx3=>room (List.length (x2++p)+List.length x3) (some ((x2++p)++x3))))=some (yX s a p):=by
 have hw':=hw;simp only[fT,aJ]at hw';obtain⟨n,rfl⟩:=aD hw'.1;have e1:sub s 0 (n:Int)=some (s.take n):=by unfold sub;rw[zip];rfl
 have e2:sub s (((n+p.length:Nat):Int)) (s.length:Int)=some (s.drop (n+p.length)):=by unfold sub;rw[zip,au,au,cO]
 rw[e1,ak,show(n:Int)+(p.length:Int)=((n+p.length:Nat):Int) by omega,e2,ab,aX (by simp only[aV];omega),ab,aX (by simp only[ai,aV,aM];omega)];unfold yX;rw[hw];rfl
theorem Pm (s:Bytes)(a:Int)(p:Bytes)(h:s.length<=10^9:=by omega):kF s a p=some (yX s a p):=by unfold kF;rw[Hs s a _ h,ab];cases hw:fT s a (p.length:Int)with|false=>simp only[bE,ah,yX,hw,af]|true=>exact aaL s a p h hw
theorem Fk (s:Bytes)(a:Int)(p:Bytes)(h:s.length<=10^9:=by omega)(hp:p.length<=10^9:=by omega):gS s a p=some (yX s a p):=by
 unfold gS;rw[ak (n:=(s.length:Int)-(p.length:Int))];cases hw:fT s a (p.length:Int)with
 |true=>have hw':=hw;simp only[fT,aJ]at hw';rw[aq (show¬a<0 by omega),aq (show¬a>(s.length:Int)-(p.length:Int) by omega)];exact aaL s a p h hw
 |false=>
  have hp:yX s a p=s:=by unfold yX;rw[hw];rfl
  rw[hp];simp only[fT,df]at hw;by_cases h0:a<0;rw[ax h0];rfl;rw[aq h0,ax (show a>(s.length:Int)-(p.length:Int) by omega)];rfl
def bs2 (x y:Int):Bytes:=aQ [x,y]
theorem VS (x y:Int):(bs2 x y).length=2:=rfl
def BI (a b k n:Int):Bool:=di a 0 4294967295&&(di b 0 4294967295&&(di k 0 255&&di n 0 65535))
def yW (a b k n:Int):Bytes:=((gz a++gz b)++bs2 0 (hY k))++cy n
theorem MZ (a b k n:Int):(yW a b k n).length<=12:=by have:=dU a;have:=dU b;have:=bT n;simp only[yW,ai,VS];omega
theorem JR (a b k n:Int):nZ a b k n=some (bif BI a b k n then(yW a b k n,true) else([],false)):=by have:=dU a;have:=dU b;have:=bT n;unfold nZ BI;simp only[dV,ab,oq,qH];cases di a 0 4294967295;rfl;cases di b 0 4294967295;rfl;cases di k 0 255;rfl;cases di n 0 65535;rfl;simp only[aj,af,cq,ah,ab];have e:(aQ [0,hY k]).length=2:=rfl;rw[aX,aX (by simp only[ai,e];omega),aX (by simp only[ai,e];omega)];rfl
theorem Q3 (a b k n:Int):sq a b k n=some (bif BI a b k n then(yW a b k n,true) else([],false)):=JR a b k n
def bare (g:gF):Bytes:=bif g.1==6 then
    (((((cy g.2.1++cy g.2.2.1)++gz g.2.2.2.1)++gz g.2.2.2.2.1)++bs2 80 (hY g.2.2.2.2.2.1))++cy g.2.2.2.2.2.2.1)++gz 0++g.2.2.2.2.2.2.2
 else(((cy g.2.1++cy g.2.2.1)++cy (8+(g.2.2.2.2.2.2.2.length:Int)))++cy 0)++g.2.2.2.2.2.2.2
theorem VP (g:gF):(bare g).length<=20+g.2.2.2.2.2.2.2.length:=by have:=bT g.2.1;have:=bT g.2.2.1;have:=dU g.2.2.2.1;have:=dU g.2.2.2.2.1;have:=bT g.2.2.2.2.2.2.1;have:=dU 0;have:=bT 0;have:=bT (8+(g.2.2.2.2.2.2.2.length:Int));unfold bare;cases g.1==6<;>simp only[ah,af,ai,VS]<;>omega
theorem ai5:cy 0++cy 0=gz 0:=by rfl
theorem akV (g:gF)(h:g.2.2.2.2.2.2.2.length<=1000000):uu g=some (bare g):=by have:=bT g.2.1;have:=bT g.2.2.1;have:=dU g.2.2.2.1;have:=dU g.2.2.2.2.1;have:=bT g.2.2.2.2.2.2.1;have:=bT 0;have:=bT (8+(g.2.2.2.2.2.2.2.length:Int));have e:∀x,(aQ [80,hY x]).length=2:=λ_=>rfl;unfold uu bare;rw[ak (n:=8+(g.2.2.2.2.2.2.2.length:Int))];simp only[mF,wJ,ab];rw[aX];cases g.1==6 with|true=>simp only[ah];rw[aX (by simp only[ai,e];omega),aX (by simp only[ai,e];omega),aX (by simp only[ai,e];omega),aX (by simp only[ai,e];omega),aX (by simp only[ai,e];omega),aX (by simp only[ai,e];omega),aX (by simp only[ai,e];omega)];rw[<-ai5];simp only[bs2,aR]|false=>simp only[af];rw[aX (by simp only[ai];omega),aX (by simp only[ai];omega),aX (by simp only[ai];omega)]
def afZ (a b:Int)(g:gF):Int:=bif (TN (yW a b g.1 ((bare g).length:Int)++bare g)==0)&&(g.1==17) then 65535 else TN (yW a b g.1 ((bare g).length:Int)++bare g)
def afN (a b:Int)(g:gF):Bytes:=yX (bare g) (bif g.1==6 then 16 else 6) (cy (afZ a b g))
def R0 (a b:Int)(g:gF):Bool:=vG g&&BI a b g.1 ((bare g).length:Int)
def Ho (a b:Int)(g:gF):Bytes×Bool:=bif R0 a b g then(afN a b g,true) else([],false)
theorem Hn {g:gF}(h:vG g=true):g.2.2.2.2.2.2.2.length<=320:=by simp only[vG,ae,aO,df]at h;omega
theorem abb (a b:Int)(g:gF):sE a b g=some (Ho a b g):=by
 unfold sE Ho R0;rw[afU,ab];cases hg:vG g;rfl;have hb:=Hn hg;have hl:=VP g;have hp:=MZ a b g.1 ((bare g).length:Int);have:=bT g.2.1;have:=bT g.2.2.1;have:=dU g.2.2.2.1;have:=dU g.2.2.2.2.1;have:=bT g.2.2.2.2.2.2.1;have:=dU 0;have:=bT 0;have:=bT (8+(g.2.2.2.2.2.2.2.length:Int));have e:∀x,(aQ [80,hY x]).length=2:=λ_=>rfl;rw[ak (n:=8+(g.2.2.2.2.2.2.2.length:Int))];simp only[qH,oq,ab,aj,af,bt];rw[aX];cases h6:g.1==6 with
 |true=>
  have akB:bare g=(((((cy g.2.1++cy g.2.2.1)++gz g.2.2.2.1)++gz g.2.2.2.2.1)++aQ [80,hY g.2.2.2.2.2.1])++cy g.2.2.2.2.2.2.1)++gz 0++g.2.2.2.2.2.2.2:=by unfold bare;rw[h6];rfl
  simp only[ah];rw[aX (by simp only[ai,e];omega),aX (by simp only[ai,e];omega),aX (by simp only[ai,e];omega),aX (by simp only[ai,e];omega),aX (by simp only[ai,e];omega),aX (by simp only[ai,e];omega),<-akB,JR,ab];cases BI a b g.1 ((bare g).length:Int);rfl;simp only[ah,aj,af];rw[aX,XD _ (by simp only[ai];omega)];simp only[ab,bQ,Pm _ _ _ (show(bare g).length<=10^9 by omega),afN,afZ,h6,ah,cF];cases (TN (yW a b g.1 ((bare g).length:Int)++bare g)==0)&&(g.1==17)<;>rfl
 |false=>
  have akB:bare g=(((cy g.2.1++cy g.2.2.1)++cy (8+(g.2.2.2.2.2.2.2.length:Int)))++cy 0)++g.2.2.2.2.2.2.2:=by unfold bare;rw[h6];rfl
  simp only[af];rw[aX (by simp only[ai];omega),aX (by simp only[ai];omega),aX (by simp only[ai];omega),<-akB,JR,ab];cases BI a b g.1 ((bare g).length:Int);rfl;simp only[ah,aj,af];rw[aX,XD _ (by simp only[ai];omega)];simp only[ab,bQ,Pm _ _ _ (show(bare g).length<=10^9 by omega),afN,afZ,h6,af,cF];cases (TN (yW a b g.1 ((bare g).length:Int)++bare g)==0)&&(g.1==17)<;>rfl
theorem GY (a b:Int)(g:gF):kV a b g=some (Ho a b g):=by
 unfold kV Ho R0;rw[afr,ab];cases hg:vG g;rfl;have hb:=Hn hg;have hl:=VP g;have hp:=MZ a b g.1 ((bare g).length:Int);have Mn:gE g.1=some (bif g.1==6 then 16 else 6):=by unfold gE;rw[bQ]
 have w1:=bT 65535;have w2:=bT (TN (yW a b g.1 ((bare g).length:Int)++bare g));simp only[akV g (by omega),Q3,ab,aj,af,bt];cases BI a b g.1 ((bare g).length:Int);rfl;simp only[ah,aj,af];rw[aX,Pe _ (by simp only[ai];omega)];simp only[ab,bQ,Mn,mF,Fk _ _ _ (show(bare g).length<=10^9 by omega) (show(cy 65535).length<=10^9 by omega),Fk _ _ _ (show(bare g).length<=10^9 by omega) (show(cy (TN (yW a b g.1 ((bare g).length:Int)++bare g))).length<=10^9 by omega),afN,afZ,cF];rw[Bool.and_comm];cases (TN (yW a b g.1 ((bare g).length:Int)++bare g)==0)&&(g.1==17)<;>rfl
theorem aod (a b:Int)(g:gF):(Ho a b g).1.length<=340:=by unfold Ho;cases h:R0 a b g with|false=>exact cd _|true=>simp only[R0,ae]at h;have:=Hn h.1;have:=VP g;show(yX _ _ _).length<=340;rw[CU];omega
def ipB (d:Ip):Bool:=di d.1 0 255&&(di d.2.2.1 0 255&&(di d.2.2.2.1 0 255&&(di d.2.1 0 65535&&(di d.2.2.2.2.1 0 4294967295&&(di d.2.2.2.2.2.1 0 4294967295&&decide ((d.2.2.2.2.2.2.length:Int)<=380))))))
theorem aa5 (d:Ip):Ih d=some (ipB d):=by simp only[Ih,dV,ab,bQ,cF,ipB]
theorem ak3 (d:Ip):Mx d=some (ipB d):=aa5 d
def Ra (d:Ip):Bytes:=((((((bs2 69 (hY d.1)++cy (20+(d.2.2.2.2.2.2.length:Int)))++cy d.2.1)++cy 16384)++bs2 (hY d.2.2.1) (hY d.2.2.2.1))++cy 0)++gz d.2.2.2.2.1)++gz d.2.2.2.2.2.1
theorem Rb (d:Ip):(Ra d).length<=20:=by have:=bT (20+(d.2.2.2.2.2.2.length:Int));have:=bT d.2.1;have:=bT 16384;have:=bT 0;have:=dU d.2.2.2.2.1;have:=dU d.2.2.2.2.2.1;simp only[Ra,ai,VS];omega
def Q9 (d:Ip):Bytes:=yX (Ra d) 10 (cy (TN (Ra d)))
theorem aep (d:Ip):Ad d=some (bif ipB d then(Q9 d,true) else([],false)):=by
 unfold Ad;rw[aa5,ab];cases hd:ipB d;rfl;have hn:(d.2.2.2.2.2.2.length:Int)<=380:=by simp only[ipB,ae,aJ]at hd;omega
 have:=bT (20+(d.2.2.2.2.2.2.length:Int));have:=bT d.2.1;have:=bT 16384;have:=bT 0;have:=dU d.2.2.2.2.1;have:=dU d.2.2.2.2.2.1;have hl:=Rb d;have e:∀x y,(aQ [x,y]).length=2:=λ_ _=>rfl;rw[ak (n:=20+(d.2.2.2.2.2.2.length:Int))];simp only[qH,oq,ab,aj,af,ah];rw[aX (by simp only[ai,e];omega),aX (by simp only[ai,e];omega),aX (by simp only[ai,e];omega),aX (by simp only[ai,e];omega),aX (by simp only[ai,e];omega),aX (by simp only[ai,e];omega),aX (by simp only[ai,e];omega)];have hp:((((((aQ [69,hY d.1]++cy (20+(d.2.2.2.2.2.2.length:Int)))++cy d.2.1)++cy 16384)++aQ [hY d.2.2.1,hY d.2.2.2.1])++cy 0)++gz d.2.2.2.2.1)++gz d.2.2.2.2.2.1=Ra d:=rfl;rw[hp,XD _ (by omega),ab,Pm _ _ _];rfl
theorem adi (d:Ip):zP d=some (bif ipB d then(Q9 d,true) else([],false)):=by
 unfold zP;rw[ak3,ab];cases hd:ipB d;rfl;have hn:(d.2.2.2.2.2.2.length:Int)<=380:=by simp only[ipB,ae,aJ]at hd;omega
 have:=bT (20+(d.2.2.2.2.2.2.length:Int));have:=bT d.2.1;have:=bT 16384;have:=bT 0;have:=dU d.2.2.2.2.1;have:=dU d.2.2.2.2.2.1;have hl:=Rb d;have hw:=bT (TN (Ra d));have e:∀x y,(aQ [x,y]).length=2:=λ_ _=>rfl;rw[ak (n:=20+(d.2.2.2.2.2.2.length:Int))];simp only[mF,wJ,ab,aj,af,ah];rw[aX (by simp only[ai,e];omega),aX (by simp only[ai,e];omega),aX (by simp only[ai,e];omega),aX (by simp only[ai,e];omega),aX (by simp only[ai,e];omega),aX (by simp only[ai,e];omega),aX (by simp only[ai,e];omega)];have hp:((((((aQ [69,hY d.1]++cy (20+(d.2.2.2.2.2.2.length:Int)))++cy d.2.1)++cy 16384)++aQ [hY d.2.2.1,hY d.2.2.2.1])++cy 0)++gz d.2.2.2.2.1)++gz d.2.2.2.2.2.1=Ra d:=rfl;rw[hp,Pe _ (by omega),ab,Fk _ _ _];rfl
def ipR (d:Ip):Bytes×Bool:=bif ipB d then(Q9 d++d.2.2.2.2.2.2,true) else([],false)
theorem MA (d:Ip):(Q9 d).length<=20:=by unfold Q9;rw[CU];exact Rb d
theorem arq (d:Ip):BJ d=some (ipR d):=by
 unfold BJ ipR;rw[aep,ab];cases hd:ipB d;rfl;have hn:(d.2.2.2.2.2.2.length:Int)<=380:=by simp only[ipB,ae,aJ]at hd;omega
 have:=MA d;simp only[ah,aj,af];rw[aX]
theorem ak2 (d:Ip):xD d=some (ipR d):=by
 unfold xD ipR;rw[adi,ab];cases hd:ipB d;rfl;have hn:(d.2.2.2.2.2.2.length:Int)<=380:=by simp only[ipB,ae,aJ]at hd;omega
 have:=MA d;simp only[ah,aj,af];rw[aX]
def sK (n:Nat):Bytes:=aQ (List.replicate n (0:Int))
theorem xi (n:Nat):(sK n).length=n:=by simp[sK,aQ]
theorem R6 (n:Nat)(h:n<=10^9:=by omega):gY (n:Int) 0=some (sK n):=by unfold gY;rw[zip,aX (by rw[au];omega),au];refine dG (λi=>(List.replicate n (0:Int),(i:Int))) n (by omega) (λi nx hi=>?_) (λnx=>?_);simp only[rk];rw[jP,bB (by simpa using hi),ak];simp only[ah,ab,au,List.set_replicate_self];rfl;simp only[rk];rw[cL];rfl
theorem afq (n:Nat)(h:n<=10^9:=by omega):qh 0 (n:Int)=some (sK n):=by unfold qh;rw[zip,aX (by rw[au];omega),au];refine dG (λi=>(List.replicate n (0:Int),(i:Int))) n (by omega) (λi nx hi=>?_) (λnx=>?_);simp only[yb];rw[ax (by simp;omega),bB (by simpa using hi),ak];simp only[ah,ab,au,List.set_replicate_self];rfl;simp only[yb];rw[aq (by simp)];rfl
def pad (s:Bytes):Bytes:=if s.length<46 then s++sK (46-s.length) else s
theorem Xl (s:Bytes):(pad s).length=max 46 s.length:=by unfold pad;split;simp only[ai,xi];omega;omega
theorem aok (s:Bytes)(h:s.length<=10^9):BM s=some (pad s):=by unfold BM pad;by_cases hc:s.length<46;rw[jP,aH hc,ak,show(46:Int)-(s.length:Int)=((46-s.length:Nat):Int) by omega,R6 _];simp only[ah,ab];rw[aX (by rw[xi];omega)];rw[cL,aG hc];rfl
theorem anH (s:Bytes)(h:s.length<=10^9):BB s=some (pad s):=by unfold BB pad;by_cases hc:s.length<46;rw[cL,aH hc,ak,show(46:Int)-(s.length:Int)=((46-s.length:Nat):Int) by omega,afq _];simp only[af,ab];rw[aX (by rw[xi];omega)];rw[jP,aG hc];rfl
def vi (e:VG):Bool:=di e.1 0 281474976710655&&(di e.2.1 0 281474976710655&&(di e.2.2.1 (-1) 4095&&(di e.2.2.2.1 1536 65535&&((e.2.2.2.1 !=33024)&&di (e.2.2.2.2.length:Int) 46 400))))
theorem Vd (e:VG):FC e=some (vi e):=by simp only[FC,dV,ab,bQ,cF,vi]
theorem Ur (e:VG):CK e=some (vi e):=Vd e
def mac (a:Int):Bytes:=(jO a).getD []
theorem DQ (a:Int):jO a=some (mac a)/\(mac a).length<=6:=by
 have h:∃x,jO a=some x/\x.length<=6:=by unfold jO;rw[lI];simp only[qH,oq,ab];have h1:=bT (fdiv a (2^(rX 32)));have h2:=dU (ar (toNat (iR a&&&iR 4294967295)));rw[aX];exact⟨_,rfl,by simp only[ai];omega⟩
 obtain⟨x,hx,hl⟩:=h;unfold mac;rw[hx];exact⟨rfl,hl⟩
theorem anG (a:Int):zV a=some (mac a):=(DQ a).1
def TZ (e:VG):Bytes:=(bif decide (e.2.2.1>=0) then(((mac e.1++mac e.2.1)++cy 33024)++cy e.2.2.1) else mac e.1++mac e.2.1)++cy e.2.2.2.1++e.2.2.2.2
theorem akh (e:VG):(TZ e).length<=18+e.2.2.2.2.length:=by have:=(DQ e.1).2;have:=(DQ e.2.1).2;have:=bT 33024;have:=bT e.2.2.1;have:=bT e.2.2.2.1;unfold TZ;cases decide (e.2.2.1>=0)<;>simp only[ah,af,ai]<;>omega
def Yx (e:VG):Bytes×Bool:=bif vi e then(TZ e,true) else([],false)
theorem aoi (e:VG):zZ e=some (Yx e):=by
 unfold zZ Yx;rw[Vd,ab];cases he:vi e;rfl;have hn:(e.2.2.2.2.length:Int)<=400:=by simp only[vi,ae,aU]at he;omega
 have:=(DQ e.1).2;have:=(DQ e.2.1).2;have:=bT 33024;have:=bT e.2.2.1;have:=bT e.2.2.2.1;simp only[(DQ _).1,qH,ab,aj,af,ah,TZ];rw[aX];cases decide (e.2.2.1>=0)with|true=>simp only[ah];rw[aX (by simp only[ai];omega),aX (by simp only[ai];omega),aX (by simp only[ai];omega),aX (by simp only[ai];omega)]|false=>simp only[af];rw[aX (by simp only[ai];omega),aX (by simp only[ai];omega)]
theorem anF (e:VG):zF e=some (Yx e):=by
 unfold zF Yx;rw[Ur,ab];cases he:vi e;rfl;have hn:(e.2.2.2.2.length:Int)<=400:=by simp only[vi,ae,aU]at he;omega
 have:=(DQ e.1).2;have:=(DQ e.2.1).2;have:=bT 33024;have:=bT e.2.2.1;have:=bT e.2.2.2.1;simp only[anG,mF,ab,aj,af,ah,TZ];rw[aX];cases decide (e.2.2.1>=0)with|true=>simp only[ah];rw[aX,aX (by simp only[ai];omega),aX (by simp only[ai];omega),aX (by simp only[ai];omega)];simp only[aR]|false=>simp only[af];rw[aX (by simp only[ai];omega),aX (by simp only[ai];omega)]
def aoc (p:aN):Bytes×Bool:=Ho p.2.2.2.2.2.2.1 p.2.2.2.2.2.2.2.1 p.2.2.2.2.2.2.2.2
def ipP (p:aN):Bytes×Bool:=ipR (p.2.2.2.1,p.2.2.2.2.1,p.2.2.2.2.2.1,p.2.2.2.2.2.2.2.2.1,p.2.2.2.2.2.2.1,p.2.2.2.2.2.2.2.1,(aoc p).1)
def anp (p:aN):Bytes×Bool:=Yx (p.1,p.2.1,p.2.2.1,2048,pad (ipP p).1)
def dE (p:aN):Bytes×Bool:=bif dS p then anp p else([],false)
theorem W6 (p:aN):(ipP p).1.length<=360:=by have h1:=aod p.2.2.2.2.2.2.1 p.2.2.2.2.2.2.2.1 p.2.2.2.2.2.2.2.2;unfold ipP ipR;cases ipB (p.2.2.2.1,p.2.2.2.2.1,p.2.2.2.2.2.1,p.2.2.2.2.2.2.2.2.1,p.2.2.2.2.2.2.1,p.2.2.2.2.2.2.2.1,(aoc p).1)with|false=>exact cd _|true=>have h2:=MA (p.2.2.2.1,p.2.2.2.2.1,p.2.2.2.2.2.1,p.2.2.2.2.2.2.2.2.1,p.2.2.2.2.2.2.1,p.2.2.2.2.2.2.2.1,(aoc p).1);have h3:(aoc p).1.length<=340:=h1;simp only[ah,ai];omega
theorem aiK (p:aN):wj p=some (dE p):=by have hl:=W6 p;unfold wj dE;simp only[Vi,abb,arq,ab];rw[show(ipR (p.2.2.2.1,p.2.2.2.2.1,p.2.2.2.2.2.1,p.2.2.2.2.2.2.2.2.1,p.2.2.2.2.2.2.1,p.2.2.2.2.2.2.2.1,(Ho p.2.2.2.2.2.2.1 p.2.2.2.2.2.2.2.1 p.2.2.2.2.2.2.2.2).1))=ipP p from rfl,aok _ (by omega),ab,aoi];cases dS p<;>rfl
theorem EC (p:aN):iD p=some (dE p):=by have hl:=W6 p;unfold iD dE;simp only[nn,GY,ak2,ab];rw[show(ipR (p.2.2.2.1,p.2.2.2.2.1,p.2.2.2.2.2.1,p.2.2.2.2.2.2.2.2.1,p.2.2.2.2.2.2.1,p.2.2.2.2.2.2.2.1,(Ho p.2.2.2.2.2.2.1 p.2.2.2.2.2.2.2.1 p.2.2.2.2.2.2.2.2).1))=ipP p from rfl,anH _ (by omega),ab,anF];cases dS p<;>rfl
theorem H3 (h:dS p=true):(dE p).2=true:=by
 have hl:=W6 p;have hh:sa p=true:=by simp only[dS,ae]at h;exact h.1
 have hp:=Xl (ipP p).1;unfold dE anp Yx;rw[h,ah];have:vi (p.1,p.2.1,p.2.2.1,2048,pad (ipP p).1)=true:=by simp only[sa,ae]at hh;simp only[vi,ae];refine⟨hh.1,hh.2.1,hh.2.2.1,by decide,by decide,aU.2 ?_⟩;omega
 rw[this];rfl
theorem yQ (p:aN):(dE p).1.length<=378:=by have hl:=W6 p;have hp:=Xl (ipP p).1;unfold dE anp Yx;cases dS p with|false=>exact cd _|true=>cases vi (p.1,p.2.1,p.2.2.1,2048,pad (ipP p).1)with|false=>exact cd _|true=>have:=akh (p.1,p.2.1,p.2.2.1,2048,pad (ipP p).1);simp only[ah]at this⊢;omega
def fcs (c:Int):Bytes:=aQ [hY c,hY (fdiv c (2^(rX 8))),hY (fdiv c (2^(rX 16))),hY (fdiv c (2^(rX 24)))]
def FQ (s:Bytes):Bytes:=s++fcs (Nr s)
theorem anr (c:Int):(fcs c).length=4:=rfl
theorem aoj (s:Bytes)(h:s.length<=10^9):BR s=some (FQ s):=by unfold BR;rw[afS s h,ab,lI,lI,lI];exact aX (by show s.length+4<=_;omega)
theorem afp (s:Bytes)(h:s.length<=10^9):xV s=some (FQ s):=by unfold xV;rw[afo s h,ab,lI,lI,lI];exact aX (by show s.length+4<=_;omega)
def eY (p:aN):Bool:=dS p&&decide ((p.2.2.2.2.2.2.2.2.2.2.2.2.2.2.2.length:Int)<=128)
theorem aeq (p:aN):Ae p=some (eY p):=by simp only[Ae,Vi,ab,bQ,cF,eY]
theorem yT (p:aN):kC p=some (eY p):=by simp only[kC,nn,ab,bQ,cF,eY]
def xw (p:aN):Bytes×Bool:=bif eY p then(FQ (dE p).1,true) else([],false)
theorem aiI (p:aN):wi p=some (xw p):=by have hl:=yQ p;simp only[wi,aeq,aiK,aoj _ (show(dE p).1.length<=10^9 by omega),ab,xw];cases eY p<;>rfl
theorem Us (p:aN):qU p=some (xw p):=by
 have hl:=yQ p;simp only[qU,yT,EC,afp _ (show(dE p).1.length<=10^9 by omega),ab,xw];cases hp:eY p with
 |false=>rfl
 |true=>
  have:dS p=true:=by simp only[eY,ae]at hp;exact hp.1
  rw[H3 this];rfl
theorem HS (p:aN):(xw p).1.length<=382:=by have hl:=yQ p;unfold xw;cases eY p with|false=>exact cd _|true=>simp only[ah,FQ,ai,anr];omega
def ad1 (p:aN)(z:Int)(k:Nat):aN:=
 (p.1,p.2.1,p.2.2.1,p.2.2.2.1,tmod (ar (p.2.2.2.2.1+(k:Int))) 65536,p.2.2.2.2.2.1,p.2.2.2.2.2.2.1,p.2.2.2.2.2.2.2.1,p.2.2.2.2.2.2.2.2.1,p.2.2.2.2.2.2.2.2.2.1,p.2.2.2.2.2.2.2.2.2.2.1,
   tmod (ar (p.2.2.2.2.2.2.2.2.2.2.2.1+((k:Int)*z))) 4294967296,p.2.2.2.2.2.2.2.2.2.2.2.2.1,
   (bif decide (((k:Int)+1)*z<(p.2.2.2.2.2.2.2.2.2.2.2.2.2.2.2.length:Int)) then ar (toNat (iR p.2.2.2.2.2.2.2.2.2.2.2.2.2.1&&&~~~ iR 9)) else p.2.2.2.2.2.2.2.2.2.2.2.2.2.1),
   p.2.2.2.2.2.2.2.2.2.2.2.2.2.2.1,(p.2.2.2.2.2.2.2.2.2.2.2.2.2.2.2.take (min ((k+1)*z.toNat) p.2.2.2.2.2.2.2.2.2.2.2.2.2.2.2.length)).drop (k*z.toNat))
def wh (n z:Nat):Nat:=(n+z-1)/z
def JU (p:aN)(z:Int):aw aN:=bif dS p&&di z 1 128 then
    (bif (p.2.2.2.2.2.2.2.2.1 !=6)||decide ((p.2.2.2.2.2.2.2.2.2.2.2.2.2.2.2.length:Int)<=z) then [p] else(range (wh p.2.2.2.2.2.2.2.2.2.2.2.2.2.2.2.length z.toNat)).map (ad1 p z)) else []
theorem UY {z k:Nat}(hz:0<z:=by omega):k<wh n z↔k*z<n:=by unfold wh;rw[Nat.lt_div_iff_mul_lt hz];omega
theorem FJ (h:dS p=true):p.2.2.2.2.2.2.2.2.2.2.2.2.2.2.2.length<=320:=by
 have hh:sa p=true:=by simp only[dS,ae]at h;exact h.1
 exact Hn (CD hh)
theorem aiQ {k z:Nat}(hk:k*z<b.length)(hb:b.length<=320):sub b ((k*z:Nat):Int) ((min ((k+1)*z) b.length:Nat):Int)=some ((b.take (min ((k+1)*z) b.length)).drop (k*z)):=by have:k*z<=(k+1)*z:=de _ (by omega);unfold sub;rw[zip,au,au]
theorem ahr (p:aN)(z:Int):Fm p z=some (JU p z):=by
 unfold Fm JU;simp only[nn,cx,ab];cases hs:dS p;rfl;cases hz:di z 1 128;rfl;have hz':=aU.1 hz;have hb:=FJ hs;simp only[aj,af,cq,ah,ab,bQ,cT];cases hq:(p.2.2.2.2.2.2.2.2.1 !=6)||decide ((p.2.2.2.2.2.2.2.2.2.2.2.2.2.2.2.length:Int)<=z)with
 |true=>rfl
 |false=>
  simp only[af];obtain⟨m,rfl⟩:=aD (show 0<=z by omega);have hN:∀k,k<wh p.2.2.2.2.2.2.2.2.2.2.2.2.2.2.2.length m↔k*m<p.2.2.2.2.2.2.2.2.2.2.2.2.2.2.2.length:=λk=>UY;have KA:wh p.2.2.2.2.2.2.2.2.2.2.2.2.2.2.2.length m<=320:=by rcases cg 320 (wh p.2.2.2.2.2.2.2.2.2.2.2.2.2.2.2.length m)with h|h;have:=(hN 320).1 h;have:320*1<=320*m:=Nat.mul_le_mul_left _ (by omega);omega;exact h
  refine dG (λk=>((range k).map (ad1 p (m:Int)),(k:Int))) (wh p.2.2.2.2.2.2.2.2.2.2.2.2.2.2.2.length m) (by omega) (λk nx hk=>?_) (λnx=>?_);have hkm:=(hN k).1 hk;have hk1:(k+1)*m=k*m+m:=by rw[dk,gx]
  have e1:(k:Int)*(m:Int)=((k*m:Nat):Int):=by push_cast;rfl
  have e2:((k:Int)+1)*(m:Int)=(((k+1)*m:Nat):Int):=by push_cast;rfl
  have rP:=aiQ hkm hb;simp only[zS];rw[ak (n:=(k:Int)+1),e1,e2,jU (n:=k*m),jU (n:=(k+1)*m),jP,ah];rw[iz,cZ,List.map_singleton];simp only[ad1,e1,e2,au];by_cases hc:(((k+1)*m:Nat):Int)<(p.2.2.2.2.2.2.2.2.2.2.2.2.2.2.2.length:Int);rw[ax hc];rw[show min ((k+1)*m) p.2.2.2.2.2.2.2.2.2.2.2.2.2.2.2.length=(k+1)*m by omega]at rP⊢;simp only[ah];rw[rP,ab,lI,lI,aX (by simp;omega)];rfl;rw[aq hc];rw[show min ((k+1)*m) p.2.2.2.2.2.2.2.2.2.2.2.2.2.2.2.length=p.2.2.2.2.2.2.2.2.2.2.2.2.2.2.2.length by omega]at rP⊢;simp only[af];rw[rP,ab,lI,lI,aX (by simp;omega)];rfl;have hkm:¬wh p.2.2.2.2.2.2.2.2.2.2.2.2.2.2.2.length m*m<p.2.2.2.2.2.2.2.2.2.2.2.2.2.2.2.length:=λh=>absurd ((hN _).2 h) (Nat.lt_irrefl _);have hub:wh p.2.2.2.2.2.2.2.2.2.2.2.2.2.2.2.length m*m<=320*128:=Nat.mul_le_mul KA (by omega);have e1:((wh p.2.2.2.2.2.2.2.2.2.2.2.2.2.2.2.length m:Nat):Int)*(m:Int)=((wh p.2.2.2.2.2.2.2.2.2.2.2.2.2.2.2.length m*m:Nat):Int):=by push_cast;rfl
  simp only[zS];rw[e1,jU,cL];rfl
theorem Se (p:aN)(z:Int):(JU p z).length<=320:=by unfold JU;cases hs:dS p&&di z 1 128;exact cd _;simp only[ae,aU]at hs;have hb:=FJ hs.1;cases (p.2.2.2.2.2.2.2.2.1 !=6)||decide ((p.2.2.2.2.2.2.2.2.2.2.2.2.2.2.2.length:Int)<=z)with|true=>simp only[ah,aY];omega|false=>simp only[ah,af,bF,List.length_range];rcases cg 320 (wh p.2.2.2.2.2.2.2.2.2.2.2.2.2.2.2.length z.toNat)with h|h;have:=(UY).1 h;have:320*1<=320*z.toNat:=Nat.mul_le_mul_left _ (by omega);omega;exact h
def VK (acc:bO)(p:aN):bO:=bif (xw p).2 then acc++[(xw p).1] else acc
theorem X2 (acc:bO)(p:aN):(VK acc p).length<=acc.length+1:=by unfold VK;cases (xw p).2<;>simp
def Pa (l:aw aN):bO:=l.foldl VK []
theorem Nz:∀(l:aw aN)(acc:bO),(l.foldl VK acc).length<=acc.length+l.length
 |[],acc=>by simp
 |p::l,acc=>by have:=Nz l (VK acc p);have:=X2 acc p;simp only[dY,aP];omega
theorem IB:∀(l:aw aN)(acc:bO),(∀x∈acc,x.length<=382)->∀x∈l.foldl VK acc,x.length<=382
 |[],acc,h=>h
 |p::l,acc,h=>by rw[dY];refine IB l _ (λx hx=>?_);unfold VK at hx;cases hf:(xw p).2 with|false=>rw[hf]at hx;exact h x hx|true=>rw[hf]at hx;simp only[ah,aA,br]at hx;rcases hx with hx|hx;exact h x hx;rw[hx];exact HS p
theorem adb (l:aw aN)(h:l.length<=10^9):zM l=some (Pa l):=by
 unfold zM Pa;have:=vF (T:=pk (λ(y3:bO) (_:Int)=>some y3) l (l.length:Int)) l (λ(s:bO) i=>(s,(i:Int))) (λi s=>s.length<=i) (λp s=> .ok (VK s p)) (λs=>some s) (by omega) (λi hi s nx hI=>?hs) (λi hi s s' hI hg=>?hn) (λs nx hI=>?hf) [] (by simp)
 case hs=>
  simp only[pk]
  rw[jP,bB hi,ak (n:=(i:Int)+1)]
  simp only[ah,ab,Us,VK]
  rw[aX (by simp;omega)]
  cases (xw l[i]).2<;>rfl
 case hn=>cases hg;have:=X2 s l[i];omega
 case hf=>
  simp only[pk]
  rw[cL];rfl
 rw[Ic]at this;exact this
def aaZ (p:aN)(z:Int):bO:=Pa (JU p z)
theorem ala (p:aN)(z:Int):vX p z=some (aaZ p z):=by have:=Se p z;simp only[vX,ahr,adb _ (show(JU p z).length<=10^9 by omega),ab];rfl
theorem aiC (p:aN)(z:Int):(aaZ p z).length<=320/\∀x∈aaZ p z,x.length<=382:=by have:=Se p z;have:=Nz (JU p z) [];exact⟨by unfold aaZ Pa;simp only[dZ]at this;omega,IB _ [] (by simp)⟩
theorem Qu {a:Int}(h0:0<=a:=by omega)(h:a+2<=(s.length:Int):=by omega):0<=dA s a/\dA s a<=65535:=by have h1:=fg s a.toNat;have h2:=fg s (a.toNat+1);unfold dA fT;rw[ax ⟨h0,h⟩];simp only[ah];omega
theorem Kv {a:Int}(h0:0<=a:=by omega)(h:a+4<=(s.length:Int):=by omega):0<=fj s a/\fj s a<=4294967295:=by have h1:=fg s a.toNat;have h2:=fg s (a.toNat+1);have h3:=fg s (a.toNat+2);have h4:=fg s (a.toNat+3);unfold fj fT;rw[ax ⟨h0,h⟩];simp only[ah];omega
theorem aln {x y:Int}(hx:0<=x/\x<=65535)(hy:0<=y/\y<=4294967295):ar (toNat (iR (ar (x*2^(rX 32)))|||iR y))=x*4294967296+y:=by have e:(2:Int)^(rX 32)=4294967296:=rfl;obtain⟨x,rfl⟩:=aD hx.1;obtain⟨y,rfl⟩:=aD hy.1;rw[e,ak (n:=(x:Int)*4294967296),show(x:Int)*4294967296=((2^32*x:Nat):Int) by omega,JN x 32 y];omega
theorem FI {l:aw α}{n:Int}(h0:0<=n:=by omega)(h1:n<=(l.length:Int):=by omega):sub l 0 n=some (l.take n.toNat):=by unfold sub;rw[zip];simp
theorem FH {l:aw α}(k:Nat)(h:k<=l.length){a:Int}(ha:a=(k:Int)):sub l a (l.length:Int)=some (l.drop k):=by unfold sub;rw[zip];subst ha;simp
theorem afY {l:aw α}(k:Nat){a n:Int}(ha:a=(k:Int))(h0:a<=n:=by omega)(h1:n<=(l.length:Int):=by omega):sub l a n=some ((l.take n.toNat).drop k):=by unfold sub;rw[zip];subst ha;simp
def AP (s:Bytes):Bytes×Bool:=bif decide ((s.length:Int)<4) then([],false) else bif FQ (s.take ((s.length:Int)-4).toNat)==s then(s.take ((s.length:Int)-4).toNat,true) else([],false)
theorem ac9 (s:Bytes)(h:s.length<=10^9):zH s=some (AP s):=by unfold zH AP;rw[ak (n:=(s.length:Int)-4)];by_cases h4:(s.length:Int)<4;rw[ax (show(s.length:Int)-4<0 by omega),ax h4];rfl;rw[aq (show¬(s.length:Int)-4<0 by omega),aq h4,FI];simp only[af,ab,afp _ (show(s.take ((s.length:Int)-4).toNat).length<=10^9 by rw[aV];omega)];cases FQ (s.take ((s.length:Int)-4).toNat)==s<;>rfl
def akg:VG:=(0,0,0,0,([]:Bytes))
def IY (s:Bytes)(a:Int):Int:=dA s a*4294967296+fj s (a+2)
def Me (s:Bytes):VG:=(IY s 0,IY s 6,dA s 14,dA s 16,s.drop 18)
def Ct (s:Bytes):VG:=(IY s 0,IY s 6, -1,dA s 12,s.drop 14)
def iB (s:Bytes):VG×Bool:=bif decide ((s.length:Int)<18) then(akg,false) else
 bif dA s 12==33024 then(bif vi (Me s) then(Me s,true) else(akg,false)) else bif vi (Ct s) then(Ct s,true) else(akg,false)
theorem KQ (s:Bytes)(h:s.length<=10^9):vu s=some (iB s):=by
 unfold vu iB;by_cases h4:(s.length:Int)<14;rw[ax h4,ax (show(s.length:Int)<18 by omega)];rfl;rw[aq h4];simp only[af,yR s _ h,yS s _ h,ab];rw[lI,lI,FH (l:=s) 14 (by omega) (show(14:Int)=((14:Nat):Int) from rfl),ab];rw[aln (Qu (s:=s) (a:=0)) (Kv (s:=s) (a:=2)),aln (Qu (s:=s) (a:=6)) (Kv (s:=s) (a:=8))];simp only[ab,Ur];rw[show((dA s 0*4294967296+fj s 2,dA s 6*4294967296+fj s 8, -1,dA s 12,s.drop 14):VG)=Ct s from rfl];by_cases h8:(s.length:Int)<18;have hB:vi (Ct s)=false:=by
  unfold vi Ct;have:di ((s.drop 14).length:Int) 46 400=false:=by rw[Bool.eq_false_iff,ne_eq,aU,aM];omega
  simp only[this,eM]
 rw[ax h8,aq (show¬(s.length:Int)>=18 by omega),hB];cases dA s 12==33024<;>rfl;rw[aq h8,ax (show(s.length:Int)>=18 by omega),FH (l:=s) 18 (by omega) (show(18:Int)=((18:Nat):Int) from rfl)];simp only[ab];rw[show((dA s 0*4294967296+fj s 2,dA s 6*4294967296+fj s 8,dA s 14,dA s 16,s.drop 18):VG)=Me s from rfl];cases dA s 12==33024<;>cases vi (Me s)<;>cases vi (Ct s)<;>rfl
def ip0:Ip:=(0,0,0,0,0,0,([]:Bytes))
def JE (s:Bytes):Ip:=((cn s 1:Int),dA s 4,(cn s 8:Int),(cn s 9:Int),fj s 12,fj s 16,(s.take (dA s 2).toNat).drop 20)
def qD (s:Bytes):Ip×Bool:=bif decide ((s.length:Int)<20)||(decide (dA s 2<20)||decide (dA s 2>(s.length:Int))) then(ip0,false) else
 bif (ipR (JE s)).2&&((ipR (JE s)).1==s.take (dA s 2).toNat) then(JE s,true) else(ip0,false)
theorem ZG (s:Bytes)(h:s.length<=10^9):BC s=some (qD s):=by
 unfold BC qD;simp only[yR s _ h,yS s _ h,ab];by_cases h1:(s.length:Int)<20;rw[ax h1];rfl;by_cases h2:dA s 2<20;rw[aq h1,ax h2];rfl;by_cases h3:dA s 2>(s.length:Int);rw[aq h1,aq h2,ax h3];rfl;rw[aq h1,aq h2,aq h3];have b1:=vQ (s[1]'(by omega));have b8:=vQ (s[8]'(by omega));have b9:=vQ (s[9]'(by omega));have i1:idx s 1=some (s[1]'(by omega)):=bB (i:=1) (by omega);have i8:idx s 8=some (s[8]'(by omega)):=bB (i:=8) (by omega);have i9:idx s 9=some (s[9]'(by omega)):=bB (i:=9) (by omega);simp only[af,ab,cu,i1,i8,i9];rw[afY (l:=s) 20 (show(20:Int)=((20:Nat):Int) from rfl),FI,jU (n:=(s[1]'(by omega)).toNat),jU (n:=(s[8]'(by omega)).toNat),jU (n:=(s[9]'(by omega)).toNat)];have e:(((s[1]'(by omega)).toNat:Int),dA s 4,((s[8]'(by omega)).toNat:Int),((s[9]'(by omega)).toNat:Int),fj s 12,fj s 16,(s.take (dA s 2).toNat).drop 20)=JE s:=by simp only[JE,cn,cB (show 1<s.length by omega),cB (show 8<s.length by omega),cB (show 9<s.length by omega)]
 simp only[ab,e,ak2];cases (ipR (JE s)).2<;>cases (ipR (JE s)).1==s.take (dA s 2).toNat<;>rfl
def arn:gF:=(0,0,0,0,0,0,0,([]:Bytes))
def aek (k:Int)(s:Bytes):gF:=(k,dA s 0,dA s 2,fj s 4,fj s 8,(cn s 13:Int),dA s 14,s.drop 20)
def aiB (k:Int)(s:Bytes):gF:=(k,dA s 0,dA s 2,0,0,0,0,s.drop 8)
def AE (a b k:Int)(s:Bytes):gF×Bool:=
 bif (k==6)&&decide ((s.length:Int)>=20) then(bif (Ho a b (aek k s)).2&&((Ho a b (aek k s)).1==s) then(aek k s,true) else(arn,false)) else
 bif (k==17)&&decide ((s.length:Int)>=8) then(bif (Ho a b (aiB k s)).2&&((Ho a b (aiB k s)).1==s) then(aiB k s,true) else(arn,false)) else(arn,false)
theorem W2 (a b k:Int)(s:Bytes)(h:s.length<=10^9):sn a b k s=some (AE a b k s):=by
 unfold sn AE;simp only[yR s _ h,yS s _ h,ab];rw[show(aa (cond (k==6) (some (decide ((s.length:Int)>=20))) (some false)):(Bool->aB (gF×Bool))->aB (gF×Bool))=λK=>K ((k==6)&&decide ((s.length:Int)>=20)) from by funext K;cases k==6<;>rfl];rw[show(aa (cond (k==17) (some (decide ((s.length:Int)>=8))) (some false)):(Bool->aB (gF×Bool))->aB (gF×Bool))=λK=>K ((k==17)&&decide ((s.length:Int)>=8)) from by funext K;cases k==17<;>rfl];simp only;cases h1:(k==6)&&decide ((s.length:Int)>=20)with
 |true=>
  simp only[ae,aJ]at h1;have bb:=vQ (s[13]'(by omega));have i:idx s 13=some (s[13]'(by omega)):=bB (i:=13) (by omega);have e:(k,dA s 0,dA s 2,fj s 4,fj s 8,((s[13]'(by omega)).toNat:Int),dA s 14,s.drop 20)=aek k s:=by simp only[aek,cn,cB (show 13<s.length by omega)]
  simp only[ah,i,ab];rw[FH (l:=s) 20 (by omega) (show(20:Int)=((20:Nat):Int) from rfl),jU (n:=(s[13]'(by omega)).toNat)];simp only[ab,e,GY];cases (Ho a b (aek k s)).2<;>cases (Ho a b (aek k s)).1==s<;>rfl
 |false=>simp only[af];cases h2:(k==17)&&decide ((s.length:Int)>=8)with|false=>rfl|true=>simp only[ae,aJ]at h2;rw[FH (l:=s) 8 (by omega) (show(8:Int)=((8:Nat):Int) from rfl)];simp only[ah,ab,show((k,dA s 0,dA s 2,0,0,0,0,s.drop 8):gF)=aiB k s from rfl,GY];cases (Ho a b (aiB k s)).2<;>cases (Ho a b (aiB k s)).1==s<;>rfl
def pk0:aN:=(0,0,0,0,0,0,0,0,0,0,0,0,0,0,0,([]:Bytes))
def kR (s:Bytes):aN×Int:=
 let e:=iB s
 bif !e.2||(e.1.2.2.2.1 !=2048) then(pk0,2) else
 let i:=qD e.1.2.2.2.2
 bif !i.2 then(pk0,3) else
 let g:=AE i.1.2.2.2.2.1 i.1.2.2.2.2.2.1 i.1.2.2.2.1 i.1.2.2.2.2.2.2
 bif !g.2 then(pk0,4) else
 bif !dS (e.1.1,e.1.2.1,e.1.2.2.1,i.1.1,i.1.2.1,i.1.2.2.1,i.1.2.2.2.2.1,i.1.2.2.2.2.2.1,g.1) then(pk0,5) else
 ((e.1.1,e.1.2.1,e.1.2.2.1,i.1.1,i.1.2.1,i.1.2.2.1,i.1.2.2.2.2.1,i.1.2.2.2.2.2.1,g.1),0)
theorem Lm (s:Bytes):(iB s).1.2.2.2.2.length<=s.length:=by
 unfold iB;cases decide ((s.length:Int)<18);case true=>simp[akg]
 cases dA s 12==33024<;>cases vi (Me s)<;>cases vi (Ct s)<;>simp[akg,Me,Ct]
theorem aax (s:Bytes):(qD s).1.2.2.2.2.2.2.length<=s.length:=by
 unfold qD;cases decide ((s.length:Int)<20)||(decide (dA s 2<20)||decide (dA s 2>(s.length:Int)));case true=>simp[ip0]
 cases (ipR (JE s)).2&&((ipR (JE s)).1==s.take (dA s 2).toNat)with|false=>simp[ip0]|true=>simp[JE];omega
theorem H5 (s:Bytes)(h:s.length<=10^9):jC s=some (kR s):=by
 have h1:=Lm s;unfold jC kR;rw[KQ s h,ab];generalize iB s=e at h1⊢;have h2:=aax e.1.2.2.2.2;simp only;cases e.2;rfl;cases e.1.2.2.2.1 !=2048;case true=>rfl
 simp only[aj,af,ab,cu,ZG _ (show e.1.2.2.2.2.length<=10^9 by omega)];generalize qD e.1.2.2.2.2=i at h2⊢;cases i.2;rfl;simp only[aj,af,ab,W2 _ _ _ _ (show i.1.2.2.2.2.2.2.length<=10^9 by omega)];generalize AE i.1.2.2.2.2.1 i.1.2.2.2.2.2.1 i.1.2.2.2.1 i.1.2.2.2.2.2.2=g;cases g.2;rfl;simp only[aj,af,ab,nn];cases dS (e.1.1,e.1.2.1,e.1.2.2.1,i.1.1,i.1.2.1,i.1.2.2.1,i.1.2.2.2.2.1,i.1.2.2.2.2.2.1,g.1)<;>rfl
def gn (s:Bytes):aN×Int:=
 let c:=AP s
 bif !c.2 then(pk0,1) else
 let r:=kR c.1
 bif r.2 !=0 then(pk0,r.2) else
 bif !eY r.1 then(pk0,5) else(r.1,0)
theorem ab2 (s:Bytes):(AP s).1.length<=s.length:=by
 unfold AP;cases decide ((s.length:Int)<4);case true=>simp
 cases FQ (s.take ((s.length:Int)-4).toNat)==s with|false=>simp|true=>simp;omega
theorem Mv (s:Bytes)(h:s.length<=10^9):pw s=some (gn s):=by
 have h1:=ab2 s;unfold pw gn;rw[ac9 s h,ab];generalize AP s=c at h1⊢;simp only;cases c.2;rfl;simp only[aj,af,ab,H5 _ (show c.1.length<=10^9 by omega)];generalize kR c.1=r;cases r.2 !=0;case true=>rfl
 simp only[af,ab,yT];cases eY r.1<;>rfl
theorem hZ (a:bO)(h:a.length<=1073741824:=by omega):dM a=some a:=by simp only[dM,iK];rw[aX (by simpa using h)];rfl
theorem Ft (a:bO)(h:a.length<=1073741824:=by omega):oc a=some a:=by simp only[oc];rw[aX (by simpa using h)];rfl
theorem nm (l:bO)(h:l.length<=10^9:=by omega):iK l=some l:=by simp only[iK,mP h,cv]
theorem oZ (f:Filter)(h:f.2.2.length<=10^9):fR f=some f:=by simp only[fR,md _ h,ab]
theorem C0 (f:Filter)(h:f.2.2.length<=10^9):yy f=some f:=by simp only[yy,mP h,cv]
theorem Ba (l:aw Stream)(h:l.length<=10^9:=by omega):mu l=some l:=by simp only[mu,mP h,cv]
theorem Tb (t:aw Slot)(h:t.length<=10^9):xX t=some t:=by simp only[xX,mP h,cv]
theorem QX (s:uO)(h:s.2.length<=10^9):wb s=some s:=by simp only[wb,md _ h,ab]
theorem Ta (s:dQ)(h1:s.1.length<=10^9)(h2:s.2.1.length<=10^9)(h3:s.2.2.2.length<=10^9):sB s=some s:=by simp only[sB,mP h1,Tb _ h2,QX _ h3,ab,cv]
theorem Tu (t:aw Slot)(h:t.length<=10^9):BV t=some t:=by simp only[BV,mP h,cv]
theorem I5 (s:dQ)(h1:s.1.length<=10^9)(h2:s.2.1.length<=10^9)(h3:s.2.2.2.length<=10^9):BX s=some s:=by simp only[BX,mP h1,Tu _ h2,mP h3,ab,cv]
theorem aiG (l:aw qc)(i:Nat)(hi:i<l.length):l.take i++[(l[i].1,l[i].2.1,l[i].2.2)]=l.take (i+1):=(bl hi).symm
theorem KM (l:aw qc)(h:l.length<=10^9)(hx:∀x∈l,x.2.2.length<=10^9):vz l=some l:=by unfold vz;refine(dG (λi=>(l.take i,(i:Int))) l.length (by omega) (λi nx hi=>?_) (λnx=>?_));simp only[ux];rw[jP,bB hi,ak];simp only[ah,ab,md _ (hx _ (aK hi))];rw[aX (by simp;omega),aiG l i hi];rfl;simp only[ux];rw[cL,cO];rfl
structure am8 (t:eR):Prop where
 p:t.2.1.2.2.2.length<=10^9
 w:t.2.2.1.length<=10^9
 x:∀x∈t.2.2.1,x.2.2.length<=10^9
theorem JA (t:eR)(z:am8 t):tn t=some t:=by simp only[tn,wR _ z.p,KM _ z.w z.x,ab]
theorem as1 (z:dC 1000000000 dT h):am8 h.2.2.1:=⟨z.2.2.1.2.1.2.2.2.1,z.2.2.1.2.2.1.1,λx hx=>(z.2.2.1.2.2.1.2 x hx).2.2.1⟩
theorem kA (h:Host)(z:dC 1000000000 dT h):iE h=some h:=by have hp:h.2.2.2.2.1.length<=10^9:=z.2.2.2.2.1.1;have hm:h.1.length<=10^9:=z.1.1;unfold iE;simp only[hZ _ (show h.1.length<=1073741824 by omega),xW,mP z.2.1.1,JA _ (as1 z),mP z.2.2.2.1.1,ab,cv];refine(dG (λi=>((i:Int),h.1,h.2.1,h.2.2.1,h.2.2.2.1,h.2.2.2.2.1.take i,h.2.2.2.2.2)) h.2.2.2.2.1.length (by omega) (λi nx hi=>?_) (λnx=>?_));simp only[uw];rw[jP,bB hi,ak];simp only[ah,ab,wR _ (z.2.2.2.2.1.2 _ (aK hi)).2.2.2.1];rw[aX (by simp;omega),<-bl hi];rfl;simp only[uw];rw[cL,cO];simp only[af,mP z.2.2.2.2.2.1.1,mP z.2.2.2.2.2.2.1.1,oZ _ z.2.2.2.2.2.2.2.1.2.2.1,Ta _ z.2.2.2.2.2.2.2.2.1.1.1 z.2.2.2.2.2.2.2.2.1.2.1.1 z.2.2.2.2.2.2.2.2.1.2.2.2.1,Ba _ z.2.2.2.2.2.2.2.2.2.1.1,nm _ z.2.2.2.2.2.2.2.2.2.2.2.1.1,md _ z.2.2.2.2.2.2.2.2.2.2.2.2.1.1,md _ z.2.2.2.2.2.2.2.2.2.2.2.2.2.1.1,ab,cv]
theorem aeU:∀l:aw qc,(bK l).length<=TC (.sl lB) l
 |[]=>by simp[bK]
 |x::l=>by have:=aeU l;simp only[bK,TC,List.flatMap_cons,ai,dm,gu,aP]at this⊢;omega
def atF (f:Iv)(s:Stream):Bool:=decide (s.1=f)
def aiV (l:aw Stream)(f:Iv):Int:=match l.findIdx? (atF f)with|some i=>(i:Int)|none=> -1
theorem alb (l:aw Stream)(f:Iv)(h:l.length<=10^9):uh l f=some (aiV l f):=by
 unfold uh aiV;rw[HO (p:=atF f) (hit:=λi=>some i) (fin:=some (-1)) l (by omega) (λi hi nx=>?hs) (λnx=>?hf)]
 case hs=>
  simp only[oG]
  rw[jP,bB hi,ak]
  simp only[ah,ab,O9,atF];rfl
 case hf=>
  simp only[oG]
  rw[cL];rfl
 cases l.findIdx? (atF f)<;>rfl
def aeB:Stream:=((0,0,0,0,0),0,([]:Bytes),false)
def body (p:aN):Bytes:=p.2.2.2.2.2.2.2.2.2.2.2.2.2.2.2
def udp (p:aN):Bytes:=cy ((body p).length:Int)++body p
def Ir (p:aN)(b:Int):Bool:=ar (toNat (iR p.2.2.2.2.2.2.2.2.2.2.2.2.2.1&&&iR b)) !=0
def AO (s:Stream)(p:aN):Int:=(s.2.1-p.2.2.2.2.2.2.2.2.2.2.2.1)%4294967296
def aru (s:Stream)(p:aN):Stream:=(s.1,(s.2.1+((body p).length:Int)-AO s p)%4294967296,s.2.2.1++(body p).drop (AO s p).toNat,Ir p 1)
def GA (l:aw Stream)(p:aN):aw Stream:=
 bif !dS p then l else
 match l.findIdx? (atF (lN p))with
 |none=>
  bif p.2.2.2.2.2.2.2.2.1==17 then l++[(lN p,0,udp p,false)] else
  bif Ir p 2 then l++[(lN p,tmod (ar (p.2.2.2.2.2.2.2.2.2.2.2.1+1)) 4294967296,([]:Bytes),false)] else l
 |some i=>
  bif p.2.2.2.2.2.2.2.2.1==17 then l.set i ((l.getD i aeB).1,(l.getD i aeB).2.1,(l.getD i aeB).2.2.1++udp p,(l.getD i aeB).2.2.2) else
  bif Ir p 2 then l else
  bif (l.getD i aeB).2.2.2||Ir p 4 then l else
  bif decide (AO (l.getD i aeB) p<=((body p).length:Int)) then l.set i (aru (l.getD i aeB) p) else l
theorem ajk (s:Stream)(p:aN):0<=AO s p/\AO s p<4294967296:=by unfold AO;omega
theorem aqW (x:Int):ar (toNat (iR x&&&iR 4294967295))=x%4294967296:=by have:=Gp x 32;rw[show((2:Int)^32-1)=4294967295 from rfl,show((2:Int)^32)=4294967296 from rfl]at this;rw[this,ak]
theorem apu (x:Int):ar x%4294967296=x%4294967296:=by have:=EX x 32;rwa[show((2:Int)^32)=4294967296 from rfl]at this
theorem XB (l:aw α)(x y:α):(l++[x]).set l.length y=l++[y]:=by rw[List.set_append_right _ _ (bc _),iC,List.set_cons_zero]
theorem anD {l:aw α}(h:i<l.length)(x:α):idx (l.set i x) (i:Int)=some x:=by rw[KK,bf h]
theorem KJ (l:aw α)(x:α):idx (l++[x]) (l.length:Int)=some x:=by rw[KK,bw (bc _),iC];rfl
theorem Yc (h:dS p=true):(body p).length<=320:=FJ h
theorem WX (l:aw Stream)(p:aN)(h:dC 900000000 (.sl fX) l):Bz l p=some (GA l p):=by
 have hl:l.length<=900000000:=h.1;unfold Bz GA;simp only[Ba l,nn,ab,QY,alb l _ (show l.length<=10^9 by omega),mF];cases hs:dS p;rfl;have hb:=Yc hs;have hw:=bT ((body p).length:Int);simp only[aj,af];rw[show p.2.2.2.2.2.2.2.2.2.2.2.2.2.2.2=body p from rfl];cases hf:l.findIdx? (atF (lN p))with
 |none=>
  have e1:aiV l (lN p)= -1:=by rw[aiV,hf]
  simp only[e1,show decide ((-1:Int)<0)=true from rfl,ah];cases p.2.2.2.2.2.2.2.2.1==17 with|true=>simp only[ah];rw[aX (by simp;omega),KJ,ab];simp only;rw[aX,aX (by simp only[ai,dZ];omega),ab,au];simp only[ab,KJ,XB,cv];rfl|false=>simp only[af];rw[show(ar (toNat (iR p.2.2.2.2.2.2.2.2.2.2.2.2.2.1&&&iR 2)) !=0)=Ir p 2 from rfl];cases Ir p 2 with|true=>simp only[ah];rw[lI,aX (by simp;omega)]|false=>rfl
 |some i=>
  obtain⟨hi,_⟩:=List.findIdx?_eq_some_iff_getElem.1 hf;have hd:(l[i].2.2.1).length<=900000000:=(h.2 _ (aK hi)).2.2.1;have e1:aiV l (lN p)=(i:Int):=by rw[aiV,hf]
  simp only[e1,aq (show¬(i:Int)<0 by omega),af,bB hi,ab,cB hi,au];cases p.2.2.2.2.2.2.2.2.1==17 with
  |true=>simp only[ah];rw[aX,aX (by simp only[ai];omega)];rfl
  |false=>
   simp only[af];rw[show(ar (toNat (iR p.2.2.2.2.2.2.2.2.2.2.2.2.2.1&&&iR 2)) !=0)=Ir p 2 from rfl,show(ar (toNat (iR p.2.2.2.2.2.2.2.2.2.2.2.2.2.1&&&iR 4)) !=0)=Ir p 4 from rfl,show(ar (toNat (iR p.2.2.2.2.2.2.2.2.2.2.2.2.2.1&&&iR 1)) !=0)=Ir p 1 from rfl];cases Ir p 2;case true=>rfl
   simp only[af];rw[show(aa (cond l[i].2.2.2 (some true) (some (Ir p 4))):(Bool->aB (aw Stream))->aB (aw Stream))=λK=>K (l[i].2.2.2||Ir p 4) from by funext K;cases l[i].2.2.2<;>rfl];simp only;cases l[i].2.2.2||Ir p 4;case true=>rfl
   simp only[af,MM _ 4294967296,ab,apu];rw[show(l[i].2.1-p.2.2.2.2.2.2.2.2.2.2.2.1)%4294967296=AO l[i] p from rfl];have ha:=ajk l[i] p;by_cases hq:AO l[i] p<=((body p).length:Int)
   rw[ax hq,FH (l:=body p) (AO l[i] p).toNat (by omega) (by omega)];simp only[ah,ab];rw[aX (by rw[aM];omega)];simp only[anD hi,ab,List.set_set];refine congrArg some (congrArg (l.set i) ?_);simp only[aru];rw[show(ar (l[i].2.1+((body p).length:Int))-AO l[i] p)%4294967296=(l[i].2.1+((body p).length:Int)-AO l[i] p)%4294967296 from by rw[Int.sub_emod,apu,<-Int.sub_emod]];rw[aq hq];rfl
theorem Wo {l:aw Stream}(h:dC n (.sl fX) l):dC (n+322) (.sl fX) (GA l p):=by
 have h':dC (n+322) (.sl fX) l:=h.mono;unfold GA;cases hs:dS p;exact h';have hb:=Yc hs;have hw:=bT ((body p).length:Int);have hu:(udp p).length<=322:=by simp only[udp,ai];omega
 simp only[aj,af];have app:∀x:Stream,x.2.2.1.length<=n+322->dC (n+322) (.sl fX) (l++[x]):=by intro x hx;refine⟨?_,λy hy=>?_⟩;have:l.length<=n:=h.1;simp only[ai,aY];omega;rcases aA.1 hy with g|g;exact h'.2 y g;rw[br.1 g];exact⟨⟨cG,cG,cG,cG,cG⟩,cG,hx,cG⟩
 have put:∀(i:Nat)(x:Stream),x.2.2.1.length<=n+322->dC (n+322) (.sl fX) (l.set i x):=by intro i x hx;refine⟨?_,λy hy=>?_⟩;show(l.set i x).length<=_;rw[az];exact h'.1;rcases cK hy with g|rfl;exact h'.2 y g;exact⟨⟨cG,cG,cG,cG,cG⟩,cG,hx,cG⟩
 split;cases p.2.2.2.2.2.2.2.2.1==17 with|true=>exact app _ (show(udp p).length<=_ by omega)|false=>cases Ir p 2 with|true=>exact app _ (cd _)|false=>exact h'
 ·rename_i i hf;obtain⟨hi,_⟩:=List.findIdx?_eq_some_iff_getElem.1 hf;have hd:(l[i].2.2.1).length<=n:=(h.2 _ (aK hi)).2.2.1;simp only[cB hi];cases p.2.2.2.2.2.2.2.2.1==17 with
  |true=>exact put _ _ (by simp only[ai];omega)
  |false=>
   cases Ir p 2;case true=>exact h'
   cases l[i].2.2.2||Ir p 4;case true=>exact h'
   cases decide (AO l[i] p<=((body p).length:Int))with|false=>exact h'|true=>exact put _ _ (by simp only[aru,ai,aM];omega)
theorem kH {y:Bytes}(h:i<x.length):cn (x++y) i=cn x i:=by unfold cn;rw[aW,aW,bp h]
theorem wQ {y:Bytes}(h:x.length<=i):cn (x++y) i=cn y (i-x.length):=by unfold cn;rw[aW,aW,bw h]
theorem Yh (h:i<n):cn (x.take n) i=cn x i:=by unfold cn;rw[aW,aW,dL h]
theorem nA:cn (x.drop n) i=cn x (n+i):=by unfold cn;rw[aW,aW,bR]
theorem Xp {p:Bytes}(h:i<a\/a+p.length<=i:=by omega):cn (yX s (a:Int) p) i=cn s i:=by
 unfold yX fT;by_cases hw:(0:Int)<=a/\(a:Int)+(p.length:Int)<=(s.length:Int)
 rw[ax hw,ah,au];have ht:(s.take a).length=a:=by rw[aV];omega
 rcases h with h|h;rw[kH (by rw[ai];omega),kH (by omega),Yh h];rw[wQ (by rw[ai];omega),nA,ai,ht];congr 1;omega;rw[aq hw];rfl
theorem afH {p:Bytes}{j:Nat}(hw:a+p.length<=s.length)(hj:j<p.length:=by omega):cn (yX s (a:Int) p) (a+j)=cn p j:=by
 unfold yX fT;rw[ax ⟨by omega,by omega⟩,ah,au];have ht:(s.take a).length=a:=by rw[aV];omega
 rw[kH (by rw[ai];omega),wQ (by omega),ht];congr 1;omega
theorem wV:dA s (a:Int)=bif decide (a+2<=s.length) then((cn s a*256+cn s (a+1):Nat):Int) else-1:=by unfold dA fT;rw[au,show decide ((0:Int)<=a/\(a:Int)+2<=(s.length:Int))=decide (a+2<=s.length) from decide_eq_decide.2 (by omega)]
theorem GK (hl:s.length=t.length)(h0:cn s a=cn t a)(h1:cn s (a+1)=cn t (a+1)):dA s (a:Int)=dA t (a:Int):=by rw[wV,wV,hl,h0,h1]
theorem Qt {k:Nat}:dA (s.drop k) (a:Int)=dA s ((k+a:Nat):Int):=by rw[wV,wV,nA,nA,aM,show k+(a+1)=k+a+1 by omega,show decide (a+2<=s.length-k)=decide (k+a+2<=s.length) from decide_eq_decide.2 (by omega)]
theorem HT:fj s (a:Int)=bif decide (a+4<=s.length) then(((cn s a*256+cn s (a+1))*65536+(cn s (a+2)*256+cn s (a+3)):Nat):Int) else-1:=by unfold fj fT;rw[au,show decide ((0:Int)<=a/\(a:Int)+4<=(s.length:Int))=decide (a+4<=s.length) from decide_eq_decide.2 (by omega)]
theorem Qv {k:Nat}:fj (s.drop k) (a:Int)=fj s ((k+a:Nat):Int):=by rw[HT,HT,nA,nA,nA,nA,aM,show k+(a+1)=k+a+1 by omega,show k+(a+2)=k+a+2 by omega,show k+(a+3)=k+a+3 by omega,show decide (a+4<=s.length-k)=decide (k+a+4<=s.length) from decide_eq_decide.2 (by omega)]
theorem YR (hl:s.length=t.length)(h:∀j,j<4->cn s (a+j)=cn t (a+j)):fj s (a:Int)=fj t (a:Int):=by rw[HT,HT,hl,show cn s a=cn t a from h 0 (by omega),h 1 (by omega),h 2 (by omega),h 3 (by omega)]
def dW (s:Bytes):Nat:=bif dA s 12==33024 then 18 else 14
def mf (s:Bytes):Nat:=cn s (dW s+9)
def Sc (k:Nat):Nat:=bif (k:Int)==6 then 16 else 6
def Ei (s:Bytes):Nat:=dW s+10
def B6 (s:Bytes):Nat:=dW s+20+Sc (mf s)
theorem LG (k:Nat):Sc k=16/\k=6\/Sc k=6/\k≠6:=by unfold Sc;by_cases h:k=6;subst h;exact .inl ⟨rfl,rfl⟩;exact .inr ⟨by rw[show((k:Int)==6)=false from by rw[bM];omega];rfl,h⟩
theorem PJ (s:Bytes):dW s=18/\(dA s 12==33024)=true\/dW s=14/\(dA s 12==33024)=false:=by unfold dW;cases dA s 12==33024 with|true=>exact .inl ⟨rfl,rfl⟩|false=>exact .inr ⟨rfl,rfl⟩
theorem Mw (k:Nat)(h:k<256):gE (k:Int)=some (Sc k:Int):=by unfold gE Sc;cases (k:Int)==6<;>rfl
theorem KW (s:Bytes)(h:s.length<=10^9):tt s=some ((Ei s:Int),(B6 s:Int)):=by
 unfold tt;rw[yR s 12 h,ab];have hk:=fg s (dW s+9)
 have core:∀o:Nat,dW s=o->(o=18\/o=14)->(bif decide (ar ((o:Int)+9)<(s.length:Int)) then
  aa (idx s (ar ((o:Int)+9))) λx2=>aa (gE (ar ((UInt8.toNat x2:Int)))) λr3=>some (ar ((o:Int)+10),ar ((ar ((o:Int)+20))+r3))
  else aa (gE 0) λr4=>some (ar ((o:Int)+10),ar ((ar ((o:Int)+20))+r4)))=some ((Ei s:Int),(B6 s:Int)):=by
  intro o ho h2
  have hs:=LG (mf s)
  rw[ak (n:=(o:Int)+9),ak (n:=(o:Int)+10),ak (n:=(o:Int)+20)]
  unfold Ei B6
  rw[ho]
  by_cases hl:o+9<s.length
  ·obtain⟨x,hx,ex⟩:=nI hl
   rw[jP,ah,show(o:Int)+9=((o+9:Nat):Int) by omega,hx,ab,ex,jU (by rw[<-ho];omega),Mw _ (by rw[<-ho];exact hk),ab,show cn s (o+9)=mf s by unfold mf;rw[ho],ak]
   congr 1
  ·have hz:mf s=0:=by unfold mf;rw[ho];exact Jm
   have h0:gE 0=some (Sc 0:Int):=Mw 0 (by omega)
   rw[cL,af,h0,ab,<-hz,ak]
   congr 1
 rcases PJ s with⟨h1,h2⟩|⟨h1,h2⟩;rw[h2,ah];exact core 18 h1 (.inl rfl);rw[h2,af];exact core 14 h1 (.inr rfl)
theorem afx {a:Int}(h:di a 0 281474976710655=true):(mac a).length=6:=by
 have ha:=aU.1 h;have e:mac a=cy (fdiv a (2^(rX 32)))++gz (ar (toNat (iR a&&&iR 4294967295))):=by unfold mac jO;rw[lI];simp only[qH,oq,ab];have h1:=bT (fdiv a (2^(rX 32)));have h2:=dU (ar (toNat (iR a&&&iR 4294967295)));rw[aX];rfl
 have e2:(2:Int)^(rX 32)=4294967296:=rfl;rw[e,ai,J0,Sz,aqW,e2];rw[show di (fdiv a 4294967296) 0 65535=true from aU.2 (by rw[Int.fdiv_eq_ediv_of_nonneg _ (by omega)];omega),show di (a%4294967296) 0 4294967295=true from aU.2 (by omega)];rfl
theorem Zs (h:dS p=true):dW (dE p).1+46<=(dE p).1.length:=by
 have hh:sa p=true:=by simp only[dS,ae]at h;exact h.1
 have hp:=Xl (ipP p).1;have hi:=H3 h;unfold dE anp Yx at hi⊢;rw[h,ah]at hi⊢;cases he:vi (p.1,p.2.1,p.2.2.1,2048,pad (ipP p).1)with|false=>rw[he]at hi;cases hi|true=>?_
 simp only[ah];simp only[sa,ae]at hh;have m1:=afx hh.1;have m2:=afx hh.2.1;have hv:=aU.1 hh.2.2.1;have w1:(cy 33024).length=2:=rfl;have w3:(cy 2048).length=2:=rfl;generalize pad (ipP p).1=bd at hp⊢;unfold TZ;simp only;generalize mac p.1=M1 at m1⊢;generalize mac p.2.1=M2 at m2⊢;by_cases hc:p.2.2.1>=0;have w2:(cy p.2.2.1).length=2:=by rw[J0,aU.2 (by omega)];rfl
 rw[ax hc,ah];have hb:dW (((((M1++M2)++cy 33024)++cy p.2.2.1)++cy 2048)++bd)=18:=by
  unfold dW;have e12:dA (((((M1++M2)++cy 33024)++cy p.2.2.1)++cy 2048)++bd) ((12:Nat):Int)=33024:=by rw[wV,ax (by simp only[ai];omega),ah];rw[kH (by simp only[ai];omega),kH (by simp only[ai];omega),kH (by simp only[ai];omega),wQ (by simp only[ai];omega)];rw[kH (by simp only[ai];omega),kH (by simp only[ai];omega),kH (by simp only[ai];omega),wQ (by simp only[ai];omega)];rw[ai,m1,m2];rfl
  rw[show(12:Int)=((12:Nat):Int) from rfl,e12];rfl
 rw[hb];simp only[ai];omega;rw[aq hc,af];have hb:dW (((M1++M2)++cy 2048)++bd)=14:=by
  unfold dW;have e12:dA (((M1++M2)++cy 2048)++bd) ((12:Nat):Int)=2048:=by rw[wV,ax (by simp only[ai];omega),ah];rw[kH (by simp only[ai];omega),wQ (by simp only[ai];omega)];rw[kH (by simp only[ai];omega),wQ (by simp only[ai];omega)];rw[ai,m1,m2];rfl
  rw[show(12:Int)=((12:Nat):Int) from rfl,e12];rfl
 rw[hb];simp only[ai];omega
def nW (t:Bytes)(x y:Bytes):Bytes:=yX (yX t (Ei t:Int) x) (B6 t:Int) y
theorem Hi (t x y:Bytes):(nW t x y).length=t.length:=by unfold nW;rw[CU,CU]
def lx (p:aN):Bytes×Bool:=bif dS p then(nW (dE p).1 (cy 0) (cy 0),true) else([],false)
theorem akU (h:dS p=false):dE p=([],false):=by unfold dE;rw[h];rfl
theorem UB (p:aN):og p=some (lx p):=by have hl:=yQ p;have w0:=bT 0;unfold og lx nW;rw[EC,ab];cases h:dS p with|false=>rw[akU h];rfl|true=>rw[H3 h];simp only[aj,af,ah,KW _ (show(dE p).1.length<=10^9 by omega),ab,mF,Fk _ _ _ (show(dE p).1.length<=10^9 by omega) (show(cy 0).length<=10^9 by omega),Fk _ _ _ (show(yX (dE p).1 (Ei (dE p).1:Int) (cy 0)).length<=10^9 by rw[CU];omega) (show(cy 0).length<=10^9 by omega)]
def FX (s t:Bytes):Prop:=s.length=t.length/\∀i,i<Ei t\/(Ei t+2<=i/\i<B6 t)\/B6 t+2<=i->cn s i=cn t i
theorem CS (t:Bytes):(dW t=14\/dW t=18)/\Ei t=dW t+10/\dW t+26<=B6 t/\B6 t<=dW t+36/\(B6 t=dW t+36/\mf t=6\/B6 t=dW t+26/\mf t≠6):=by have h1:=PJ t;have h2:=LG (mf t);unfold Ei B6;omega
theorem I2 (t:Bytes){y:Bytes}(hx:x.length<=2)(hy:y.length<=2):FX (nW t x y) t:=by have:=CS t;refine⟨Hi t x y,λi hi=>?_⟩;unfold nW;rw[Xp,Xp]
theorem FX.body (h:FX s t):dW s=dW t:=by have:=CS t;unfold dW;have e:dA s ((12:Nat):Int)=dA t ((12:Nat):Int):=GK h.1 (h.2 _ (by omega)) (h.2 _ (by omega));rw[show(12:Int)=((12:Nat):Int) from rfl,e]
theorem FX.kind (h:FX s t):mf s=mf t:=by have:=CS t;unfold mf;rw[h.body,h.2 _ (by omega)]
theorem FX.ari (h:FX s t):Ei s=Ei t/\B6 s=B6 t:=by unfold Ei B6;rw[h.body,h.kind];exact⟨rfl,rfl⟩
theorem FX.as0 (h:FX s t):dA s ((dW t+2:Nat):Int)=dA t ((dW t+2:Nat):Int):=by have:=CS t;exact GK h.1 (h.2 _ (by omega)) (h.2 _ (by omega))
structure TOk (t:Bytes):Prop where
 eth:(iB t).2=true
 bd:(iB t).1.2.2.2.2=t.drop (dW t)
 l1:dW t+46<=t.length
 n1:20+Sc (mf t)+2<=dA t ((dW t+2:Nat):Int)
 n2:dA t ((dW t+2:Nat):Int)<=(t.length:Int)-(dW t:Int)
theorem MV (h:(iB s).2=true):(iB s).1.2.2.2.2=s.drop (dW s)/\18<=s.length/\46<=s.length-dW s/\s.length-dW s<=400:=by
 unfold iB at h⊢;by_cases h8:(s.length:Int)<18;rw[ax h8]at h;cases h;rw[aq h8]at h⊢;simp only[af]at h⊢;rcases PJ s with⟨h1,h2⟩|⟨h1,h2⟩;rw[h2]at h⊢;simp only[ah]at h⊢;cases he:vi (Me s)with|false=>rw[he]at h;cases h|true=>rw[h1];simp only[vi,ae,aU,Me,aM]at he;simp only[ah,Me];refine⟨cG,by omega,by omega,by omega⟩
 rw[h2]at h⊢;simp only[af]at h⊢;cases he:vi (Ct s)with|false=>rw[he]at h;cases h|true=>rw[h1];simp only[vi,ae,aU,Ct,aM]at he;simp only[ah,Ct];refine⟨cG,by omega,by omega,by omega⟩
theorem RN (h:(kR s).2=0):(iB s).2=true/\(qD (iB s).1.2.2.2.2).2=true/\dS (kR s).1=true/\ (AE (qD (iB s).1.2.2.2.2).1.2.2.2.2.1 (qD (iB s).1.2.2.2.2).1.2.2.2.2.2.1 (qD (iB s).1.2.2.2.2).1.2.2.2.1 (qD (iB s).1.2.2.2.2).1.2.2.2.2.2.2).2=true:=by
 unfold kR at h⊢;simp only at h⊢;generalize iB s=e at h⊢;cases h1: !e.2||(e.1.2.2.2.1 !=2048)with|true=>rw[h1]at h;cases h|false=>?_
 rw[h1]at h;simp only[af]at h⊢;generalize qD e.1.2.2.2.2=i at h⊢;cases h2:i.2 with|false=>rw[h2]at h;cases h|true=>?_
 rw[h2]at h;simp only[aj,af]at h⊢;generalize AE i.1.2.2.2.2.1 i.1.2.2.2.2.2.1 i.1.2.2.2.1 i.1.2.2.2.2.2.2=g at h⊢;cases h3:g.2 with|false=>rw[h3]at h;cases h|true=>?_
 rw[h3]at h;simp only[aj,af]at h⊢;cases h4:dS (e.1.1,e.1.2.1,e.1.2.2.1,i.1.1,i.1.2.1,i.1.2.2.1,i.1.2.2.2.2.1,i.1.2.2.2.2.2.1,g.1)with|false=>rw[h4]at h;cases h|true=>?_
 simp only[cA,eF]at h1;exact⟨h1.1,cG,h4,cG⟩
theorem alM (h:(qD b).2=true):20<=dA b 2/\dA b 2<=(b.length:Int)/\(qD b).1=JE b:=by
 unfold qD at h⊢;cases h1:decide ((b.length:Int)<20)||(decide (dA b 2<20)||decide (dA b 2>(b.length:Int)))with|true=>rw[h1]at h;cases h|false=>?_
 rw[h1]at h;simp only[af]at h⊢;cases h2:(ipR (JE b)).2&&((ipR (JE b)).1==b.take (dA b 2).toNat)with|false=>rw[h2]at h;cases h|true=>?_
 simp only[cA,df]at h1;exact⟨by omega,by omega,rfl⟩
theorem aie {a b k:Int}(h:(AE a b k s).2=true):k=6/\20<=s.length\/k=17/\8<=s.length:=by unfold AE at h;cases h1:(k==6)&&decide ((s.length:Int)>=20)with|true=>simp only[ae,bn,aJ]at h1;exact .inl ⟨h1.1,by omega⟩|false=>rw[h1]at h;simp only[af]at h;cases h2:(k==17)&&decide ((s.length:Int)>=8)with|true=>simp only[ae,bn,aJ]at h2;exact .inr ⟨h2.1,by omega⟩|false=>rw[h2]at h;cases h
theorem agH (hl:s.length=t.length)(h:∀i,i<18->cn s i=cn t i)(hs:(iB s).2=true):(iB t).2=true:=by
 have g16:∀a,a+2<=18->dA s ((a:Nat):Int)=dA t ((a:Nat):Int):=λa ha=>GK hl (h _ (by omega)) (h _ (by omega));have g32:∀a,a+4<=18->fj s ((a:Nat):Int)=fj t ((a:Nat):Int):=λa ha=>YR hl (λj hj=>h _ (by omega));have e0:IY s 0=IY t 0:=by unfold IY;rw[show(0:Int)=((0:Nat):Int) from rfl,g16 0 (by omega),show((0:Nat):Int)+2=((2:Nat):Int) from rfl,g32 2 (by omega)]
 have e6:IY s 6=IY t 6:=by unfold IY;rw[show(6:Int)=((6:Nat):Int) from rfl,g16 6 (by omega),show((6:Nat):Int)+2=((8:Nat):Int) from rfl,g32 8 (by omega)]
 have e12:dA s 12=dA t 12:=g16 12 (by omega);have e14:dA s 14=dA t 14:=g16 14 (by omega);have e16:dA s 16=dA t 16:=g16 16 (by omega);have b1:vi (Me s)=vi (Me t):=by unfold vi Me;rw[e0,e6,e14,e16];simp only[aM,hl]
 have b2:vi (Ct s)=vi (Ct t):=by unfold vi Ct;rw[e0,e6,e12];simp only[aM,hl]
 unfold iB at hs⊢;rw[hl,e12,b1,b2]at hs;cases h8:decide ((t.length:Int)<18)with|true=>rw[h8]at hs;cases hs|false=>?_
 rw[h8]at hs;cases h12:dA t 12==33024 with
 |true=>rw[h12]at hs;cases hb:vi (Me t)with|true=>rfl|false=>rw[hb]at hs;cases hs
 |false=>rw[h12]at hs;cases hb:vi (Ct t)with|true=>rfl|false=>rw[hb]at hs;cases hs
theorem arv (ha:FX s t)(h:(kR s).2=0):TOk t:=by
 have hp:=CS t;obtain⟨h1,h2,_,h4⟩:=RN h;have he:=MV h1;rw[he.1]at h2 h4;have hi:=alM h2;have hs:=aie h4;rw[hi.2.2]at hs;have e1:(iB t).2=true:=agH ha.1 (λi hi=>ha.2 i (by omega)) h1;have e2:=MV e1;have en:dA (s.drop (dW s)) 2=dA t ((dW t+2:Nat):Int):=by have:dA (s.drop (dW s)) ((2:Nat):Int)=dA s ((dW s+2:Nat):Int):=Qt;rw[show(2:Int)=((2:Nat):Int) from rfl,this,ha.body,ha.as0]
 have ek:(JE (s.drop (dW s))).2.2.2.1=(mf t:Int):=by show(cn (s.drop (dW s)) 9:Int)=_;rw[nA,<-ha.kind];rfl
 have eg:(JE (s.drop (dW s))).2.2.2.2.2.2.length=(dA t ((dW t+2:Nat):Int)).toNat-20:=by show(((s.drop (dW s)).take (dA (s.drop (dW s)) 2).toNat).drop 20).length=_;rw[en,aM,aV];have:=hi.2.1;rw[en]at this;omega
 rw[ek,eg]at hs;rw[en]at hi;have hn:=hi.2.1;rw[aM,ha.1,ha.body]at hn;have hk:=LG (mf t);exact⟨e1,e2.1,by omega,by omega,by omega⟩
theorem aiX (h:(lx p).1=t)(hs:dS p=true)(ht:TOk t):dA t (Ei t:Int)=0/\dA t (B6 t:Int)=0:=by
 unfold lx at h;rw[hs]at h;simp only[ah]at h;have w0:(cy 0).length=2:=rfl;have ha:FX (nW (dE p).1 (cy 0) (cy 0)) (dE p).1:=I2 _ (by omega) (by omega);rw[h]at ha;have hp:=CS t;have Gf:=ha.ari;have hl:=ht.l1;have Cg:=ha.1;have J4:=ht.n1;have EA:=ht.n2;have hk:=LG (mf t);have hB:B6 t+2<=t.length:=by omega
 have b0:cn (cy 0) 0=0:=rfl;have b1:cn (cy 0) 1=0:=rfl;rw[wV,wV,jP,ax hB,ah,ah];have eB:∀j,j<2->cn t (B6 t+j)=cn (cy 0) j:=by intro j hj;rw[<-h];unfold nW;rw[show B6 (yX (yX (dE p).1 (Ei (dE p).1:Int) (cy 0)) (B6 (dE p).1:Int) (cy 0))=B6 (dE p).1 from by have:=Gf.2;rw[<-h]at this;exact this];exact afH (by rw[CU,w0];omega)
 have eA:∀j,j<2->cn t (Ei t+j)=cn (cy 0) j:=by intro j hj;rw[<-h];unfold nW;rw[show Ei (yX (yX (dE p).1 (Ei (dE p).1:Int) (cy 0)) (B6 (dE p).1:Int) (cy 0))=Ei (dE p).1 from by have:=Gf.1;rw[<-h]at this;exact this];rw[Xp];exact afH (by rw[w0];omega)
 have a0:=eA 0 (by omega);have a1:=eA 1 (by omega);have c0:=eB 0 (by omega);have c1:=eB 1 (by omega);rw[dX]at a0 c0;rw[a0,a1,c0,c1,b0,b1];exact⟨rfl,rfl⟩
end
end Go.Pu
