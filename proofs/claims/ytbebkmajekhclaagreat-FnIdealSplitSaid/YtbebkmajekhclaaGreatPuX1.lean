import Derived.Test.YtbebkmajekhclaaGreatDnData
import Derived.Test.YtbebkmajekhclaaGreatPure
namespace Go.Pu
open Go.Dn
open List (range)
open BitVec (toNat)
open Int (fdiv tmod)
set_option linter.unusedSimpArgs false
set_option linter.unusedVariables false
noncomputable section
variable {h:Host} {a v:Int} {f:Int->az Int} {m:bF} {i n:Nat} {p:aD} {R X α σ:Type} {l:bQ} {s:bQ×aw Port}
/- Plain laws of the partial operations and of loops. -/
theorem aj {n:Int}(h1: -9223372036854775808<=n:=by omega)(h2:n<=9223372036854775807:=by omega):ar n=n:=by simp only[ar,iA,IntKind.wrap,IntKind.bits,IntKind.signed];simp;omega
@[simp] theorem ab (a:α)(k:α->az R):aa (some a) k=k a:=rfl
@[simp] theorem ap5 (k:α->az R):aa none k=none:=rfl
@[simp] theorem GN (c:Bool)(x y:α)(k:α->az R):aa (cond c (some x) (some y)) k=k (cond c x y):=by cases c<;>rfl
theorem bB (c:Bool)(x y:α):cond c (some x) (some y)=some (cond c x y):=by cases c<;>rfl
theorem aL {k:az R}(h:n<=1073741824:=by omega):room n k=k:=by simp[room,h]
theorem Lv (xs:aw α)(i:Nat):idx xs (i:Int)=xs[i]?:=rfl
theorem bc {xs:aw α}(h:i<xs.length):idx xs (i:Int)=some xs[i]:=by rw[Lv];exact ak h
def upK (step:Nat->σ->(σ->az R)->az R)(fin:σ->az R)(N:Nat):Nat->Nat->σ->az R
 |0,_,s=>fin s
 |n+1,i,s=>step i s (λs'=>upK step fin N n (i+1) s')
theorem LD {T:(X->az R)->X->az R}(N:Nat)(e:σ->Nat->X)(step:Nat->σ->(σ->az R)->az R)(fin:σ->az R)(hs:∀i s nx,i<N->T nx (e s i)=step i s (λs'=>nx (e s' (i+1))))(hf:∀s nx,T nx (e s N)=fin s): ∀n i s,i<=N->N-i<n->bh T n (e s i)=upK step fin N (N-i) i s:=by
 intro n;induction n with
 |zero=>intro i s _ h;omega
 |succ n ih=>
  intro i s hi hn;rw[bh];rcases bT i N with gr|BN;rw[hs i s _ gr,show N-i=(N-(i+1))+1 by omega,upK];congr 1;funext s';exact ih (i+1) s' (by omega) (by omega);have:i=N:=by omega
  subst this;rw[hf,gZ,upK]
def yJ (step:α->σ->(σ->az R)->az R)(fin:σ->az R):aw α->σ->az R
 |[],s=>fin s
 |x::xs,s=>step x s (yJ step fin xs)
theorem CB {T:(X->az R)->X->az R}(xs:aw α)(e:σ->Nat->X)(step:α->σ->(σ->az R)->az R)(fin:σ->az R)(hs:∀i (h:i<xs.length) s nx,T nx (e s i)=step xs[i] s (λs'=>nx (e s' (i+1))))(hf:∀s nx,T nx (e s xs.length)=fin s): ∀n i s,i<=xs.length->xs.length-i<n->bh T n (e s i)=yJ step fin (xs.drop i) s:=by
 intro n;induction n with
 |zero=>intro i s _ h;omega
 |succ n ih=>
  intro i s hi hn;rw[bh];rcases bT i xs.length with gr|BN;rw[hs i gr s _,cv gr,yJ];congr 1;funext s';exact ih (i+1) s' (by omega) (by omega);have:i=xs.length:=by omega
  subst this;rw[hf,List.drop_length,yJ]
def TI:(t:CT)->t.D->Nat
 | .int _,_=>0
 | .bool,_=>0
 | .str,s=>s.length
 | .sl e,xs=>xs.length+(xs.map (TI e)).sum
 | .pair a b,x=>TI a x.1+TI b x.2
def cB (n:Nat):(t:CT)->t.D->Prop
 | .int _,_=>True
 | .bool,_=>True
 | .str,s=>s.length<=n
 | .sl e,xs=>xs.length<=n/\∀x∈xs,cB n e x
 | .pair a b,x=>cB n a x.1/\cB n b x.2
theorem Ge (f:α->Nat):∀(xs:aw α)(x:α),x∈xs->f x<=(xs.map f).sum
 |y::ys,x,h=>by rcases bZ.1 h with rfl|h;simp;have:=Ge f ys x h;simp;omega
theorem Mq:∀{t:CT}{x:t.D},TI t x<=n->cB n t x
 | .int _,_,_=>trivial
 | .bool,_,_=>trivial
 | .str,_,h=>h
 | .sl e,xs,h=>by simp only[TI]at h;exact⟨by omega,λx hx=>Mq (by have:=Ge (TI e) xs x hx;omega)⟩
 | .pair a b,x,h=>by simp only[TI]at h;exact⟨Mq (by omega),Mq (by omega)⟩
theorem cB.mono {m:Nat}(h:n<=m:=by omega):∀{t:CT}{x:t.D},cB n t x->cB m t x
 | .int _,_,_=>trivial
 | .bool,_,_=>trivial
 | .str,_,k=>bp k h
 | .sl _,_,k=>⟨bp k.1 h,λx hx=>cB.mono h (k.2 x hx)⟩
 | .pair _ _,_,k=>⟨cB.mono h k.1,cB.mono h k.2⟩
def ags:(t:CT)->t.D->Prop
 | .int k,n=>k.min<=n/\n<=k.max
 | .bool,_=>True
 | .str,s=>s.length<=9223372036854775807
 | .sl e,xs=>xs.length<=9223372036854775807/\∀x∈xs,ags e x
 | .pair a b,x=>ags a x.1/\ags b x.2
def lP (l n:Int):Int:=if n<=l then l-n else-1
def PL (f:α->Int->az Int)(k0:Int->Int->az R)(k1:Int->Int->Int->az R)(v0:aw α)(nx:Int×Int->az R)(x:Int×Int):az R:=
 cond (decide (x.2<((List.length v0:Int)))) (
  aa (idx v0 x.2) λx1=>
  aa (f x1 x.1) λr2=>
  cond (decide (r2<0)) (
   k1 r2 (-1) x.2) (
   nx (r2,ar (x.2+1)))) (
  k0 x.1 x.2)
noncomputable def XR (f:α->Int->az Int)(a0:aw α)(a1:Int):az Int:=
 cond (decide ((ar (a1-((List.length a0:Int))))<0)) (
  some (-1)) (
  bh (PL f (λy3 _=>some y3) (λ_ y6 _=>some y6) a0) fuel (ar (a1-((List.length a0:Int))),0))
theorem aeP {f:α->Int->az Int}{s:α->Nat}{a:aw α}{l:Int}(h0:0<=l)(h1:l<=1048576)(hm:a.length<=9223372036854775807)(hf:∀x∈a,∀l:Int,0<=l->l<=1048576->∃r,f x l=some r/\((s x:Int)<=l->r=l-s x)/\(¬(s x:Int)<=l->r<0)):XR f a l=some (lP l ((a.length+(a.map s).sum:Nat):Int)):=by
 unfold XR;have GS:=fb;rw[aj];rcases Int.lt_or_le (l-a.length) 0 with ayv|ag8;rw[au ayv];simp only[ah,lP];rw[nI];rw[cD];simp only[ae];have key:=CB (T:=PL f (λy3 _=>some y3) (λ_ y6 _=>some y6) a) a (λ(q:Int) i=>(q,(i:Int))) (λx q k=>aa (f x q) λr=>cond (decide (r<0)) (some (-1)) (k r)) (λq=>some q) (λi hi q nx=>by simp only[PL];rw[iH];simp only[ah,bc hi,ab];rw[aj];rfl) (λq nx=>by simp only[PL];rw[cD];rfl) fuel 0 (l-a.length) (by omega) (by omega);have e:((0:Nat):Int)=0:=rfl;rw[e,eG]at key;rw[key];have main:∀(b:aw α)(q:Int),0<=q->q<=1048576->(∀x∈b,x∈a)->yJ (λx q k=>aa (f x q) λr=>cond (decide (r<0)) (some (-1)) (k r)) (λq=>some q) b q=some (lP q ((b.map s).sum:Nat)):=by intro b;induction b with|nil=>intro q hq _ _;simp[yJ,lP,hq]|cons x b ih=>intro q hq hq2 hb;obtain⟨r,hr,hr1,Th⟩:=hf x (hb x (by simp)) q hq hq2;rw[yJ,hr,ab];by_cases hle:(s x:Int)<=q;have:=hr1 hle;subst this;rw[cD];simp only[ae];rw[ih _ (by omega) (by omega) (λy hy=>hb y (by simp[hy]))];simp only[lP,db,eI];congr 1;split<;>split<;>omega;rw[au (Th hle)];simp only[ah,lP,db,eI];rw[nI]
 rw[main a _ (by omega) (by omega) (λx h=>h)];simp only[lP];congr 1;split<;>split<;>omega
def Es (f:Int->az Int)(n:Nat):Prop:=∀l:Int,0<=l->l<=1048576->f l=some (lP l n)
theorem Es.nil:Es (λl=>some l) 0:=λl h0 _=>by simp[lP,h0]
theorem Es.len {m:Nat}(hn:n<=9223372036854775807){k:Int->az Int}(h:Es k m): Es (λl=>cond (decide (ar (l-(n:Int))<0)) (some (-1)) (k (ar (l-(n:Int))))) (n+m):=by intro l h0 h1;simp only;rw[aj];by_cases hl:l-(n:Int)<0;rw[au hl];simp only[ah,lP];rw[nI];rw[aq hl];simp only[ae];rw[h _ (by omega) (by omega)];simp only[lP];congr 1;split<;>split<;>omega
theorem Es.sub {k:Int->az Int}{m:Nat}(hf:Es f n)(h:Es k m):Es (λl=>aa (f l) λr=>cond (decide (r<0)) (some (-1)) (k r)) (n+m):=by
 intro l h0 h1;simp only;rw[hf l h0 h1,ab];by_cases hl:(n:Int)<=l;have e:lP l n=l-n:=by simp[lP,hl]
 rw[e,cD];simp only[ae];rw[h _ (by omega) (by omega)];simp only[lP];congr 1;split<;>split<;>omega;have e:lP l n= -1:=by simp[lP,hl]
 rw[e];simp only[lP];rw[nI];rfl
theorem Es.cast {m:Nat}(h:Es f n)(e:n=m):Es f m:=e▸h
theorem Es.list {f:α->Int->az Int}{s:α->Nat}{a:aw α}(hm:a.length<=9223372036854775807)(hf:∀x∈a,Es (f x) (s x)):Es (XR f a) (a.length+(a.map s).sum):=λ_ h0 h1=>aeP h0 h1 hm (λx hx l h0 h1=>⟨_,hf x hx l h0 h1,λh=>by simp[lP,h],λh=>by simp[lP,h]⟩)
theorem Es.flat (hn:n<=9223372036854775807):Es (λl=>cond (decide (ar (l-(n:Int))<0)) (some (-1)) (some (ar (l-(n:Int))))) n:=(Es.len (n:=n) hn Es.nil).cast (by omega)
theorem Es.use (hf:Es f n){l:Int}(h0:0<=l)(h1:l<=1048576){k:Int->az Bool}(hk:(n:Int)<=l->k (l-n)=some true): (aa (f l) λr=>cond (decide (r<0)) (some true) (k r))=some true:=by
 rw[hf l h0 h1,ab];by_cases hl:(n:Int)<=l;have e:lP l n=l-n:=by simp[lP,hl]
 rw[e,cD];exact hk hl;have e:lP l n= -1:=by simp[lP,hl]
 rw[e];rfl
theorem KV {T:(Int->az R)->Int->az R}{fin hit:az R}(p:α->Bool)(a:aw α)(h:a.length<=1000000000000)(hs:∀i (hi:i<a.length) nx,T nx (i:Int)=cond (p a[i]) hit (nx ((i+1:Nat):Int)))(hf:∀nx,T nx (a.length:Int)=fin): bh T fuel 0=cond (a.any p) hit fin:=by
 have GS:=fb;have key:∀n i,i<=a.length->a.length-i<n->bh T n (i:Int)=cond ((a.drop i).any p) hit fin:=by
  intro n;induction n with
  |zero=>intro i _ h;omega
  |succ n ih=>
   intro i hi hn;rw[bh];rcases bT i a.length with gr|BN;rw[hs i gr,cv gr,List.any_cons];cases hq:p a[i]with|true=>rfl|false=>exact ih (i+1) (by omega) (by omega)
   have:i=a.length:=by omega
   subst this;rw[hf,List.drop_length];rfl
 exact key fuel 0 (by omega) (by omega)
theorem gO {T:(Int->az R)->Int->az R}{fin hit:az R}(p:Nat->Bool)(N:Nat)(h:N<=1000000000000)(hs:∀i nx,i<N->T nx (i:Int)=cond (!(p i)) hit (nx ((i+1:Nat):Int)))(hf:∀nx,T nx (N:Int)=fin): bh T fuel 0=cond ((range N).all p) fin hit:=by
 have GS:=fb;have key:∀n i,i<=N->N-i<n->bh T n (i:Int)=cond ((List.range' i (N-i)).all p) fin hit:=by
  intro n;induction n with
  |zero=>intro i _ h;omega
  |succ n ih=>
   intro i hi hn;rw[bh];rcases bT i N with gr|BN;rw[hs i _ gr,show N-i=(N-(i+1))+1 by omega,List.range'_succ,bX];cases hq:p i with|false=>rfl|true=>exact ih (i+1) (by omega) (by omega)
   have:i=N:=by omega
   subst this;rw[hf,gZ];rfl
 have:=key fuel 0 (by omega) (by omega);rw[Nat.sub_zero,<-List.range_eq_range']at this;exact this
theorem wS {T:(Int->az R)->Int->az R}{fin hit:az R}(p:α->Bool)(a:aw α)(h:a.length<=1000000000000)(hs:∀i (hi:i<a.length) nx,T nx (i:Int)=cond (!(p a[i])) hit (nx ((i+1:Nat):Int)))(hf:∀nx,T nx (a.length:Int)=fin): bh T fuel 0=cond (a.all p) fin hit:=by
 have:=KV (T:=T) (fin:=fin) (hit:=hit) (λx=> !(p x)) a h hs hf;rw[this];have e:a.any (λx=> !(p x))= !(a.all p):=by rw[cG];simp
 rw[e];cases a.all p<;>rfl
theorem Ir {T:(X->az R)->X->az R}{fin hit:az R}(e:Nat->X)(p:Nat->Bool)(N:Nat)(h:N<=1000000000000)(hs:∀i nx,i<N->(∀j,j<i->p j=true)->T nx (e i)=cond (!(p i)) hit (nx (e (i+1))))(hf:(∀j,j<N->p j=true)->∀nx,T nx (e N)=fin): bh T fuel (e 0)=cond ((range N).all p) fin hit:=by
 have GS:=fb;have key:∀n i,i<=N->N-i<n->(∀j,j<i->p j=true)->bh T n (e i)=cond ((List.range' i (N-i)).all p) fin hit:=by
  intro n;induction n with
  |zero=>intro i _ h;omega
  |succ n ih=>
   intro i hi hn hp;rw[bh];rcases bT i N with gr|BN;rw[hs i _ gr hp,show N-i=(N-(i+1))+1 by omega,List.range'_succ,bX];cases hq:p i with|false=>rfl|true=>refine ih (i+1) (by omega) (by omega) λj hj=>?_;by_cases hji:j=i;rw[hji];exact hq;exact hp j (by omega)
   have:i=N:=by omega
   subst this;rw[hf hp,gZ];rfl
 have:=key fuel 0 (by omega) (by omega) (λj hj=>absurd hj (by omega));rw[Nat.sub_zero,<-List.range_eq_range']at this;exact this
theorem Cv {T:(Int->az R)->Int->az R}{fin:az R}{hit:Int->az R}(p:α->Bool)(a:aw α)(h:a.length<=1000000000000)(hs:∀i (hi:i<a.length) nx,T nx (i:Int)=cond (p a[i]) (hit (i:Int)) (nx ((i+1:Nat):Int)))(hf:∀nx,T nx (a.length:Int)=fin): bh T fuel 0=(match a.findIdx? p with|some i=>hit (i:Int)|none=>fin):=by
 have GS:=fb;have key:∀n i,i<=a.length->a.length-i<n->bh T n (i:Int)=(match (a.drop i).findIdx? p with|some j=>hit ((i+j:Nat):Int)|none=>fin):=by
  intro n;induction n with
  |zero=>intro i _ h;omega
  |succ n ih=>
   intro i hi hn;rw[bh];rcases bT i a.length with gr|BN;rw[hs i gr,cv gr,List.findIdx?_cons];cases hq:p a[i]with|true=>rfl|false=>have:=ih (i+1) (by omega) (by omega);simp only[ae];refine this.trans ?_;cases (a.drop (i+1)).findIdx? p with|none=>rfl|some j=>simp only[dD,bn,cJ];congr 2;omega
   have:i=a.length:=by omega
   subst this;rw[hf,List.drop_length];rfl
 have:=key fuel 0 (by omega) (by omega);refine this.trans ?_;rw[eG];cases a.findIdx? p with|none=>rfl|some j=>simp only[cO]
theorem cF (a b:Bool):(bif a then b else false)=(a&&b):=by cases a<;>rfl
theorem cT (a b:Bool):(bif a then true else b)=(a||b):=by cases a<;>rfl
theorem cN (a b:Bool):(bif a then false else b)=(!a&&b):=by cases a<;>rfl
def EK (g:α->σ->Except (az R) σ)(fin:σ->az R):aw α->σ->az R
 |[],s=>fin s
 |x::xs,s=>match g x s with| .error r=>r| .ok s'=>EK g fin xs s'
theorem sV {T:(X->az R)->X->az R}(xs:aw α)(e:σ->Nat->X)(Inv:Nat->σ->Prop)(g:α->σ->Except (az R) σ)(fin:σ->az R)(h:xs.length<=1000000000000)(hs:∀i (hi:i<xs.length) s nx,Inv i s->T nx (e s i)=match g xs[i] s with| .error r=>r| .ok s'=>nx (e s' (i+1)))(hn:∀i (hi:i<xs.length) s s',Inv i s->g xs[i] s=.ok s'->Inv (i+1) s')(hf:∀s nx,Inv xs.length s->T nx (e s xs.length)=fin s)(s:σ)(h0:Inv 0 s): bh T fuel (e s 0)=EK g fin xs s:=by
 have key:∀n i s,i<=xs.length->xs.length-i<n->Inv i s->bh T n (e s i)=EK g fin (xs.drop i) s:=by
  intro n;induction n with
  |zero=>intro i s _ h;omega
  |succ n ih=>
   intro i s hi Fb hI;rw[bh];rcases bT i xs.length with gr|BN;rw[hs i gr s _ hI,cv gr,EK];cases hg:g xs[i] s with|error r=>rfl|ok s'=>exact ih (i+1) s' (by omega) (by omega) (hn i gr s s' hI hg)
   have:i=xs.length:=by omega
   subst this;rw[hf s _ hI,List.drop_length,EK]
 have GS:=fb;have:=key fuel 0 s (by omega) (by omega) h0;rwa[eG]at this
theorem Gq (f:σ->α->σ)(fin:σ->az R):∀(xs:aw α)(s:σ),EK (λx s=> .ok (f s x)) fin xs s=fin (xs.foldl f s)
 |[],_=>rfl
 |x::xs,s=>by rw[EK];exact Gq f fin xs (f s x)
theorem cK {T:(X->az R)->X->az R}{fin:az R}(e:Nat->X)(N:Nat)(h:N<=1000000000000)(hs:∀i nx,i<N->T nx (e i)=nx (e (i+1)))(hf:∀nx,T nx (e N)=fin):bh T fuel (e 0)=fin:=by rw[Ir (hit:=fin) (fin:=fin) e (λ_=>true) N h (λi nx hi _=>by rw[hs i nx hi];rfl) (λ_ nx=>hf nx)];cases (range N).all (λ_=>true)<;>rfl
theorem gq {l:aw α}{k:az R}(h:l.length<=10^9:=by omega):room (List.length ([]:aw α)+l.length) k=k:=aL (by simp only[da];omega)
def cY (a lo hi:Int):Bool:=decide (lo<=a)&&decide (a<=hi)
theorem aX {lo hi:Int}:cY a lo hi=true↔lo<=a/\a<=hi:=by simp[cY]
theorem cn (a b c:Int):aH a b c=some (cY a b c):=by simp only[aH,bB,ab,cY];cases h:decide (a>=b)<;>rfl
theorem dW (a b c:Int):aJ a b c=some (cY a b c):=cn a b c
theorem bN {l:aw α}(h:i<l.length)(d:α):l.getD i d=l[i]:=by rw[bu,ak h];rfl
def JZ (l:bQ)(i:Nat):Bool:=cY (l.getD i 0) 0 4095&& !(decide (0<i)&&decide (l.getD i 0<=l.getD (i-1) 0))
def dG (f:Filter):Bool:=(range f.2.2.length).all (JZ f.2.2)&&(cY f.1 0 281474976710654&&decide ((f.2.2.length:Int)<=8))
theorem nr (f:Filter)(h:f.2.2.length<=10^9:=by omega):gu f=some (dG f):=by
 unfold gu;rw[gO (hit:=some false) (fin:=some (cY f.1 0 281474976710654&&decide ((f.2.2.length:Int)<=8))) (JZ f.2.2) f.2.2.length (by omega) (λi nx hi=>?hs) (λnx=>?hf)]
 case hs=>
  simp only[ua]
  rw[iH,bc hi,aj (n:=(i:Int)+1)]
  simp only[ah,ab,cn,JZ,bN hi]
  by_cases h0:0<i
  ·have e:ar ((i:Int)-1)=((i-1:Nat):Int):=by rw[aj];omega
   have hp:i-1<f.2.2.length:=by omega
   rw[e,bc hp,au (show(i:Int)>0 by omega),au h0,bN hp]
   simp only[ah,ab,aZ]
   cases cY f.2.2[i] 0 4095<;>cases decide (f.2.2[i]<=f.2.2[i-1])<;>rfl
  ·rw[aq (show¬(i:Int)>0 by omega),aq h0]
   simp only[ae,eF]
   cases cY f.2.2[i] 0 4095<;>rfl
 case hf=>
  simp only[ua]
  rw[cD]
  simp only[ae,cn,ab,GN,bB]
  cases cY f.1 0 281474976710654<;>rfl
 unfold dG;cases (range f.2.2.length).all (JZ f.2.2)<;>rfl
theorem pC (f:Filter)(h:f.2.2.length<=10^9):hH f=some (dG f):=by
 unfold hH;rw[gO (hit:=some false) (fin:=some (cY f.1 0 281474976710654&&decide ((f.2.2.length:Int)<=8))) (JZ f.2.2) f.2.2.length (by omega) (λi nx hi=>?hs) (λnx=>?hf)]
 case hs=>
  simp only[tC]
  rw[iH,bc hi,aj (n:=(i:Int)+1)]
  simp only[ah,ab,dW,JZ,bN hi]
  by_cases h0:0<i
  ·have e:ar ((i:Int)-1)=((i-1:Nat):Int):=by rw[aj];omega
   have hp:i-1<f.2.2.length:=by omega
   rw[e,bc hp,au (show(i:Int)>0 by omega),au h0,bN hp]
   simp only[ah,ab,aZ,ge_iff_le]
   cases cY f.2.2[i] 0 4095<;>cases decide (f.2.2[i]<=f.2.2[i-1])<;>rfl
  ·rw[aq (show¬(i:Int)>0 by omega),aq h0]
   simp only[ae,eF]
   cases cY f.2.2[i] 0 4095<;>rfl
 case hf=>
  simp only[tC]
  rw[cD]
  simp only[ae,dW,ab,GN,bB]
  cases cY f.1 0 281474976710654<;>rfl
 unfold dG;cases (range f.2.2.length).all (JZ f.2.2)<;>rfl
def Df (r:kL):Bool:=(lv r).getD false
theorem So (r:kL):lv r=some (Df r):=by
 have:∃b,lv r=some b:=by simp only[lv,cn,ab,bB];exact⟨_,rfl⟩
 obtain⟨b,hb⟩:=this;simp[Df,hb]
theorem alg (r:kL):D9 r=some (Df r):=So r
theorem aaX {r:kL}(h:Df r=true):r.2.2.2.2.2.2.2.1=0\/r.2.2.2.2.2.2.2.2=0:=by
 by_cases h0:r.2.2.2.2.2.2.2.1=0;exact .inl h0;by_cases h1:r.2.2.2.2.2.2.2.2=0;exact .inr h1;exfalso;have e0:(r.2.2.2.2.2.2.2.1==0)=false:=by simp[h0]
 have e1:(r.2.2.2.2.2.2.2.2==0)=false:=by simp[h1]
 revert h;unfold Df;simp only[lv,cn,ab,bB,e0,e1,ae,fY];have z:∀c:Bool,(bif c then false else false)=false:=by intro c;cases c<;>rfl
 simp only[z];intro h;cases h
def za (l:aw kL):Bool:=l.all Df&&decide ((l.length:Int)<=12)
theorem I3 (l:aw kL)(h:l.length<=10^9):yl l=some (za l):=by
 unfold yl;rw[wS (hit:=some false) (fin:=some (decide ((l.length:Int)<=12))) Df l (by omega) (λi hi nx=>?hs) (λnx=>?hf)]
 case hs=>
  simp only[wg]
  rw[iH,bc hi,aj]
  simp only[ah,ab,So];rfl
 case hf=>
  simp only[wg]
  rw[cD];rfl
 unfold za;cases l.all Df<;>rfl
theorem UJ (l:aw kL)(h:l.length<=10^9):BZ l=some (za l):=by rw[<-I3 l h];rfl
theorem axQ (x:Int):((BitVec.ofInt 64 x&&&BitVec.ofInt 64 7).toNat:Int)=x%8:=by
 have h7:(BitVec.ofInt 64 7).toNat=2^3-1:=by decide
 rw[BitVec.toNat_and,h7,Nat.and_two_pow_sub_one_eq_mod];simp only[BitVec.toNat_ofInt];omega
theorem ash (x:Int):((fQ x&&&fQ 7).toNat:Int)=x%8:=axQ x
theorem aog (x:Int):kj x 8=some (x%8):=by unfold kj;rw[nI,Int.tmod_eq_emod];split;rw[cD];simp;rw[au (by simp;omega),aj (by simp;omega) (by simp;omega)];simp
def Jt (f:jk):Int:=(f.1%8+f.2.1%8+f.2.2.1%8+f.2.2.2.1%8+f.2.2.2.2%8)%8
theorem Zv (f:jk):0<=Jt f/\Jt f<8:=by unfold Jt;omega
theorem amV {n:Int}(h:0<=n:=by omega):tmod n 8=n%8:=ed h
theorem amc (f:jk):Ao f=some (Jt f):=by
 unfold Ao;generalize hL:[f.1,f.2.1,f.2.2.1,f.2.2.2.1,f.2.2.2.2]=L;have hlen:L.length=5:=by rw[<-hL];rfl
 have GS:=fb;have key:=CB (R:=Int) (T:=oV (λ(y2:Int) (y3:Int)=>if 8=0 then none else(some (tmod y2 8))) L) L (λ(s:Int) i=>(s,(i:Int))) (λx s k=>k (ar (s+ar (x%8)))) (λs=>some (tmod s 8)) (λi hi s nx=>by simp only[oV];rw[iH,bc hi,aj (n:=(i:Int)+1)];simp only[ah,ab];rw[ash L[i]];rfl) (λs nx=>by simp only[oV];rw[cD];rfl) fuel 0 0 (by omega) (by omega);refine key.trans ?_;rw[<-hL];simp only[eG,yJ];rw[aj (n:=f.1%8),aj (n:=f.2.1%8),aj (n:=f.2.2.1%8),aj (n:=f.2.2.2.1%8),aj (n:=f.2.2.2.2%8)];rw[aj (n:=0+f.1%8),aj (n:=0+f.1%8+_),aj (n:=0+f.1%8+_+_),aj (n:=0+f.1%8+_+_+_),aj (n:=0+f.1%8+_+_+_+_)];rw[amV,Jt,Int.zero_add]
theorem ala (f:jk):zR f=some (Jt f):=by
 unfold zR;generalize hL:[f.1,f.2.1,f.2.2.1,f.2.2.2.1,f.2.2.2.2]=L;have hlen:L.length=5:=by rw[<-hL];rfl
 have GS:=fb;have key:=CB (R:=Int) (T:=oz (λ(y2:Int) (y3:Int)=>if 8=0 then none else(some (tmod y2 8))) L (L.length:Int)) L (λ(s:Int) i=>(s,(i:Int))) (λx s k=>k (ar (s+(x%8)))) (λs=>some (tmod s 8)) (λi hi s nx=>by simp only[oz];rw[iH,bc hi,aj (n:=(i:Int)+1)];simp only[ah,ab,aog];rfl) (λs nx=>by simp only[oz];rw[cD];rfl) fuel 0 0 (by omega) (by omega);refine key.trans ?_;rw[<-hL];simp only[eG,yJ];rw[aj (n:=0+f.1%8),aj (n:=0+f.1%8+_),aj (n:=0+f.1%8+_+_),aj (n:=0+f.1%8+_+_+_),aj (n:=0+f.1%8+_+_+_+_)];rw[amV,Jt,Int.zero_add]
def gJ (t:aw Slot)(i:Nat):Slot:=t.getD i (0,(0,0,0,0,0),0)
theorem ze {t:aw Slot}(h:i<t.length):gJ t i=t[i]:=bN h _
def mm (f:jk)(k:Nat):Nat:=((Jt f).toNat+k)%8
theorem Mx (f:jk)(k:Nat):mm f k<8:=Nat.mod_lt _ (by omega)
theorem abF (f:jk)(k:Nat)(h:k<8):tmod (ar (Jt f+(k:Int))) 8=(mm f k:Int):=by have:=Zv f;rw[aj,amV,mm];omega
def qM (s:Slot)(f:jk):Bool:=(s.1==1)&&decide (s.2.1=f)
theorem Ld (p q:jk):((p.1==q.1)&&((p.2.1==q.2.1)&&((p.2.2.1==q.2.2.1)&&((p.2.2.2.1==q.2.2.2.1)&&((p.2.2.2.2==q.2.2.2.2)&&true)))))=decide (p=q):=by obtain⟨a,b,c,d,e⟩:=p;obtain⟨a',b',c',d',e'⟩:=q;rw[cG];simp
def walk (t:aw Slot)(f:jk):Nat->Nat->Int
 |0,_=> -1
 |n+1,k=>if(gJ t (mm f k)).1=0 then-1 else if qM (gJ t (mm f k)) f then(mm f k:Int) else walk t f n (k+1)
theorem abi (t:aw Slot)(f:jk)(ht:t.length=8):yt t f=some (walk t f 8 0):=by
 unfold yt;have GS:=fb
 have key:=LD (R:=Int) (T:=qK (λ(y6:Int)=>some (-1)) (λ(y7:Int) (y8:Int)=>some y7) 0 t f) 8 (λ(_:Unit) i=>(i:Int))
  (λi s k=>if(gJ t (mm f i)).1=0 then some (-1) else if qM (gJ t (mm f i)) f then some (mm f i:Int) else k s) (λ_=>some (-1))
  (λi s nx hi=>by
   have hw:mm f i<t.length:=by have:=Mx f i;omega
   simp only[qK,amc];rw[iH,aj (n:=(i:Int)+1)];simp only[ah,ab,abF f i hi,bc hw,ze hw,Ld,qM,bB,ab];rw[nI];by_cases h0:t[mm f i].1=0;simp[h0];have e0:(t[mm f i].1==0)=false:=by simp[h0]
   rw[e0,aK h0];cases (t[mm f i].1==1)<;>cases decide (t[mm f i].2.1=f)<;>rfl)
  (λs nx=>by simp only[qK];rfl)
  fuel 0 () (by omega) (by omega)
 refine key.trans ?_;have main:∀n i,upK (R:=Int) (λi (s:Unit) k=>if(gJ t (mm f i)).1=0 then some (-1) else if qM (gJ t (mm f i)) f then some (mm f i:Int) else k s) (λ_=>some (-1)) 8 n i ()=some (walk t f n i):=by intro n;induction n with|zero=>intro i;rfl|succ n ih=>intro i;rw[upK,walk];split;rfl;split;rfl;exact ih (i+1)
 exact main 8 0
def Bq (f:jk):aw Slot->Int->Int
 |[],_=> -1
 |s::r,i=>if qM s f then i else Bq f r (i+1)
theorem ZO (t:aw Slot)(f:jk)(h:t.length<=10^9):AQ t f=some (Bq f t 0):=by
 unfold AQ;have GS:=fb;have key:∀n i,i<=t.length->t.length-i<n->bh (xI (λ(y3:Int)=>some (-1)) (λ(y4:Int) (y5:Int)=>some y4) 0 t ((List.length t:Int)) f) n (i:Int)=some (Bq f (t.drop i) i):=by
  intro n;induction n with
  |zero=>intro i _ h;omega
  |succ n ih=>
   intro i hi hn;rw[bh];simp only[xI];rcases bT i t.length with gr|BN;rw[iH,bc gr,cv gr,Bq,aj];simp only[ah,ab,Ld,bB];have e:(bif t[i].1==1 then decide (t[i].2.1=f) else false)=qM t[i] f:=by unfold qM;cases (t[i].1==1)<;>rfl
   rw[e];cases qM t[i] f with|true=>rfl|false=>exact ih (i+1) (by omega) (by omega)
   have:i=t.length:=by omega
   subst this;rw[cD,List.drop_length];rfl
 exact key fuel 0 (by omega) (by omega)
theorem anV (f:jk):F8 f=some ((range 8).map λk=>(mm f k:Int)):=by unfold F8;have GS:=fb;have key:=LD (R:=bQ) (T:=vn (λ(y2:bQ) (y3:Int)=>some y2) f) 8 (λ(_:Unit) i=>((range i).map (λk=>(mm f k:Int)),(i:Int))) (λ_ s k=>k s) (λ_=>some ((range 8).map λk=>(mm f k:Int))) (λi s nx hi=>by simp only[vn,ala];rw[iH,aj (n:=(i:Int)+1)];simp only[ah,ab,abF f i hi];rw[nI,aL (by simp;omega),gz,eH];rfl) (λs nx=>by simp only[vn];rfl) fuel 0 () (by omega) (by omega);exact key
def clear (t:aw Slot)(f:jk)(i:Nat):Nat->Nat->Bool
 |0,_=>true
 |n+1,k=>if mm f k=i then true else if(gJ t (mm f k)).1=0 then false else clear t f i n (k+1)
theorem ahe (k0:Int->az R)(k1:Bool->Int->az R)(hit fin:az R)(h0:∀x,k0 x=fin)(h1:∀x,k1 false x=hit)(v2:Bool)(i:Nat)(SX:aw Slot)(v13 v14:Int)(t:aw Slot)(f:jk)(ht:t.length=8): bh (lC k0 k1 v2 (i:Int) SX v13 v14 ((range 8).map λk=>(mm f k:Int)) (((range 8).map λk=>(mm f k:Int)).length:Int) t) fuel 0=cond (clear t f i 8 0) fin hit:=by
 have GS:=fb;have hl:((range 8).map λk=>(mm f k:Int)).length=8:=by simp
 have key:=LD (R:=R) (T:=lC k0 k1 v2 (i:Int) SX v13 v14 ((range 8).map λk=>(mm f k:Int)) (((range 8).map λk=>(mm f k:Int)).length:Int) t) 8 (λ(_:Unit) i=>(i:Int))
  (λk s c=>if mm f k=i then fin else if(gJ t (mm f k)).1=0 then hit else c s) (λ_=>fin)
  (λk s nx hk=>by
   have hw:mm f k<t.length:=by have:=Mx f k;omega
   simp only[lC];rw[iH,bc (show k<((range 8).map λk=>(mm f k:Int)).length by omega),aj (n:=(k:Int)+1)];simp only[ah,ab,List.getElem_map,List.getElem_range,bc hw,ze hw,h0,h1];by_cases e1:mm f k=i;subst e1;simp;have:((mm f k:Int)==(i:Int))=false:=by simp;omega
   rw[this,aK e1];by_cases e2:t[mm f k].1=0;simp[e2];have:(t[mm f k].1==0)=false:=by simp[e2]
   rw[this,aK e2];rfl)
  (λs nx=>by simp only[lC];rw[cD];exact h0 _)
  fuel 0 () (by omega) (by omega)
 refine key.trans ?_;have main:∀n k,upK (R:=R) (λk (s:Unit) c=>if mm f k=i then fin else if(gJ t (mm f k)).1=0 then hit else c s) (λ_=>fin) 8 n k ()=cond (clear t f i n k) fin hit:=by intro n;induction n with|zero=>intro k;rfl|succ n ih=>intro k;rw[upK,clear];split;rfl;split;rfl;exact ih (k+1)
 exact main 8 0
def YM:jk:=(0,0,0,0,0)
theorem YN (p:jk):((p.1==0)&&((p.2.1==0)&&((p.2.2.1==0)&&((p.2.2.2.1==0)&&((p.2.2.2.2==0)&&true)))))=decide (p=YM):=Ld p YM
def Vo (s:Slot):Bool:=cY s.1 0 2&&cY s.2.2 0 3&&((s.1==1)||(s.2.2==0)&&decide (s.2.1=YM))
def oM (t:aw Slot)(i:Nat):Bool:=Vo (gJ t i)&&(!((gJ t i).1==1)||(walk t (gJ t i).2.1 8 0==(i:Int)))
def wX (t:aw Slot)(i:Nat):Bool:=Vo (gJ t i)&&(!((gJ t i).1==1)||(Bq (gJ t i).2.1 t 0==(i:Int))&&clear t (gJ t i).2.1 i 8 0)
def rl (t:aw Slot):Bool:=(t.length==8)&&(range 8).all (oM t)
theorem Vw (t:aw Slot):yo t=some (rl t):=by
 unfold yo rl;by_cases ht:t.length=8
 ·have e:((t.length:Int) !=8)=false:=by rw[ht];rfl
  have e2:(t.length==8)=true:=by rw[ht];rfl
  rw[e,e2];simp only[ae,aZ];rw[gO (hit:=some false) (fin:=some true) (oM t) 8 (by omega) (λi nx hi=>?hs) (λnx=>?hf)]
  case hs=>
   have hl:i<t.length:=by omega
   simp only[wj]
   rw[iH,bc hl,aj]
   simp only[ah,ab,cn,bB,YN,abi t _ ht,oM,ze hl,Vo,bne]
   cases cY t[i].1 0 2<;>cases cY t[i].2.2 0 3<;>cases (t[i].1==1)<;>cases (t[i].2.2==0)<;>cases decide (t[i].2.1=YM)<;>first|rfl|(cases (walk t t[i].2.1 8 0==(i:Int))<;>rfl)
  case hf=>
   simp only[wj]
   rw[cD];rfl
  cases (range 8).all (oM t)<;>rfl
 have e:((t.length:Int) !=8)=true:=by simp;omega
 have e2:(t.length==8)=false:=by simp[ht]
 rw[e,e2];rfl
theorem adv (t:aw Slot):tN t=some ((t.length==8)&&(range 8).all (wX t)):=by
 unfold tN;by_cases ht:t.length=8
 ·have e:((t.length:Int) !=8)=false:=by rw[ht];rfl
  have e2:(t.length==8)=true:=by rw[ht];rfl
  rw[e,e2];simp only[ae,aZ];rw[gO (hit:=some false) (fin:=some true) (wX t) 8 (by omega) (λi nx hi=>?hs) (λnx=>?hf)]
  case hs=>
   have hl:i<t.length:=by omega
   simp only[vS]
   rw[iH,bc hl,aj]
   simp only[ah,ab,dW,bB,YN,ZO t _ (show t.length<=10^9 by omega),anV,wX,ze hl,Vo,bne]
   rw[ahe (λ_=>nx ((i:Int)+1)) (λ(y:Bool) (_:Int)=>some y) (some false) (nx ((i:Int)+1)) (λ_=>rfl) (λ_=>rfl) _ _ _ _ _ _ _ ht]
   cases cY t[i].1 0 2<;>cases cY t[i].2.2 0 3<;>cases (t[i].1==1)<;>cases (t[i].2.2==0)<;>cases decide (t[i].2.1=YM)<;>first|rfl|(cases (Bq t[i].2.1 t 0==(i:Int))<;>first|rfl|(cases clear t t[i].2.1 i 8 0<;>rfl))
  case hf=>
   simp only[vS]
   rw[cD];rfl
  cases (range 8).all (wX t)<;>rfl
 have e:((t.length:Int) !=8)=true:=by simp;omega
 have e2:(t.length==8)=false:=by simp[ht]
 rw[e,e2];rfl
theorem VI (t:aw Slot)(f:jk)(i:Nat):∀n k,walk t f n k=(i:Int)->qM (gJ t i) f=true/\clear t f i n k=true/\∃j,j<n/\mm f (k+j)=i
 |0,k,h=>by unfold walk at h;omega
 |n+1,k,h=>by
  unfold walk at h;unfold clear;by_cases h0:(gJ t (mm f k)).1=0;rw[aI h0]at h;omega;rw[aK h0]at h;by_cases h1:qM (gJ t (mm f k)) f=true;rw[aI h1]at h;have:mm f k=i:=by omega
  subst this;exact⟨h1,by simp,0,by omega,rfl⟩;rw[aK h1]at h;obtain⟨a,b,j,hj,e⟩:=VI t f i n (k+1) h;refine⟨a,?_,j+1,by omega,by rw[<-e];congr 1;omega⟩;rw[aK h0,b];split<;>rfl
theorem agp (t:aw Slot)(f:jk)(i:Nat)(hu:qM (gJ t i) f=true)(ape:∀j,j<8->qM (gJ t j) f=true->j=i):∀n k,clear t f i n k=true->(∃j,j<n/\mm f (k+j)=i)->walk t f n k=(i:Int)
 |0,k,_,h=>by obtain⟨j,hj,_⟩:=h;omega
 |n+1,k,hc,⟨j,hj,e⟩=>by unfold walk;unfold clear at hc;by_cases h1:mm f k=i;rw[h1,aK,aI hu];intro h0;unfold qM at hu;rw[h0]at hu;simp at hu;rw[aK h1]at hc;by_cases h0:(gJ t (mm f k)).1=0;rw[aI h0]at hc;cases hc;rw[aK h0]at hc;rw[aK h0,aK (λWR=>h1 (ape _ (Mx f k) WR))];refine agp t f i hu ape n (k+1) hc ?_;cases j with|zero=>exact absurd e h1|succ j=>exact⟨j,by omega,by rw[<-e];congr 1;omega⟩
theorem aoN (f:jk)(i:Nat)(hi:i<8):∃j,j<8/\mm f (0+j)=i:=by have:=Zv f;refine⟨(i+8-(Jt f).toNat)%8,by omega,?_⟩;unfold mm;omega
theorem Ht (f:jk):∀(t:aw Slot)(m:Nat),(∃j,j<t.length/\qM (gJ t j) f=true)->∃j,j<t.length/\qM (gJ t j) f=true/\Bq f t m=((m+j:Nat):Int)
 |[],_,h=>by obtain⟨j,hj,_⟩:=h;simp at hj
 |s::r,m,⟨j,hj,e⟩=>by
  unfold Bq;by_cases hs:qM s f=true;rw[aI hs];exact⟨0,by simp,by simpa[gJ]using hs,by simp⟩;rw[aK hs];cases j with
  |zero=>exact absurd (by simpa[gJ]using e) hs
  |succ j=>
   obtain⟨j',h1,h2,h3⟩:=Ht f r (m+1) ⟨j,by simpa using hj,by simpa[gJ]using e⟩;refine⟨j'+1,by simpa using h1,by simpa[gJ]using h2,?_⟩;have:((m:Int)+1)=((m+1:Nat):Int):=by omega
   rw[this,h3];congr 1;omega
theorem aeo (t:aw Slot)(ht:t.length=8):(range 8).all (wX t)=(range 8).all (oM t):=by
 rw[cG,aF,aF];simp only[bE];constructor;intro h i hi;have hI:=h i hi;unfold wX at hI;unfold oM;simp only[af,dk,aM,ba]at hI⊢;refine⟨hI.1,?_⟩;rcases hI.2 with h1|⟨h1,h2⟩;exact .inl h1;by_cases hu:((gJ t i).1==1)=true;right;have WR:qM (gJ t i) (gJ t i).2.1=true:=by unfold qM;rw[hu];simp
 refine agp t _ i WR (λj hj huj=>?_) 8 0 h2 (aoN _ i hi);have hJ:=h j hj;unfold wX at hJ;unfold qM at huj;simp only[af,aG]at huj;simp only[af,dk,aM,ba]at hJ;rcases hJ.2 with h3|⟨h3,_⟩;rw[huj.1]at h3;cases h3;rw[huj.2]at h3;omega;exact .inl (by simpa using hu);intro h i hi;have hI:=h i hi;unfold oM at hI;unfold wX;simp only[af,dk,aM,ba]at hI⊢;refine⟨hI.1,?_⟩;rcases hI.2 with h1|h1;exact .inl h1;right;obtain⟨hu,hc,_⟩:=VI t _ i 8 0 h1;refine⟨?_,hc⟩;obtain⟨j,hj,huj,e⟩:=Ht (gJ t i).2.1 t 0 ⟨i,by omega,hu⟩;have hJ:=h j (by omega);unfold oM at hJ;unfold qM at huj;simp only[af,aG]at huj;simp only[af,dk,aM,ba]at hJ;rcases hJ.2 with h3|h3;rw[huj.1]at h3;cases h3;rw[huj.2,h1]at h3;have e':Bq (gJ t i).2.1 t 0=((0+j:Nat):Int):=e;rw[e'];omega
theorem UL (t:aw Slot):tN t=some (rl t):=by
 rw[adv,rl];by_cases ht:t.length=8;rw[aeo t ht];have e2:(t.length==8)=false:=by simp[ht]
 rw[e2];rfl
def afX (n:Int):Bool:=(n==1)||(n==2)||(n==4)||(n==8)||(n==16)
theorem adF (n:Int):Ci n=some (afX n):=by simp only[Ci,bB,ab,afX];cases (n==1)<;>cases (n==2)<;>cases (n==4)<;>cases (n==8)<;>rfl
def sj (s:oe)(q:Int):Bool:=cY q 1 4&&((s.1.length:Int)==16)&&afX s.2.length&&s.2.all λx=>cY x 0 (q-1)
theorem KB (s:oe)(q:Int)(h:s.2.length<=10^9):vC s q=some (sj s q):=by
 unfold vC sj;simp only[cn,adF,ab,bB,bne];by_cases hq:cY q 1 4=true
 ·rw[wS (hit:=some false) (fin:=some true) (λx=>cY x 0 (q-1)) s.2 (by omega) (λi hi nx=>?hs) (λnx=>?hf)]
  case hs=>
   rw[aX]at hq
   simp only[um]
   rw[iH,bc hi,aj (n:=(i:Int)+1),aj (n:=q-1)]
   simp only[ah,ab,cn];rfl
  case hf=>
   simp only[um]
   rw[cD];rfl
  rw[hq];cases ((s.1.length:Int)==16)<;>cases afX s.2.length<;>cases s.2.all (λx=>cY x 0 (q-1))<;>rfl
 have hq':cY q 1 4=false:=by simpa using hq
 rw[hq'];rfl
theorem Rh (s:oe)(q:Int)(h:s.2.length<=10^9):zX s q=some (sj s q):=by rw[<-KB s q h];rfl
def eC (s:dA)(q:Int):Bool:=za s.1&&rl s.2.1&&sj s.2.2 q&&s.1.all (λr=> !(decide (r.2.2.2.2.2.2.2.2>=q)))&&s.2.1.all (λx=> !(decide (x.2.2>=q)))
theorem B7 (s:dA)(q:Int)(h1:s.1.length<=10^9)(h2:s.2.1.length<=10^9)(h3:s.2.2.2.length<=10^9):mD s q=some (eC s q):=by
 unfold mD eC;simp only[I3 _ h1,Vw,KB _ _ h3,ab,bB];rw[wS (hit:=some false) (fin:=cond (s.2.1.all (λx=> !(decide (x.2.2>=q)))) (some true) (some false)) (λr:kL=> !(decide (r.2.2.2.2.2.2.2.2>=q))) s.1 (by omega) (λi hi nx=>?hs) (λnx=>?hf)]
 case hs=>
  simp only[pZ]
  rw[iH,bc hi,aj]
  simp only[ah,ab,ff];rfl
 case hf=>
  simp only[pZ]
  rw[cD]
  simp only[ae]
  rw[wS (hit:=some false) (fin:=some true) (λx:Slot=> !(decide (x.2.2>=q))) s.2.1 (by omega) (λi hi nx=>?hs) (λnx=>?hf)]
  case hs=>
   simp only[qa]
   rw[iH,bc hi,aj]
   simp only[ah,ab,ff];rfl
  case hf=>
   simp only[qa]
   rw[cD];rfl
 cases za s.1<;>cases rl s.2.1<;>cases sj s.2.2 q<;>cases s.1.all (λr=> !(decide (r.2.2.2.2.2.2.2.2>=q)))<;>cases s.2.1.all (λx=> !(decide (x.2.2>=q)))<;>rfl
theorem F3 (s:dA)(q:Int)(h1:s.1.length<=10^9)(h2:s.2.1.length<=10^9)(h3:s.2.2.2.length<=10^9):mx s q=some (eC s q):=by
 unfold mx eC;simp only[UJ _ h1,UL,Rh _ _ h3,ab,bB];rw[wS (hit:=some false) (fin:=cond (s.2.1.all (λx=> !((x.1==1)&&decide (x.2.2>=q)))) (some true) (some false)) (λr:kL=> !((r.2.2.2.2.2.2.2.1==0)&&decide (r.2.2.2.2.2.2.2.2>=q))) s.1 (by omega) (λi hi nx=>?hs) (λnx=>?hf)]
 case hs=>
  simp only[pG]
  rw[iH,bc hi,aj]
  simp only[ah,ab,ff,bB]
  cases (s.1[i].2.2.2.2.2.2.2.1==0)<;>rfl
 case hf=>
  simp only[pG]
  rw[cD]
  simp only[ae]
  rw[wS (hit:=some false) (fin:=some true) (λx:Slot=> !((x.1==1)&&decide (x.2.2>=q))) s.2.1 (by omega) (λi hi nx=>?hs) (λnx=>?hf)]
  case hs=>
   simp only[nO]
   rw[iH,bc hi,aj]
   simp only[ah,ab,ff,bB]
   cases (s.2.1[i].1==1)<;>rfl
  case hf=>
   simp only[nO]
   rw[cD];rfl
 cases hr:za s.1 with
 |false=>rfl
 |true=>
  cases ht:rl s.2.1 with
  |false=>rfl
  |true=>
   cases hs:sj s.2.2 q with
   |false=>rfl
   |true=>
    have hq:1<=q:=by unfold sj at hs;simp only[af,aX]at hs;exact hs.1.1.1.1
    have e1:s.1.all (λr=> !((r.2.2.2.2.2.2.2.1==0)&&decide (r.2.2.2.2.2.2.2.2>=q)))=s.1.all (λr=> !(decide (r.2.2.2.2.2.2.2.2>=q))):=by unfold za at hr;simp only[af,aF]at hr;rw[cG,aF,aF];refine forall_congr' λr=>forall_congr' λhm=>?_;rcases aaX (hr.1 r hm)with h0|h0;rw[h0];simp;rw[h0];simp only[aq (show¬(0:Int)>=q by omega),iu]
    have e2:s.2.1.all (λx=> !((x.1==1)&&decide (x.2.2>=q)))=s.2.1.all (λx=> !(decide (x.2.2>=q))):=by unfold rl at ht;simp only[af,aF,bE,ba]at ht;rw[cG,aF,aF];refine forall_congr' λx=>forall_congr' λhm=>?_;obtain⟨i,hi,rfl⟩:=List.mem_iff_getElem.1 hm;have hsl:=ht.2 i (by omega);unfold oM Vo at hsl;rw[ze hi]at hsl;simp only[af,dk,ba]at hsl;rcases hsl.1.2 with h0|⟨h0,_⟩;rw[h0];simp;rw[h0];simp only[aq (show¬(0:Int)>=q by omega),iu]
    rw[e1,e2];cases s.1.all (λr=> !(decide (r.2.2.2.2.2.2.2.2>=q)))<;>cases s.2.1.all (λx=> !(decide (x.2.2>=q)))<;>rfl
theorem gY (h:n<9223372036854775808:=by omega):ar (n:Int)=(n:Int):=aj
theorem My (h:n<4294967296:=by omega):IntKind.wrap .u32 (n:Int)=(n:Int):=by simp only[ar,iA,IntKind.wrap,IntKind.bits,IntKind.signed];simp;omega
theorem mH (b:UInt8):b.toNat<256:=b.toNat_lt
def cC (v:Int):Bytes:=(cy v).getD []
theorem iS (v:Int):cy v=some (cC v):=by
 unfold cC;have:∃x,cy v=some x:=by simp only[cy,cn,ab];cases cY v 0 65535<;>exact⟨_,rfl⟩
 obtain⟨x,hx⟩:=this;rw[hx];rfl
theorem yS (v:Int):ee v=some (cC v):=iS v
theorem KK (v:Int):(cC v).length=bif cY v 0 65535 then 2 else 0:=by have h:=iS v;simp only[cy,cn,ab]at h;cases hb:cY v 0 65535<;>rw[hb]at h<;>(rw[<-bM h];rfl)
theorem cr (v:Int):(cC v).length<=2:=by rw[KK];cases cY v 0 65535<;>simp
def gw (v:Int):Bytes:=(eU v).getD []
theorem kI (v:Int):eU v=some (gw v):=by
 unfold gw;have:∃x,eU v=some x:=by simp only[eU,cn,ab];cases cY v 0 4294967295<;>exact⟨_,rfl⟩
 obtain⟨x,hx⟩:=this;rw[hx];rfl
theorem CY (v:Int):iw v=some (gw v):=kI v
theorem SL (v:Int):(gw v).length=bif cY v 0 4294967295 then 4 else 0:=by have h:=kI v;simp only[eU,cn,ab]at h;cases hb:cY v 0 4294967295<;>rw[hb]at h<;>(rw[<-bM h];rfl)
theorem dT (v:Int):(gw v).length<=4:=by rw[SL];cases cY v 0 4294967295<;>simp
def ch (s:Bytes)(i:Nat):Nat:=(s.getD i 0).toNat
theorem eJ (s:Bytes)(i:Nat):ch s i<256:=mH _
theorem mK {s:Bytes}(h:i<s.length:=by omega):∃x,idx s (i:Int)=some x/\x.toNat=ch s i:=⟨s[i],bc h,by rw[ch,bN h]⟩
def fG (s:Bytes)(a n:Int):Bool:=decide (0<=a/\a+n<=(s.length:Int))
theorem H7 (s:Bytes)(a n:Int)(h:s.length<=10^9)(hn:0<=n:=by omega):ph s a n=some (fG s a n):=by
 unfold ph fG;by_cases h0:0<=a;by_cases h1:a<=(s.length:Int)
 rw[au (show a>=0 from h0),au h1,aj];simp only[ah,ab];congr 1;rw[decide_eq_decide];omega;rw[au (show a>=0 from h0),aq h1,aq (show¬(0<=a/\a+n<=(s.length:Int)) by omega)];rfl;rw[aq (show¬a>=0 from h0),aq (show¬(0<=a/\a+n<=(s.length:Int)) by omega)];rfl
def cP (s:Bytes)(a:Int):Int:=bif fG s a 2 then((ch s a.toNat*256+ch s (a.toNat+1):Nat):Int) else-1
def eK (s:Bytes)(a:Int):Int:=bif fG s a 4 then(((ch s a.toNat*256+ch s (a.toNat+1))*65536+(ch s (a.toNat+2)*256+ch s (a.toNat+3)):Nat):Int) else-1
theorem tW (s:Bytes)(a:Int)(h:s.length<=10^9):eT s a=some (cP s a):=by unfold eT cP;rw[H7 s a 2 h,ab];cases hw:fG s a 2 with|false=>rfl|true=>simp only[fG,aG]at hw;obtain⟨n,rfl⟩:=aO hw.1;obtain⟨x,hx,ex⟩:=mK (s:=s) (i:=n);obtain⟨y,hy,ey⟩:=mK (s:=s) (i:=n+1);have hxl:=eJ s n;have hyl:=eJ s (n+1);rw[aj (n:=(n:Int)+1),hx,show(n:Int)+1=((n+1:Nat):Int) by omega,hy];simp only[al,ae,ab,ax,ah];rw[nI,ex,ey,gY,gY];have e8:qO 8=8:=rfl;rw[e8,aj (n:=((ch s n:Nat):Int)*2^8),aj];congr 1;all_goals omega
theorem zg (s:Bytes)(a:Int)(h:s.length<=10^9):gK s a=some (eK s a):=by
 unfold gK eK;rw[H7 s a 4 h,ab];cases hw:fG s a 4 with
 |false=>rfl
 |true=>
  simp only[fG,aG]at hw;obtain⟨n,rfl⟩:=aO hw.1;have w1:fG s (n:Int) 2=true:=by simp only[fG,aG];omega
  have w2:fG s ((n:Int)+2) 2=true:=by simp only[fG,aG];omega
  have b0:=eJ s n;have b1:=eJ s (n+1);have b2:=eJ s (n+2);have b3:=eJ s (n+3);rw[aj (n:=(n:Int)+2),tW s _ h,tW s _ h];simp only[al,ae,ab,ah,cP,w1,w2,ax];rw[nI,show((n:Int)+2).toNat=n+2 by omega,show n+2+1=n+3 by omega];have e8:qO 16=16:=rfl;rw[e8,aj (n:=((ch s n*256+ch s (n+1):Nat):Int)*2^16),aj];congr 1;all_goals omega
theorem ayX (a b:Nat)(ha:a<9223372036854775808)(hb:b<9223372036854775808):toNat (fQ (a:Int)|||fQ (b:Int))=a|||b:=by show(BitVec.ofInt 64 (a:Int)|||BitVec.ofInt 64 (b:Int)).toNat=_;rw[dR,dR,BitVec.toNat_or,eD,eD,eO (by omega),eO (by omega)]
theorem aoW (a b:Nat)(ha:a<9223372036854775808:=by omega)(hb:b<9223372036854775808:=by omega):toNat (fQ (a:Int)&&&fQ (b:Int))=a&&&b:=by show(BitVec.ofInt 64 (a:Int)&&&BitVec.ofInt 64 (b:Int)).toNat=_;rw[dR,dR,BitVec.toNat_and,eD,eD,eO (by omega),eO (by omega)]
theorem agq (a b:Nat)(ha:a<9223372036854775808)(hb:b<9223372036854775808):toNat (fQ (a:Int)^^^fQ (b:Int))=a^^^b:=by show(BitVec.ofInt 64 (a:Int)^^^BitVec.ofInt 64 (b:Int)).toNat=_;rw[dR,dR,BitVec.toNat_xor,eD,eD,eO (by omega),eO (by omega)]
theorem asg (a b:Nat)(ha:a<4294967296)(hb:b<4294967296):toNat (BitVec.ofInt (IntKind.bits .u32) (a:Int)&&&BitVec.ofInt (IntKind.bits .u32) (b:Int))=a&&&b:=by show(BitVec.ofInt 32 (a:Int)&&&BitVec.ofInt 32 (b:Int)).toNat=_;rw[dR,dR,BitVec.toNat_and,eD,eD,eO (by omega),eO (by omega)]
theorem apD (a b:Nat)(ha:a<4294967296)(hb:b<4294967296):toNat (BitVec.ofInt (IntKind.bits .u32) (a:Int)^^^BitVec.ofInt (IntKind.bits .u32) (b:Int))=a^^^b:=by show(BitVec.ofInt 32 (a:Int)^^^BitVec.ofInt 32 (b:Int)).toNat=_;rw[dR,dR,BitVec.toNat_xor,eD,eD,eO (by omega),eO (by omega)]
theorem Kx (x k y:Nat)(hy:y<2^k:=by omega)(h:2^k*x+y<9223372036854775808:=by omega):ar (toNat (fQ ((2^k*x:Nat):Int)|||fQ (y:Int)):Int)=((2^k*x+y:Nat):Int):=by rw[ayX _ _ (by omega) (by omega),<-Nat.two_pow_add_eq_or_of_lt hy];exact gY h
theorem OU (s:Bytes)(a n:Int):(cond (decide (a<0)) (some true) (some (decide (a>(s.length:Int)-n))))=some (!fG s a n):=by cases hw:fG s a n with|true=>simp only[fG,aG]at hw;rw[aq (show¬a<0 by omega),aq (show¬a>(s.length:Int)-n by omega)];rfl|false=>simp only[fG,cH]at hw;by_cases h0:a<0;rw[au h0];rfl;rw[aq h0,au (show a>(s.length:Int)-n by omega)];rfl
theorem MX (s:Bytes)(a:Int)(h:s.length<=10^9):jy s a=some (cP s a):=by unfold jy cP;rw[aj (n:=(s.length:Int)-2)];rw[OU,ab];cases hw:fG s a 2 with|false=>rfl|true=>simp only[fG,aG]at hw;obtain⟨n,rfl⟩:=aO hw.1;obtain⟨x,hx,ex⟩:=mK (s:=s) (i:=n);obtain⟨y,hy,ey⟩:=mK (s:=s) (i:=n+1);have hxl:=eJ s n;have hyl:=eJ s (n+1);rw[aj (n:=(n:Int)+1),hx,show(n:Int)+1=((n+1:Nat):Int) by omega,hy];simp only[al,ae,ah,ab,ax];rw[nI,ex,ey,gY (n:=ch s n),gY (n:=ch s (n+1))];have e8:qO 8=8:=rfl;rw[e8,show((ch s n:Nat):Int)*2^8=((2^8*ch s n:Nat):Int) by omega,gY (n:=2^8*ch s n),Kx (ch s n) 8 (ch s (n+1))];congr 1;all_goals omega
theorem IJ (s:Bytes)(a:Int)(h:s.length<=10^9):lM s a=some (eK s a):=by
 unfold lM eK;rw[aj (n:=(s.length:Int)-4)];rw[OU,ab];cases hw:fG s a 4 with
 |false=>rfl
 |true=>
  simp only[fG,aG]at hw;obtain⟨n,rfl⟩:=aO hw.1;obtain⟨x0,h0,e0⟩:=mK (s:=s) (i:=n);obtain⟨x1,h1,e1⟩:=mK (s:=s) (i:=n+1);obtain⟨x2,h2,e2⟩:=mK (s:=s) (i:=n+2);obtain⟨x3,h3,e3⟩:=mK (s:=s) (i:=n+3);have b0:=eJ s n;have b1:=eJ s (n+1);have b2:=eJ s (n+2);have b3:=eJ s (n+3)
  rw[aj (n:=(n:Int)+1),aj (n:=(n:Int)+2),aj (n:=(n:Int)+3),h0,show(n:Int)+1=((n+1:Nat):Int) by omega,h1,
   show(n:Int)+2=((n+2:Nat):Int) by omega,h2,show(n:Int)+3=((n+3:Nat):Int) by omega,h3]
  simp only[al,ae,ah,ab,ax];rw[nI,nI,nI,e0,e1,e2,e3];generalize ch s n=p0 at*;generalize ch s (n+1)=p1 at*;generalize ch s (n+2)=p2 at*;generalize ch s (n+3)=p3 at*;have f24:qO 24=24:=rfl;have f16:qO 16=16:=rfl;have f8:qO 8=8:=rfl
  rw[gY (n:=p0),gY (n:=p1),gY (n:=p2),gY (n:=p3),f24,f16,f8,
   show((p0:Nat):Int)*2^24=((2^24*p0:Nat):Int) by omega,show((p1:Nat):Int)*2^16=((2^16*p1:Nat):Int) by omega,show((p2:Nat):Int)*2^8=((2^8*p2:Nat):Int) by omega,
   gY (n:=2^24*p0),gY (n:=2^16*p1),gY (n:=2^8*p2),Kx p0 24 (2^16*p1),
   show 2^24*p0+2^16*p1=2^16*(2^8*p0+p1) by omega,Kx _ 16 (2^8*p2),
   show 2^16*(2^8*p0+p1)+2^8*p2=2^8*(2^8*(2^8*p0+p1)+p2) by omega,Kx _ 8 p3]
  congr 1;all_goals omega
def Kc (c:Nat):Nat:=if c%2=1 then(c/2)^^^3988292384 else c/2
def xc:Nat->Nat->Nat
 |0,c=>c
 |n+1,c=>Kc (xc n c)
def axS (c:Nat)(s:Bytes):Nat:=s.foldl (λc b=>xc 8 (c^^^b.toNat)) c
def NM (s:Bytes):Int:=4294967295-(axS 4294967295 s:Int)
theorem EU {a b:Nat}(ha:a<4294967296:=by omega)(hb:b<4294967296:=by omega):a^^^b<4294967296:=Nat.xor_lt_two_pow (n:=32) ha hb
theorem agI {c:Nat}(h:c<4294967296):Kc c<4294967296:=by unfold Kc;split;exact EU;omega
theorem K3 {c:Nat}(h:c<4294967296):∀n,xc n c<4294967296
 |0=>h
 |n+1=>agI (K3 h n)
theorem al9 (k0:Int->Int->az R)(k:Int->az R)(hk:∀x y,k0 x y=k x)(v0:Bytes)(v4:Int)(c:Nat)(h:c<4294967296):bh (qY k0 v0 v4) fuel ((c:Int),0)=k (xc 8 c:Int):=by
 have GS:=fb
 have key:=LD (T:=qY k0 v0 v4) 8 (λ(_:Unit) i=>((xc i c:Int),(i:Int))) (λ_ s nx=>nx s) (λ_=>k (xc 8 c:Int))
  (λi s nx hi=>by
   have hc:=K3 h i;simp only[qY];have a1:=aoW (xc i c) 1;have x1:=agq (xc i c/2) 3988292384 (by omega) (by omega);simp only[Int.natCast_one]at a1
   rw[iH,ah,a1,Nat.and_one_is_mod,
    show qO 1=1 from rfl,show fdiv ((xc i c:Nat):Int) (2^1)=((xc i c/2:Nat):Int) from by rw[Int.fdiv_eq_ediv_of_nonneg _ (by omega)];rfl,
    show(3988292384:Int)=((3988292384:Nat):Int) from rfl,x1,
    gY (n:=xc i c%2),gY (n:=(xc i c/2)^^^3988292384) (by have:=EU (a:=xc i c/2) (b:=3988292384);omega),nI,nI,aj (n:=(i:Int)+1)]
   show _=nx ((Kc (xc i c):Int),((i+1:Nat):Int));unfold Kc;by_cases hp:xc i c%2=1;rw[hp,aI rfl];rfl;have h0:xc i c%2=0:=by omega
   rw[h0,nI];rfl)
  (λs nx=>by simp only[qY];rw[cD,ae,hk])
  fuel 0 () (by omega) (by omega)
 refine key.trans ?_;rfl
theorem ak5 (k0:Int->Int->az R)(k:Int->az R)(hk:∀x y,k0 x y=k x)(v0:Bytes)(v4:Int)(c:Nat)(h:c<4294967296):bh (qS k0 v0 v4) fuel ((c:Int),0)=k (xc 8 c:Int):=by
 have GS:=fb
 have key:=LD (T:=qS k0 v0 v4) 8 (λ(_:Unit) i=>((xc i c:Int),(i:Int))) (λ_ s nx=>nx s) (λ_=>k (xc 8 c:Int))
  (λi s nx hi=>by
   have hc:=K3 h i;simp only[qS];have a1:=asg (xc i c) 1 (by omega) (by omega);have x1:=apD (xc i c/2) 3988292384 (by omega) (by omega);simp only[Int.natCast_one]at a1
   rw[iH,ah,a1,Nat.and_one_is_mod,
    show min (Int.toNat 1) (IntKind.bits .u32)=1 from rfl,show fdiv ((xc i c:Nat):Int) (2^1)=((xc i c/2:Nat):Int) from by rw[Int.fdiv_eq_ediv_of_nonneg _ (by omega)];rfl,
    show(3988292384:Int)=((3988292384:Nat):Int) from rfl,x1,
    My (n:=xc i c%2),My (n:=(xc i c/2)^^^3988292384) (EU),nI,aj (n:=(i:Int)+1)]
   show _=nx ((Kc (xc i c):Int),((i+1:Nat):Int));unfold Kc;by_cases hp:xc i c%2=1;rw[hp,aI rfl];rfl;have h0:xc i c%2=0:=by omega
   rw[h0,nI];rfl)
  (λs nx=>by simp only[qS];rw[cD,ae,hk])
  fuel 0 () (by omega) (by omega)
 refine key.trans ?_;rfl
theorem af2 (s:Bytes)(h:s.length<=10^9):Dq s=some (NM s):=by
 unfold Dq;have:=sV (T:=vu (λ(y4:Int) (_:Int)=>some (ar (4294967295-y4))) s) s (λ(c:Nat) i=>((c:Int),(i:Int))) (λ_ c=>c<4294967296) (λb c=> .ok (xc 8 (c^^^b.toNat))) (λc=>some (4294967295-(c:Int))) (by omega) (λi hi c nx hI=>?hs) (λi hi c c' hI hg=>?hn) (λc nx hI=>?hf) 4294967295 (by omega)
 case hs=>
  have hb:=mH s[i]
  simp only[vu]
  rw[iH,bc hi,ah,ab,gY (n:=s[i].toNat),agq c s[i].toNat (by omega) (by omega)]
  have hx:=EU hI (show s[i].toNat<4294967296 by omega)
  rw[gY,al9 _ (λy=>nx (y,(i:Int)+1)) (λx y=>by rw[aj]) _ _ _ hx];rfl
 case hn=>
  cases hg
  exact K3 (EU hI (by have:=mH s[i];omega)) 8
 case hf=>
  simp only[vu]
  rw[cD,ae,aj]
 rw[Gq]at this;exact this
theorem not_xor (c:Nat)(h:c<4294967296):toNat (BitVec.ofInt (IntKind.bits .u32) (IntKind.max .u32)^^^BitVec.ofInt (IntKind.bits .u32) (c:Int))=4294967295-c:=by show(BitVec.ofInt 32 4294967295^^^BitVec.ofInt 32 (c:Int)).toNat=_;rw[show BitVec.ofInt 32 4294967295=BitVec.allOnes 32 by decide,dR,BitVec.allOnes_xor,BitVec.toNat_not,eD,eO (show c<2^32 by omega)]
theorem afu (s:Bytes)(h:s.length<=10^9):CZ s=some (NM s):=by
 unfold CZ;have:=sV (T:=vh (λ(y4:Int) (_:Int)=>some (ar (IntKind.wrap .u32 (toNat (BitVec.ofInt (IntKind.bits .u32) (IntKind.max .u32)^^^BitVec.ofInt (IntKind.bits .u32) y4))))) s) s (λ(c:Nat) i=>((c:Int),(i:Int))) (λ_ c=>c<4294967296) (λb c=> .ok (xc 8 (c^^^b.toNat))) (λc=>some (4294967295-(c:Int))) (by omega) (λi hi c nx hI=>?hs) (λi hi c c' hI hg=>?hn) (λc nx hI=>?hf) 4294967295 (by omega)
 case hs=>
  have hb:=mH s[i]
  simp only[vh]
  rw[iH,bc hi,ah,ab,My (n:=s[i].toNat),apD c s[i].toNat (by omega) (by omega)]
  have hx:=EU hI (show s[i].toNat<4294967296 by omega)
  rw[My hx,ak5 _ (λy=>nx (y,(i:Int)+1)) (λx y=>by rw[aj]) _ _ _ hx];rfl
 case hn=>
  cases hg
  exact K3 (EU hI (by have:=mH s[i];omega)) 8
 case hf=>
  simp only[vh]
  rw[cD,ae,not_xor c hI,My,gY]
  congr 1
  all_goals omega
 rw[Gq]at this;exact this
def P2 (s:Bytes)(i:Nat):Nat:=ch s (i/8)/2^(7-i%8)%2
theorem KX (s:Bytes)(i:Nat):P2 s i<2:=Nat.mod_lt _ (by omega)
theorem Ye (b k:Nat)(hb:b<256)(hk:k<=7):ar (toNat (fQ (ar (fdiv (b:Int) ((2^k:Nat):Int)))&&&fQ 1))=((b/2^k%2:Nat):Int):=by have e:fdiv (b:Int) ((2^k:Nat):Int)=((b/2^k:Nat):Int):=(Int.ofNat_fdiv b (2^k)).symm;have h1:b/2^k<=b:=Nat.div_le_self _ _;rw[e,gY (n:=b/2^k)];have:=aoW (b/2^k) 1;rw[show((1:Nat):Int)=1 from rfl]at this;rw[this,Nat.and_one_is_mod];exact gY
theorem afs (s:Bytes)(i:Nat)(hi:i/8<s.length:=by omega)(h:s.length<=10^9:=by omega):AP s (i:Int)=some ((P2 s i:Nat):Int):=by
 have e1:Int.tdiv (i:Int) 8=((i/8:Nat):Int):=(Int.ofNat_tdiv i 8).symm;have e2:tmod (i:Int) 8=((i%8:Nat):Int):=(Int.ofNat_tmod i 8).symm;unfold AP;rw[nI,e1,aj (n:=((i/8:Nat):Int)),bc hi,ab,nI,e2,aj (n:=7-((i%8:Nat):Int)),nI];have e3:(2:Int)^(min (Int.toNat (7-((i%8:Nat):Int))) (IntKind.bits .u8))=((2^(7-i%8):Nat):Int):=by rw[show min (Int.toNat (7-((i%8:Nat):Int))) (IntKind.bits .u8)=7-i%8 from by show min _ 8=_;omega];push_cast;rfl
 rw[e3,Ye _ _ (mH _) (by omega),P2,ch,bN hi]
theorem af0 (s:Bytes)(i:Nat)(hi:i/8<s.length:=by omega)(h:s.length<=10^9:=by omega):Be s (i:Int)=some ((P2 s i:Nat):Int):=by
 have e1:Int.tdiv (i:Int) 8=((i/8:Nat):Int):=(Int.ofNat_tdiv i 8).symm;have e2:tmod (i:Int) 8=((i%8:Nat):Int):=(Int.ofNat_tmod i 8).symm;have hb:=mH s[i/8];unfold Be;rw[nI,e1,aj (n:=((i/8:Nat):Int)),bc hi,ab,nI,e2,aj (n:=7-((i%8:Nat):Int)),nI,gY (n:=s[i/8].toNat)];have e3:(2:Int)^(min (Int.toNat (7-((i%8:Nat):Int))) (IntKind.bits .i64))=((2^(7-i%8):Nat):Int):=by rw[show min (Int.toNat (7-((i%8:Nat):Int))) (IntKind.bits .i64)=7-i%8 from by show min _ 64=_;omega];push_cast;rfl
 have e4:fdiv ((s[i/8].toNat:Nat):Int) ((2^(7-i%8):Nat):Int)=((s[i/8].toNat/2^(7-i%8):Nat):Int):=(Int.ofNat_fdiv _ _).symm;have h1:s[i/8].toNat/2^(7-i%8)<=s[i/8].toNat:=Nat.div_le_self _ _;have key:=Ye s[i/8].toNat (7-i%8) hb (by omega);rw[e4,gY (n:=s[i/8].toNat/2^(7-i%8))]at key;rw[e3,e4,key,P2,ch,bN hi]
def win (s:Bytes)(a:Nat):Nat->Nat
 |0=>0
 |j+1=>2*win s a j+P2 s (a+j)
theorem am3 (s:Bytes)(a:Nat):∀j,win s a j<2^j
 |0=>by simp[win]
 |j+1=>by have:=am3 s a j;have:=KX s (a+j);rw[win,Nat.pow_succ];omega
theorem SJ (s:Bytes)(a j:Nat)(hj:j<=32:=by omega):win s a j<4294967296:=Nat.lt_of_lt_of_le (am3 s a j) (Nat.pow_le_pow_right (n:=2) (by omega) hj)
def abG (s:Bytes)(a:Int):Int:=bif ((s.length:Int) !=16)|| !cY a 0 96 then-1 else((win s a.toNat 32:Nat):Int)
theorem anW (s:Bytes)(a:Int):xx s a=some (abG s a):=by
 unfold xx abG;rw[dW];cases hs:(s.length:Int) !=16;case true=>rfl
 cases ha:cY a 0 96;rfl;have h1:=aX.1 ha;have h2:s.length=16:=by simp at hs;omega
 obtain⟨a,rfl⟩:=aO h1.1;simp only[ae,ab,al,cc,ax];refine cK (λi=>(((win s a i:Nat):Int),((a+i:Nat):Int))) 32 (by omega) (λi nx hi=>?_) (λnx=>?_);have hw:=SJ s a i;have hb:=KX s (a+i);simp only[rD];rw[aj (n:=(a:Int)+32),iH,ah,nI,afs s (a+i),ab,aj (n:=((a+i:Nat):Int)+1)];have e1:ar (((win s a i:Nat):Int)*2^(qO 1))=((2^1*win s a i:Nat):Int):=by have:(2:Int)^(qO 1)=2:=rfl;rw[this,aj];omega
 rw[e1,Kx _ _ _];rw[show(((a+i:Nat):Int)+1)=((a+(i+1):Nat):Int) by omega];rfl;simp only[rD];rw[aj (n:=(a:Int)+32),cD];rfl
theorem aoz (s:Bytes)(a:Int):yg s a=some (abG s a):=by
 unfold yg abG;rw[cn];cases hs:(s.length:Int) !=16;case true=>rfl
 cases ha:cY a 0 96;rfl;have h1:=aX.1 ha;have h2:s.length=16:=by simp at hs;omega
 obtain⟨a,rfl⟩:=aO h1.1;simp only[ae,ab,al,cc,ax];refine cK (λi=>(((win s a i:Nat):Int),(i:Int))) 32 (by omega) (λi nx hi=>?_) (λnx=>?_);have hw:=SJ s a i;have hb:=KX s (a+i);simp only[sa];rw[iH,ah,aj (n:=(a:Int)+(i:Int)),show(a:Int)+(i:Int)=((a+i:Nat):Int) by omega,af0 s (a+i),ab,aj (n:=(i:Int)+1)];rw[aj (n:=2*((win s a i:Nat):Int)),aj,win];congr 1;simp only[sa];rw[cD];rfl
def Jq (s v:Bytes):Nat->Nat
 |0=>0
 |i+1=>if P2 v i=1 then Jq s v i^^^win s i 32 else Jq s v i
theorem QY (s v:Bytes):∀i,Jq s v i<4294967296
 |0=>by simp[Jq]
 |i+1=>by have:=QY s v i;rw[Jq];split;exact EU this (SJ s i 32);exact this
def xn (s v:Bytes):Int:=bif ((s.length:Int) !=16)||decide ((v.length:Int)>12) then-1 else((Jq s v (8*v.length):Nat):Int)
theorem ak9 (s v:Bytes):xt s v=some (xn s v):=by
 unfold xt xn;cases hs:(s.length:Int) !=16;case true=>rfl
 cases hv:decide ((v.length:Int)>12);case true=>rfl
 have h2:s.length=16:=by simp at hs;omega
 have h3:v.length<=12:=by simp at hv;omega
 simp only[ae,ab,cc];refine cK (λi=>(((Jq s v i:Nat):Int),(i:Int))) (8*v.length) (by omega) (λi nx hi=>?_) (λnx=>?_);have hw:=SJ s i 32;have hh:=QY s v i;have hb:=KX v i;have eW:abG s (i:Int)=((win s i 32:Nat):Int):=by unfold abG;rw[hs,aX.2 (show(0:Int)<=(i:Int)/\(i:Int)<=96 by omega)];rfl
 simp only[rC];rw[aj (n:=8*(v.length:Int)),iH,ah,afs v i,ab,anW,ab,eW,agq _ _ (by omega) (by omega),aj (n:=(i:Int)+1),gY (Nat.lt_trans (EU hh hw) (by omega)),Jq];by_cases h1:P2 v i=1;rw[h1,aI rfl];rfl;rw[aK h1,show(((P2 v i:Nat):Int)==1)=false from by simp;omega];rfl;simp only[rC];rw[aj (n:=8*(v.length:Int)),cD];rfl
theorem amb (s v:Bytes):yc s v=some (xn s v):=by
 unfold yc xn;cases hs:(s.length:Int) !=16;case true=>rfl
 cases hv:decide ((v.length:Int)>12);case true=>rfl
 have h2:s.length=16:=by simp at hs;omega
 have h3:v.length<=12:=by simp at hv;omega
 simp only[ae,ab,cc];refine cK (λi=>(((Jq s v i:Nat):Int),(i:Int))) (8*v.length) (by omega) (λi nx hi=>?_) (λnx=>?_);have hw:=SJ s i 32;have hh:=QY s v i;have hb:=KX v i;have eW:abG s (i:Int)=((win s i 32:Nat):Int):=by unfold abG;rw[hs,aX.2 (show(0:Int)<=(i:Int)/\(i:Int)<=96 by omega)];rfl
 simp only[rX];rw[aj (n:=8*(v.length:Int)),iH,ah,af0 v i,ab,aoz,ab,eW,agq _ _ (by omega) (by omega),aj (n:=(i:Int)+1),gY (Nat.lt_trans (EU hh hw) (by omega)),Jq];by_cases h1:P2 v i=1;rw[h1,aI rfl];rfl;rw[aK h1,show(((P2 v i:Nat):Int)==1)=false from by simp;omega];rfl;simp only[rX];rw[aj (n:=8*(v.length:Int)),cD];rfl
def sI (f:Hc):Bytes:=((gw f.2.1++gw f.2.2.1)++cC f.2.2.2.1)++cC f.2.2.2.2
theorem adp (f:Hc):xu f=some (sI f):=by have:=dT f.2.1;have:=dT f.2.2.1;have:=cr f.2.2.2.1;have:=cr f.2.2.2.2;simp only[xu,CY,yS,ab];rw[aL,aL (by simp only[ai];omega),aL (by simp only[ai];omega)];rfl
theorem aey (f:Hc):yd f=some (sI f):=by have:=dT f.2.1;have:=dT f.2.2.1;have:=cr f.2.2.2.1;have:=cr f.2.2.2.2;simp only[yd,kI,iS,ab];rw[aL,aL (by simp only[ai];omega),aL (by simp only[ai];omega)];rfl
theorem WZ (s:Bytes)(f:Hc):zQ s f=some (xn s (sI f)):=by simp only[zQ,adp,ak9,ab]
theorem Ma (s:Bytes)(f:Hc):vx s f=some (xn s (sI f)):=by simp only[vx,aey,amb,ab]
def Bp (s:oe)(f:Hc):Int:=bif ((s.2.length:Int)==0)||decide (xn s.1 (sI f)<0) then-1 else tmod (xn s.1 (sI f)) (s.2.length:Int)
theorem ahg (s:oe)(f:Hc):BV s f=some (Bp s f):=by
 unfold BV Bp;rw[WZ,ab];cases h0:(s.2.length:Int)==0;case true=>rfl
 cases decide (xn s.1 (sI f)<0);case true=>rfl
 simp only[ae,ab,cc];rw[aK (by simpa using h0)]
theorem aiy (s:oe)(f:Hc):Cb s f=some (Bp s f):=by
 unfold Cb Bp;rw[Ma,ab];cases h0:(s.2.length:Int)==0;case true=>rfl
 cases decide (xn s.1 (sI f)<0);case true=>rfl
 simp only[ae,ab,cc];rw[aK (by simpa using h0)]
theorem MN (s:oe)(f:Hc)(h:¬Bp s f<0):∃n:Nat,Bp s f=(n:Int)/\n<s.2.length:=by
 unfold Bp at h⊢;cases hc:((s.2.length:Int)==0)||decide (xn s.1 (sI f)<0)with
 |true=>rw[hc]at h;simp at h
 |false=>
  rw[hc]at h;simp only[cI,cg,cH]at hc;simp only[ae]at h⊢;have h1:0<=xn s.1 (sI f):=by omega
  rw[ed h1]at h⊢;have:=fK (xn s.1 (sI f)) (show(0:Int)<s.2.length by omega);obtain⟨n,hn⟩:=aO (show 0<=xn s.1 (sI f)%(s.2.length:Int) by omega);exact⟨n,hn,by omega⟩
def I6 (s:oe)(q:Int)(f:Hc):Int:=bif !sj s q||decide (Bp s f<0) then-1 else s.2.getD (Bp s f).toNat 0
theorem ZQ (s:oe)(q:Int)(f:Hc)(h:s.2.length<=10^9):tJ s q f=some (I6 s q f):=by
 unfold tJ I6;rw[ahg,ab,Rh s q h,ab];cases sj s q;rfl;have yK:=MN s f;cases hd:decide (Bp s f<0);case true=>rfl
 obtain⟨n,hn,hl⟩:=yK (dy hd);simp only[al,ae,ab,cc,hn,bc hl,ax,bN hl]
theorem abp (s:oe)(q:Int)(f:Hc)(h:s.2.length<=10^9):uo s q f=some (I6 s q f):=by
 unfold uo I6;rw[aiy,ab,KB s q h,ab];cases sj s q;rfl;have yK:=MN s f;cases hd:decide (Bp s f<0);case true=>rfl
 obtain⟨n,hn,hl⟩:=yK (dy hd);simp only[al,ae,ab,cc,hn,bc hl,ax,bN hl]
theorem VH (t:aw Slot)(f:Hc)(h:∀j,j<8->qM (gJ t j) f=false):∀n k,walk t f n k= -1
 |0,_=>rfl
 |n+1,k=>by unfold walk;rw[h _ (Mx f k),VH t f h n (k+1)];split<;>rfl
theorem NS (f:Hc):∀(t:aw Slot)(m:Int),(∀s∈t,qM s f=false)->Bq f t m= -1
 |[],_,_=>rfl
 |s::r,m,h=>by unfold Bq;rw[h s (by simp)];exact NS f r (m+1) (λx hx=>h x (by simp[hx]))
theorem acV (t:aw Slot)(f:Hc)(h:rl t=true):Bq f t 0=walk t f 8 0:=by simp only[rl,af,ba,aF,bE]at h;obtain⟨h8,hs⟩:=h;by_cases hex:∃j,j<t.length/\qM (gJ t j) f=true;obtain⟨j,hj,hu,e⟩:=Ht f t 0 hex;have:=hs j (by omega);simp only[oM,af,dk,aM,ba]at this;simp only[qM,af,ba,aG]at hu;rcases this.2 with g|g;rw[hu.1]at g;simp at g;rw[hu.2]at g;rw[show((0:Int))=((0:Nat):Int) from rfl,e,g];omega;have hn:∀j,j<t.length->qM (gJ t j) f=false:=λj hj=>Bool.eq_false_iff.2 λhu=>hex ⟨j,hj,hu⟩;rw[VH t f (λj hj=>hn j (by omega)),NS];intro s yD;obtain⟨j,hj,rfl⟩:=List.getElem_of_mem yD;have:=hn j hj;rwa[ze hj]at this
def findF (t:aw Slot)(f:Hc):Int:=bif rl t then walk t f 8 0 else-1
theorem WY (t:aw Slot)(f:Hc)(h:t.length<=10^9):zM t f=some (findF t f):=by unfold zM findF;rw[UL,ab];cases ht:rl t;rfl;simp only[al,ae,ah,ZO t f h,ab,acV t f ht]
theorem XF (t:aw Slot)(f:Hc):Ak t f=some (findF t f):=by
 unfold Ak findF;rw[Vw,ab];cases ht:rl t;rfl;have h8:t.length=8:=by simp only[rl,af,ba]at ht;exact ht.1
 simp only[al,ae,ah,abi t f h8,ab]
theorem ago (t:aw Slot)(f:Hc):∀n k,walk t f n k= -1\/∃m:Nat,walk t f n k=(m:Int)/\m<8
 |0,_=> .inl rfl
 |n+1,k=>by unfold walk;split;exact .inl rfl;split;exact .inr ⟨_,rfl,Mx f k⟩;exact ago t f n (k+1)
theorem QH (t:aw Slot)(f:Hc)(h:findF t f>=0):∃m:Nat,findF t f=(m:Int)/\m<t.length:=by
 unfold findF at h⊢;cases ht:rl t with
 |false=>rw[ht]at h;simp at h
 |true=>
  rw[ht]at h;simp only[ah]at h⊢;have h8:t.length=8:=by simp only[rl,af,ba]at ht;exact ht.1
  rcases ago t f 8 0 with g|⟨m,g,hm⟩;omega;exact⟨m,g,by omega⟩
def dv (m:bV):Bool:=m.all (λx=>(x.length:Int)==128)&&decide ((m.length:Int)<=64)
theorem Gu (m:bV)(h:m.length<=10^9):qZ m=some (dv m):=by
 unfold qZ dv;rw[wS (hit:=some false) (fin:=some (decide ((m.length:Int)<=64))) (λx:Bytes=>(x.length:Int)==128) m (by omega) (λi hi nx=>?hs) (λnx=>?hf)]
 case hs=>
  simp only[uf]
  rw[iH,bc hi,aj];rfl
 case hf=>
  simp only[uf]
  rw[cD];rfl
 cases m.all (λx=>(x.length:Int)==128)<;>rfl
theorem adr (m:bV)(h:m.length<=10^9):EE m=some (dv m):=Gu m h
def RB:aN:=(0,0,0,false)
def RA (m:aN):Bool:=cY m.1 0 7&&(cY m.2.1 0 1023&&cY m.2.2.1 0 63)
def xN (d p:Int)(m:aN):Bool:=(m.1==d)&&(m.2.1==p)
def Rz (l:aw aN)(i:Nat):Bool:=RA (l.getD i RB)&&(range i).all (λj=> !(xN (l.getD i RB).1 (l.getD i RB).2.1 (l.getD j RB)))
def gF (l:aw aN):Bool:=decide ((l.length:Int)<=96)&&(range l.length).all (Rz l)
theorem Mb (l:aw aN)(h:l.length<=10^9):qB l=some (gF l):=by
 unfold qB gF;rw[gO (hit:=some false) (fin:=some true) (Rz l) l.length (by omega) (λi nx hi=>?hs) (λnx=>?hf)]
 case hs=>
  simp only[pU]
  rw[iH,bc hi,aj]
  simp only[ah,ab,cn,bB]
  rw[gO (hit:=some false) (fin:=nx ((i:Int)+1)) (λj=> !(xN l[i].1 l[i].2.1 (l.getD j RB))) i (by omega) (λj nx hj=>?hs2) (λnx=>?CV)]
  case hs2=>
   have X0:j<l.length:=by omega
   simp only[nX]
   rw[iH,bc X0,aj]
   simp only[ah,ab,bB,bN X0,xN,cF,ff];rfl
  case CV=>
   simp only[nX]
   rw[cD];rfl
  simp only[Rz,RA,bN hi,cT]
  cases cY l[i].1 0 7<;>cases cY l[i].2.1 0 1023<;>cases cY l[i].2.2.1 0 63<;>cases (range i).all (λj=> !(xN l[i].1 l[i].2.1 (l.getD j RB)))<;>rfl
 case hf=>
  simp only[pU]
  rw[cD];rfl
 have e:decide ((l.length:Int)>96)= !decide ((l.length:Int)<=96):=by rw[cG];simp
 rw[e];cases decide ((l.length:Int)<=96)<;>cases (range l.length).all (Rz l)<;>rfl
def afK (l:aw aN)(d p:Int):Int:=match l.findIdx? (xN d p)with|some i=>(i:Int)|none=> -1
theorem alf (l:aw aN)(d p:Int)(h:l.length<=10^9):tP l d p=some (afK l d p):=by
 unfold tP afK;rw[Cv (hit:=λi=>some i) (fin:=some (-1)) (xN d p) l (by omega) (λi hi nx=>?hs) (λnx=>?hf)]
 case hs=>
  simp only[nQ]
  rw[iH,bc hi,aj]
  simp only[ah,ab,bB,cF,xN];rfl
 case hf=>
  simp only[nQ]
  rw[cD];rfl
 cases l.findIdx? (xN d p)<;>rfl
theorem ad2 (l:aw aN)(i:Nat)(hi:i<l.length):(afK l l[i].1 l[i].2.1==(i:Int))=(range i).all (λj=> !(xN l[i].1 l[i].2.1 (l.getD j RB))):=by
 have Jx:xN l[i].1 l[i].2.1 l[i]=true:=by simp[xN]
 unfold afK;cases hq:l.findIdx? (xN l[i].1 l[i].2.1)with
 |none=>rw[List.findIdx?_eq_none_iff]at hq;rw[hq l[i] (aB hi)]at Jx;cases Jx
 |some k=>
  rw[List.findIdx?_eq_some_iff_getElem]at hq;obtain⟨hk,hpk,gr⟩:=hq;rw[cG,aF];simp only[bE,ba,aM];constructor;intro e j hj;have X0:j<l.length:=by omega
  rw[bN X0];have:=gr j (by omega);simpa using this;intro Km;rcases Nat.lt_trichotomy k i with hki|hki|hki;have:=Km k hki;rw[bN hk,hpk]at this;cases this;omega;have:=gr i hki;rw[Jx]at this;simp at this
theorem W0 (l:aw aN)(h:l.length<=10^9):vP l=some (gF l):=by
 unfold vP gF;rw[gO (hit:=some false) (fin:=some (decide ((l.length:Int)<=96))) (Rz l) l.length (by omega) (λi nx hi=>?hs) (λnx=>?hf)]
 case hs=>
  simp only[pF]
  rw[iH,bc hi,aj]
  simp only[ah,ab,dW,bB,alf _ _ _ h,bne,ad2 l i hi,Rz,RA,bN hi]
  cases cY l[i].1 0 7<;>cases cY l[i].2.1 0 1023<;>cases cY l[i].2.2.1 0 63<;>cases (range i).all (λj=> !(xN l[i].1 l[i].2.1 (l.getD j RB)))<;>rfl
 case hf=>
  simp only[pF]
  rw[cD];rfl
 cases decide ((l.length:Int)<=96)<;>cases (range l.length).all (Rz l)<;>rfl
def Hx (n:Int)(l:bQ)(i:Nat):Bool:=cY (l.getD i 0) 0 (n-1)&& !((l.take i).contains (l.getD i 0))
def dN (p:ei):Bool:=cY p.1 0 130944&&(cY p.2.1 1 512&&(cY p.2.2.1 0 16&&(range p.2.2.2.length).all (Hx p.2.2.1 p.2.2.2)))
def G2 (n:Int)(l:bQ):aw Bool:=(range n.toNat).map λk:Nat=>l.contains (k:Int)
theorem Vk (n:Int)(l:bQ):(G2 n l).length=n.toNat:=by simp[G2]
theorem IV (n:Int)(l:bQ)(k:Nat)(h:k<(G2 n l).length):(G2 n l)[k]=l.contains (k:Int):=by simp[G2]
theorem ain (n:Int)(l:bQ)(k:Nat)(h:k<n.toNat):(G2 n l).set k true=G2 n (l++[(k:Int)]):=by
 apply List.ext_getElem;simp[G2];intro j h1 h2;rw[List.getElem_set];split;rename_i e;subst e;rw[IV];simp;rename_i e;rw[IV,IV];simp only[List.contains_append];have:([(k:Int)].contains (j:Int))=false:=by simp;omega
 rw[this];simp
theorem aaH {T:(aw Bool×Int->az Bool)->aw Bool×Int->az Bool}(n:Int)(l:bQ)(hl:l.length<=10^9)
 (hs:∀i (hi:i<l.length)(s:aw Bool) nx,T nx (s,(i:Int))=aa (cond (!(cY l[i] 0 (n-1))) (some true) (aa (idx s l[i]) λx=>some x)) λq=>
  cond q (some false) (aa (idx s l[i]) λ_=>aa (idx s l[i]) λ_=>nx (s.set l[i].toNat true,((i+1:Nat):Int)))) (hf:∀s nx,T nx (s,(l.length:Int))=some true):
 bh T fuel (List.replicate n.toNat false,0)=some ((range l.length).all (Hx n l)):=by
 have e0:(List.replicate n.toNat false,(0:Int))=(G2 n (l.take 0),((0:Nat):Int)):=by congr 1;simp only[G2,List.take_zero,List.contains_nil,List.map_const',List.length_range]
 rw[e0,Ir (hit:=some false) (fin:=some true) (λi=>(G2 n (l.take i),(i:Int))) (Hx n l) l.length (by omega) (λi nx hi hp=>?hs) (λ_ nx=>hf _ nx)]
 case hs=>
  rw[hs i hi]
  unfold Hx
  rw[bN hi]
  by_cases yK:cY l[i] 0 (n-1)=true
  ·have hb:=yK
   rw[aX]at hb
   obtain⟨k,hk⟩:∃k:Nat,l[i]=(k:Int):=⟨l[i].toNat,by omega⟩
   have hkn:k<(G2 n (l.take i)).length:=by rw[Vk];omega
   rw[yK,hk,bc hkn,IV]
   simp only[al,ae,ab,aZ,ff,ax]
   rw[ain _ _ _ (by rw[Vk]at hkn;exact hkn),<-hk,<-aV hi]
  ·have aql:cY l[i] 0 (n-1)=false:=by simpa using yK
   rw[aql];rfl
 cases (range l.length).all (Hx n l)<;>rfl
theorem vt (p:ei)(h:p.2.2.2.length<=10^9):ji p=some (dN p):=by
 unfold ji dN;simp only[cn,ab,bB];by_cases hn:cY p.2.2.1 0 16=true
 ·have hb:=hn;rw[aX]at hb;rw[zip,aL,aaH p.2.2.1 p.2.2.2 h (λi hi s nx=>?hs) (λs nx=>?hf)]
  case hs=>
   simp only[yj]
   rw[iH,bc hi,aj (n:=(i:Int)+1),aj (n:=p.2.2.1-1)]
   simp only[ah,ab,cn];rfl
  case hf=>
   simp only[yj]
   rw[cD];rfl
  rw[hn];cases cY p.1 0 130944<;>cases cY p.2.1 1 512<;>rfl
 have Fb:cY p.2.2.1 0 16=false:=by simpa using hn
 rw[Fb];cases cY p.1 0 130944<;>cases cY p.2.1 1 512<;>rfl
theorem Lx (p:ei)(h:p.2.2.2.length<=10^9):sN p=some (dN p):=by
 unfold sN dN;simp only[dW,ab,bB];by_cases hn:cY p.2.2.1 0 16=true
 ·have hb:=hn;rw[aX]at hb;rw[zip,aL,aaH p.2.2.1 p.2.2.2 h (λi hi s nx=>?hs) (λs nx=>?hf)]
  case hs=>
   simp only[xz]
   rw[iH,bc hi,aj (n:=(i:Int)+1),aj (n:=p.2.2.1-1)]
   simp only[ah,ab,dW];rfl
  case hf=>
   simp only[xz]
   rw[cD];rfl
  rw[hn];cases cY p.1 0 130944<;>cases cY p.2.1 1 512<;>rfl
 have Fb:cY p.2.2.1 0 16=false:=by simpa using hn
 rw[Fb];cases cY p.1 0 130944<;>cases cY p.2.1 1 512<;>rfl
def jB (n:Int):Bool:=(n==2)||((n==4)||((n==8)||(n==16)))
theorem Gc (n:Int):uy n=some (jB n):=by simp only[uy,bB,ab,jB,cT]
theorem HW (n:Int):vk n=some (jB n):=Gc n
theorem hR {n:Int}:jB n=true↔n=2\/n=4\/n=8\/n=16:=by simp[jB]
theorem FG (x:Int)(k:Nat)(hk:k<=64:=by omega):ar x%(2^k:Int)=x%(2^k:Int):=by
 obtain⟨c,hc⟩:∃c:Int,(18446744073709551616:Int)=2^k*c:=⟨2^(64-k),by rw[<-Int.pow_add,show k+(64-k)=64 by omega];rfl⟩
 have:ar x=x\/∃q:Int,ar x=x+18446744073709551616*q:=by
  right;simp only[ar,iA,IntKind.wrap,IntKind.bits,IntKind.signed];simp;have h1:x=x%18446744073709551616+18446744073709551616*(x/18446744073709551616):=by omega
  split;exact⟨-(x/18446744073709551616)-1,by omega⟩;exact⟨-(x/18446744073709551616),by omega⟩
 rcases this with h|⟨q,h⟩;rw[h];rw[h,hc,Int.mul_assoc,Int.add_mul_emod_self_left]
theorem E1 (x:Int)(k:Nat)(hk:k<63:=by omega):((fQ x&&&fQ (2^k-1)).toNat:Int)=x%2^k:=by
 have h2:(2:Int)^k<=2^62:=by have:(2:Nat)^k<=2^62:=Nat.pow_le_pow_right (by omega) (by omega);exact_mod_cast this
 have h0:(1:Int)<=2^k:=by have:1<=(2:Nat)^k:=Nat.one_le_two_pow;exact_mod_cast this
 have hm:(fQ (2^k-1)).toNat=2^k-1:=by
  show(BitVec.ofInt 64 (2^k-1)).toNat=2^k-1;rw[BitVec.toNat_ofInt,Int.emod_eq_of_lt (by omega) (by omega)];have:((2:Int)^k-1)=((2^k-1:Nat):Int):=by have:1<=(2:Nat)^k:=Nat.one_le_two_pow;push_cast [this];rfl
  rw[this];rfl
 rw[BitVec.toNat_and,hm,Nat.and_two_pow_sub_one_eq_mod];show(((BitVec.ofInt 64 x).toNat%2^k:Nat):Int)=x%2^k;rw[BitVec.toNat_ofInt];have hx:0<=x%18446744073709551616:=by omega
 have e:(((x%18446744073709551616).toNat%2^k:Nat):Int)=(x%18446744073709551616)%2^k:=by push_cast;rw[Int.toNat_of_nonneg hx]
 refine e.trans ?_;exact Int.emod_emod_of_dvd x ⟨2^(64-k),by rw[<-Int.pow_add,show k+(64-k)=64 by omega];rfl⟩
theorem UU (x n:Int)(h0:0<n:=by omega)(h1:n<=4611686018427387904:=by omega):kj x n=some (x%n):=by
 unfold kj;have:=fH x (show n≠0 by omega);have:=fK x h0;have hn:(n.natAbs:Int)=n:=by omega
 rw[nI,Int.tmod_eq_emod];split;rw[cD];simp;rw[iH,aj];simp only[ah,hn];congr 1;omega
def cl (r:od):Int:=if jB r.2.1 then(r.2.2.2-r.2.2.1)%(2*r.2.1) else 0
theorem Dm (r:od):jW r=some (cl r):=by
 unfold jW cl;rw[Gc,ab];cases hs:jB r.2.1 with
 |false=>rfl
 |true=>
  simp only[al,ae,cz];congr 1;rcases hR.1 hs with h|h|h|h<;>rw[h];have e:ar (ar (2*2)-1)=2^2-1:=by decide
  rw[e,E1 _ 2,FG _ 2,aj];rfl;have e:ar (ar (2*4)-1)=2^3-1:=by decide
  rw[e,E1 _ 3,FG _ 3,aj];rfl;have e:ar (ar (2*8)-1)=2^4-1:=by decide
  rw[e,E1 _ 4,FG _ 4,aj];rfl;have e:ar (ar (2*16)-1)=2^5-1:=by decide
  rw[e,E1 _ 5,FG _ 5,aj];rfl
theorem alj (r:od):zU r=some (cl r):=by unfold zU cl;rw[HW,ab];cases hs:jB r.2.1 with|false=>rfl|true=>simp only[al,ae,cz];have hb:=hR.1 hs;rw[aj (n:=2*r.2.1)];have a1:=fH r.2.2.2 (show 2*r.2.1≠0 by omega);have a2:=fK r.2.2.2 (show 0<2*r.2.1 by omega);have a3:=fH r.2.2.1 (show 2*r.2.1≠0 by omega);have a4:=fK r.2.2.1 (show 0<2*r.2.1 by omega);simp only[UU _ (2*r.2.1) (show 0<2*r.2.1 by omega),ab];rw[aj,<-Int.sub_emod]
def dF (r:od):Bool:=cY r.1 0 130944&&(jB r.2.1&&(cY r.2.2.1 0 (2*r.2.1-1)&&(cY r.2.2.2 0 (2*r.2.1-1)&&decide (cl r<=r.2.1))))
theorem CG {n:Int}(h:jB n=true):ar (ar (2*n)-1)=2*n-1:=by have:=hR.1 h;rw[aj (n:=2*n),aj]
theorem Bc (r:od):kq r=some (dF r):=by unfold kq dF;simp only[cn,Gc,Dm,ab,bB,cF];cases hs:jB r.2.1 with|false=>rfl|true=>rw[CG hs]
theorem ZN (r:od):AN r=some (dF r):=by unfold AN dF;simp only[dW,HW,alj,ab,bB,cF];cases hs:jB r.2.1 with|false=>rfl|true=>rw[CG hs]
theorem yT (p:ei)(h:p.2.2.2.length<=10^9):jX p=some p:=by unfold jX;rw[aL (by simp;omega)];rfl
theorem Hg (l:bQ)(h:l.length<=10^9):qV l=some l:=by unfold qV;rw[aL (by simp;omega)];rfl
theorem Yo (p:ei)(h:p.2.2.2.length<=10^9):vi p=some p:=by unfold vi;rw[Hg _ h];rfl
def ic (p:ei)(l:bQ):ei:=(p.1,p.2.1,p.2.2.1,p.2.2.2++l)
def BH (p:ei)(l:bQ):Bool:=dN p&&dN (ic p l)
def Hz (p:ei)(l:bQ):ei×Bool:=bif BH p l then(ic p l,true) else(p,false)
theorem Sh (p:ei)(l:bQ)(h:p.2.2.2.length+l.length<=10^9):ig p l=some (Hz p l):=by unfold ig;rw[yT p (by omega),ab,aL,vt p (by omega)];rw[vt (p.1,p.2.1,p.2.2.1,p.2.2.2++l) (by simp;omega)];simp only[ab,bB,Hz,BH];show _=some (bif dN p&&dN (p.1,p.2.1,p.2.2.1,p.2.2.2++l) then _ else _);cases dN p<;>cases dN (p.1,p.2.1,p.2.2.1,p.2.2.2++l)<;>rfl
theorem ak8 (p:ei)(l:bQ)(h:p.2.2.2.length+l.length<=10^9):lA p l=some (Hz p l):=by unfold lA;rw[Yo p (by omega),ab,aL,Lx p (by omega)];rw[Lx (p.1,p.2.1,p.2.2.1,p.2.2.2++l) (by simp;omega)];simp only[ab,bB,Hz,BH];show _=some (bif dN p&&dN (p.1,p.2.1,p.2.2.1,p.2.2.2++l) then _ else _);cases dN p<;>cases dN (p.1,p.2.1,p.2.2.1,p.2.2.2++l)<;>rfl
theorem akF (p:ei)(l:bQ):(Hz p l).2=BH p l:=by unfold Hz;cases BH p l<;>rfl
def jT (n:Int)(s:xb):Bool:=cY s.2.1 1 n&&cY s.1 0 65535
def bG (l:aw xb):bQ:=l.flatMap (·.2.2)
def dI (l:aw xb):Int:=(l.map (·.2.1)).sum
def Pm (t:dx):Bool:=dF t.1&&(dN t.2.1&&(cY t.2.2.2 0 65535&&(t.2.2.1.all (jT t.1.2.1)&&(BH t.2.1 (bG t.2.2.1)&&decide (dI t.2.2.1<=t.1.2.1)))))
theorem BL (n:Int):∀l:aw xb,l.all (jT n)=true->0<=dI l
 |[],_=>by simp[dI]
 |x::l,h=>by simp only[bX,af]at h;have:=BL n l h.2;have hx:=h.1;unfold jT at hx;simp only[af,aX]at hx;simp only[dI,db,eI]at this⊢;omega
theorem Vu (p:ei)(n:Int)(hn:0<=n/\n<=16)(fin:Int×bQ->az Bool)(pB:∀s:Int×bQ,p.2.2.2.length+s.2.length<=10^9->fin s=some (BH p s.2&&decide (s.1<=n))):
 ∀(l:aw xb)(sum:Int)(acc:bQ),0<=sum->sum+16*l.length<=100000000000->p.2.2.2.length+(acc.length+(bG l).length)<=10^9->
 yJ (λx (s:Int×bQ) k=>cond (!(jT n x)) (some false) (room (s.2.length+x.2.2.length) (k (ar (s.1+x.2.1),s.2++x.2.2)))) fin l (sum,acc)
  =some (l.all (jT n)&&(BH p (acc++bG l)&&decide (sum+dI l<=n)))
 |[],sum,acc,h0,h1,h2=>by rw[yJ,pB _ (by simp[bG]at h2;exact h2)];simp[bG,dI]
 |x::l,sum,acc,h0,h1,h2=>by
  have hb:bG (x::l)=x.2.2++bG l:=by simp[bG]
  rw[hb,ai]at h2;rw[yJ,bX];cases hx:jT n x with
  |false=>rfl
  |true=>
   have D6:=hx;unfold jT at D6;simp only[af,aX]at D6;simp only[bg,Int.natCast_add,Int.natCast_one]at h1;simp only[al,ae,aZ];rw[aL,aj,Vu p n hn fin pB l _ _ (by omega) (by omega) (by rw[ai];omega)];rw[hb,bj];have e:sum+x.2.1+dI l=sum+dI (x::l):=by simp only[dI,db,eI];omega
   rw[e]
theorem UK (p:ei)(n:Int)(hn:n<=16)(fin:Int×bQ->az Bool)(pB:∀s:Int×bQ,p.2.2.2.length+s.2.length<=10^9->fin s=some (BH p s.2)):
 ∀(l:aw xb)(left:Int)(acc:bQ),0<=left->left<=n->p.2.2.2.length+(acc.length+(bG l).length)<=10^9->
 yJ (λx (s:Int×bQ) k=>cond (decide (x.2.1<1)||(decide (x.2.1>s.1)|| !(cY x.1 0 65535))) (some false) (room (s.2.length+x.2.2.length) (k (ar (s.1-x.2.1),s.2++x.2.2)))) fin l (left,acc)
  =some (l.all (jT n)&&(BH p (acc++bG l)&&decide (dI l<=left)))
 |[],left,acc,h0,h1,h2=>by rw[yJ,pB _ (by simp[bG]at h2;exact h2)];simp[bG,dI,h0]
 |x::l,left,acc,h0,h1,h2=>by
  have hb:bG (x::l)=x.2.2++bG l:=by simp[bG]
  have hc:dI (x::l)=x.2.1+dI l:=by simp only[dI,db,eI]
  rw[hb,ai]at h2;rw[yJ,bX,hb,hc];by_cases c1:x.2.1<1;have e:jT n x=false:=by unfold jT cY;rw[aq (show¬1<=x.2.1 by omega)];rfl
  rw[e,au c1];rfl;rw[aq c1];by_cases c2:x.2.1>left;rw[au c2];simp only[iJ,cZ,gb,ah];cases ha:l.all (jT n)with|false=>simp|true=>have:=BL n l ha;rw[aq (show¬x.2.1+dI l<=left by omega)];simp
  rw[aq c2];have e:jT n x=cY x.1 0 65535:=by have:cY x.2.1 1 n=true:=aX.2 ⟨by omega,by omega⟩;unfold jT;rw[this];rfl
  rw[e];cases cY x.1 0 65535 with
  |false=>rfl
  |true=>
   simp only[cZ,al,ae,aZ];rw[aL,aj,UK p n hn fin pB l _ _ (by omega) (by omega) (by rw[ai];omega),bj];have e:decide (dI l<=left-x.2.1)=decide (x.2.1+dI l<=left):=by rw[cG];simp;omega
   rw[e]
theorem aeE (t:dx)(h1:t.2.2.1.length<=10^9)(h2:t.2.1.2.2.2.length+(bG t.2.2.1).length<=10^9):CH t=some (Pm t):=by
 unfold CH Pm;simp only[Bc,vt _ (show t.2.1.2.2.2.length<=10^9 by omega),cn,ab,bB];cases hr:dF t.1 with
 |false=>rfl
 |true=>
  have hn:0<=t.1.2.1/\t.1.2.1<=16:=by unfold dF at hr;simp only[af]at hr;have:=hR.1 hr.2.1;omega
  have GS:=fb;have key:=CB (R:=Bool) (T:=yq (λ(y9:Int) (EV:bQ) (_:Int)=>aa (ig t.2.1 EV) λJH=>some (bif JH.2 then decide (y9<=t.1.2.1) else false)) (λ(BB:Bool) (_:Int) (_:bQ) (_:Int)=>some BB) false t) t.2.2.1 (λ(s:Int×bQ) i=>(s.1,s.2,(i:Int))) (λx (s:Int×bQ) k=>cond (!(jT t.1.2.1 x)) (some false) (room (s.2.length+x.2.2.length) (k (ar (s.1+x.2.1),s.2++x.2.2)))) (λs=>aa (ig t.2.1 s.2) λJH=>some (JH.2&&decide (s.1<=t.1.2.1))) (λi hi s nx=>by simp only[yq];rw[iH,bc hi,aj (n:=(i:Int)+1)];simp only[ah,ab,cn,bB,jT];cases cY t.2.2.1[i].2.1 1 t.1.2.1<;>cases cY t.2.2.1[i].1 0 65535<;>rfl) (λs nx=>by simp only[yq];rw[cD];simp only[ae,bB,ab,cF]) fuel 0 (0,([]:bQ)) (by omega) (by omega);rw[eG,Vu t.2.1 t.1.2.1 hn _ (λs hs=>by rw[Sh _ _ hs,ab,akF]) _ _ _ (by omega) (by omega) (by simpa using h2)]at key;cases dN t.2.1 with|false=>rfl|true=>cases cY t.2.2.2 0 65535 with|false=>rfl|true=>refine key.trans ?_;simp
theorem aqI (t:dx)(h1:t.2.2.1.length<=10^9)(h2:t.2.1.2.2.2.length+(bG t.2.2.1).length<=10^9):IP t=some (Pm t):=by
 unfold IP Pm;simp only[ZN,Lx _ (show t.2.1.2.2.2.length<=10^9 by omega),dW,ab,bB];cases hr:dF t.1 with
 |false=>rfl
 |true=>
  have hn:0<=t.1.2.1/\t.1.2.1<=16:=by unfold dF at hr;simp only[af]at hr;have:=hR.1 hr.2.1;omega
  have GS:=fb;have key:=CB (R:=Bool) (T:=xD (λ(_:Int) (y9:bQ) (_:Int)=>aa (lA t.2.1 y9) λuQ=>some uQ.2) (λ(Cs:Bool) (_:Int) (_:bQ) (_:Int)=>some Cs) false t.2.2.1 ((List.length t.2.2.1:Int)) t) t.2.2.1 (λ(s:Int×bQ) i=>(s.1,s.2,(i:Int))) (λx (s:Int×bQ) k=>cond (decide (x.2.1<1)||(decide (x.2.1>s.1)|| !(cY x.1 0 65535))) (some false) (room (s.2.length+x.2.2.length) (k (ar (s.1-x.2.1),s.2++x.2.2)))) (λs=>aa (lA t.2.1 s.2) λJH=>some JH.2) (λi hi s nx=>by simp only[xD];rw[iH,bc hi,aj (n:=(i:Int)+1)];simp only[ah,ab,dW,bB,cT];rfl) (λs nx=>by simp only[xD];rw[cD];rfl) fuel 0 (t.1.2.1,([]:bQ)) (by omega) (by omega);rw[eG,UK t.2.1 t.1.2.1 (by omega) _ (λs hs=>by rw[ak8 _ _ hs,ab,akF]) _ _ _ (by omega) (by omega) (by simpa using h2)]at key;cases dN t.2.1 with|false=>rfl|true=>cases cY t.2.2.2 0 65535 with|false=>rfl|true=>refine key.trans ?_;simp
def vr (s:fi):Bool:=cY s.2.1 0 65535&&(cY s.2.2.1 0 65535&&(!decide ((List.length s.2.2.2.2.2.2.2:Int)>320)&&
 (bif s.1==17 then(s.2.2.2.1==0)&&((s.2.2.2.2.1==0)&&((s.2.2.2.2.2.1==0)&&(s.2.2.2.2.2.2.1==0)))
  else(s.1==6)&&(cY s.2.2.2.1 0 4294967295&&(cY s.2.2.2.2.1 0 4294967295&&(cY s.2.2.2.2.2.1 0 31&&cY s.2.2.2.2.2.2.1 0 65535))))))
theorem af5 (s:fi):ti s=some (vr s):=by simp only[ti,cn,ab,bB,cF,cT,cN,Bool.not_or,ff,Bool.and_assoc,vr]
theorem afw (s:fi):sO s=some (vr s):=by simp only[sO,dW,ab,bB,cF,cT,cN,Bool.not_or,ff,Bool.and_assoc,vr];by_cases h:s.1=17;rw[h];rfl;rw[show(s.1==17)=false from by simpa using h];cases s.1==6<;>rfl
def FR (f:Int):Bool:=(f==16)||(f==17)||(f==24)||(f==25)
theorem Ki (f:Int)(h:cY f 0 31=true):(ar (toNat (fQ f&&&~~~ fQ 9))==16)=FR f:=by
 have key:∀k:Fin 32,(ar (toNat (fQ (k.val:Int)&&&~~~ fQ 9))==16)=FR (k.val:Int):=by decide
 rw[aX]at h;have:=key ⟨f.toNat,by omega⟩;rwa[show((f.toNat:Nat):Int)=f by omega]at this
theorem acW (f:Int)(h:cY f 0 31=true):xJ f=some (FR f):=by
 have key:∀k:Fin 32,((ar (toNat (fQ (k.val:Int)&&&fQ 16)) !=0)&&(ar (toNat (fQ (k.val:Int)&&&~~~ fQ 25))==0))=FR (k.val:Int):=by decide
 rw[aX]at h;have:=key ⟨f.toNat,by omega⟩;rw[show((f.toNat:Nat):Int)=f by omega]at this;simp only[xJ,bB,ab,cF];rw[this]
theorem IW {s:fi}(h:vr s=true)(h6:(s.1==6)=true):cY s.2.2.2.2.2.1 0 31=true:=by
 have:s.1=6:=by simpa using h6
 unfold vr at h;rw[this]at h;simp only[af]at h;have h:=h.2.2.2;simp at h;exact h.2.2.1
def ql (p:aD):Bool:=cY p.1 0 281474976710655&&(cY p.2.1 0 281474976710655&&(cY p.2.2.1 (-1) 4095&&(cY p.2.2.2.1 0 255&&(cY p.2.2.2.2.2.1 0 255&&(cY p.2.2.2.2.1 0 65535&&(cY p.2.2.2.2.2.2.1 0 4294967295&&(cY p.2.2.2.2.2.2.2.1 0 4294967295&&vr p.2.2.2.2.2.2.2.2)))))))
def dw (p:aD):Bool:=ql p&&(decide ((List.length p.2.2.2.2.2.2.2.2.2.2.2.2.2.2.2:Int)<=128)||(p.2.2.2.2.2.2.2.2.1==6)&&FR p.2.2.2.2.2.2.2.2.2.2.2.2.2.1)
theorem CU (h:ql p=true):vr p.2.2.2.2.2.2.2.2=true:=by unfold ql at h;simp only[af]at h;exact h.2.2.2.2.2.2.2.2
theorem oN (p:aD):gM p=some (dw p):=by unfold gM dw;simp only[cn,af5,ab,bB,cF,cT,cN,Bool.not_or,ff];rw[show(cY p.1 0 281474976710655&&(cY p.2.1 0 281474976710655&&(cY p.2.2.1 (-1) 4095&&(cY p.2.2.2.1 0 255&&(cY p.2.2.2.2.2.1 0 255&&(cY p.2.2.2.2.1 0 65535&&(cY p.2.2.2.2.2.2.1 0 4294967295&&(cY p.2.2.2.2.2.2.2.1 0 4294967295&&vr p.2.2.2.2.2.2.2.2))))))))=ql p from rfl];cases hh:ql p with|false=>rfl|true=>cases h6:p.2.2.2.2.2.2.2.2.1==6 with|false=>simp|true=>rw[Ki _ (IW (CU hh) h6)];simp[Bool.or_comm]
theorem qR (p:aD):ib p=some (dw p):=by
 unfold ib dw;simp only[dW,afw,ab];have e:∀X:az Bool,(cond (cY p.1 0 281474976710655) (cond (cY p.2.1 0 281474976710655) (cond (cY p.2.2.1 (-1) 4095) (cond (cY p.2.2.2.1 0 255) (cond (cY p.2.2.2.2.2.1 0 255) (cond (cY p.2.2.2.2.1 0 65535) (cond (cY p.2.2.2.2.2.2.1 0 4294967295) (cond (cY p.2.2.2.2.2.2.2.1 0 4294967295) (cond (vr p.2.2.2.2.2.2.2.2) X (some false)) (some false)) (some false)) (some false)) (some false)) (some false)) (some false)) (some false)) (some false))=cond (ql p) X (some false):=by intro X;unfold ql;cases cY p.1 0 281474976710655;rfl;cases cY p.2.1 0 281474976710655;rfl;cases cY p.2.2.1 (-1) 4095;rfl;cases cY p.2.2.2.1 0 255;rfl;cases cY p.2.2.2.2.2.1 0 255;rfl;cases cY p.2.2.2.2.1 0 65535;rfl;cases cY p.2.2.2.2.2.2.1 0 4294967295;rfl;cases cY p.2.2.2.2.2.2.2.1 0 4294967295<;>rfl
 rw[e];cases hh:ql p with|false=>rfl|true=>cases h6:p.2.2.2.2.2.2.2.2.1==6 with|false=>simp[bB]|true=>rw[acW _ (IW (CU hh) h6)];simp only[ah,ab,bB,cT,aZ]
def gn (q:uK):Bool:=cY q.1 0 130944&&(jB q.2.1&&cY q.2.2 0 (ar ((ar (2*q.2.1))-1)))
theorem Ny (q:uK):pX q=some (gn q):=by simp only[pX,cn,Gc,ab,bB,cF,gn]
theorem ahn (q:uK):xB q=some (gn q):=by simp only[xB,dW,HW,ab,bB,cF,gn]
def aiZ:uF:=((0,0,0,0,0,0,0,0,0,0,0,0,0,0,0,([]:Bytes)),0,0)
def abx (p:uF):Bool:=(p.1.1==0)&&((p.1.2.1==0)&&((p.1.2.2.1==0)&&((p.1.2.2.2.1==0)&&((p.1.2.2.2.2.1==0)&&((p.1.2.2.2.2.2.1==0)&&((p.1.2.2.2.2.2.2.1==0)&&((p.1.2.2.2.2.2.2.2.1==0)&&((p.1.2.2.2.2.2.2.2.2.1==0)&&((p.1.2.2.2.2.2.2.2.2.2.1==0)&&((p.1.2.2.2.2.2.2.2.2.2.2.1==0)&&((p.1.2.2.2.2.2.2.2.2.2.2.2.1==0)&&((p.1.2.2.2.2.2.2.2.2.2.2.2.2.1==0)&&((p.1.2.2.2.2.2.2.2.2.2.2.2.2.2.1==0)&&((p.1.2.2.2.2.2.2.2.2.2.2.2.2.2.2.1==0)&&((p.1.2.2.2.2.2.2.2.2.2.2.2.2.2.2.2==([]:Bytes))&&((p.2.1==0)&&((p.2.2==0)&&true)))))))))))))))))
def KS (r:cU):Bool:=(dF r.1&&(gn r.2.1&&(gn r.2.2.1&&((r.2.1.1==r.2.2.1.1)&&((r.2.1.2.1==r.2.2.1.2.1)&&cY r.2.2.2.2.2 0 1000000000000)))))&&
 (bif r.2.2.2.2.1 then dw r.2.2.2.1.1&&(cY r.2.2.2.1.2.1 0 320&&cY r.2.2.2.1.2.2 1 320) else abx r.2.2.2.1)
theorem amp (p:uF):abx p=true↔p=aiZ:=by obtain⟨⟨a,b,c,d,e,f,g,h,i,j,k,l,m,n,o,q⟩,r,s⟩:=p;simp only[abx,aiZ,fC,af,ba,Prod.mk.injEq,and_assoc]
theorem XJ (r:cU):zu r=some (KS r):=by unfold zu KS abx;simp only[Bc,Ny,cn,oN,ab,bB,cF,cT,cN,Bool.not_or,ff,bne];cases r.2.2.2.2.1<;>rfl
theorem aqH (r:cU):IM r=some (KS r):=by unfold IM KS abx;simp only[ZN,ahn,dW,qR,ab,bB,cF,cT,cN,Bool.not_or,ff,bne];cases r.2.2.2.2.1<;>rfl
def fy (v:Vector):Bool:=(hZ v).getD false
theorem sZ (v:Vector):hZ v=some (fy v):=by
 have:∃b,hZ v=some b:=by simp only[hZ,tj,cn,ab,bB];exact⟨_,rfl⟩
 obtain⟨b,hb⟩:=this;rw[fy,hb];rfl
theorem adw (v:Vector):EF v=some (fy v):=sZ v
theorem Ni (l:aw α)(p:α->Bool):(range l.length).all (λi=>l[i]?.all p)=l.all p:=by rw[cG,aF,aF];constructor;intro h x hx;obtain⟨i,hi,rfl⟩:=List.getElem_of_mem hx;have:=h i (bE.2 hi);rwa[ak hi]at this;intro h i hi;rw[ak (bE.1 hi)];exact h _ (aB _)
theorem aeZ (l:aw α)(p q:α->Bool):l.all (λx=>p x&&q x)=(l.all p&&l.all q):=by induction l with|nil=>rfl|cons x l ih=>simp only[bX,ih];cases p x<;>cases q x<;>cases l.all p<;>rfl
def gX (h:Host):bQ:=[h.2.2.2.2.2.2.2.2.2.2.2.2.2.2.1,h.2.2.2.2.2.2.2.2.2.2.2.2.2.2.2.1,h.2.2.2.2.2.2.2.2.2.2.2.2.2.2.2.2.1,h.2.2.2.2.2.2.2.2.2.2.2.2.2.2.2.2.2.1,h.2.2.2.2.2.2.2.2.2.2.2.2.2.2.2.2.2.2]
def qu (h:Host):Bool:=cY (h.2.2.2.1.length:Int) 1 2&&(((h.2.2.2.2.1.length:Int)==(h.2.2.2.1.length:Int))&&(((h.2.2.2.2.2.1.length:Int)==(h.2.2.2.1.length:Int))&&((h.2.2.2.2.2.2.1.length:Int)==(h.2.2.2.1.length:Int))))
def Vf (h:Host):Bool:=h.2.2.2.1.all KS&&(h.2.2.2.2.1.all dN&&h.2.2.2.2.2.1.all fy)
def eL (h:Host):Bool:=dv h.1&&(gF h.2.1&&(Pm h.2.2.1&&(dG h.2.2.2.2.2.2.2.1&&(qu h&&(eC h.2.2.2.2.2.2.2.2.1 (h.2.2.2.1.length:Int)&&(Vf h&&(gX h).all (λx=>cY x 0 1000000000000)))))))
structure J2 (h:Host):Prop where
 a1:h.1.length<=10^9
 a2:h.2.1.length<=10^9
 t1:h.2.2.1.2.2.1.length<=10^9
 t2:h.2.2.1.2.1.2.2.2.length+(bG h.2.2.1.2.2.1).length<=10^9
 f1:h.2.2.2.2.2.2.2.1.2.2.length<=10^9
 s1:h.2.2.2.2.2.2.2.2.1.1.length<=10^9
 s2:h.2.2.2.2.2.2.2.2.1.2.1.length<=10^9
 s3:h.2.2.2.2.2.2.2.2.1.2.2.2.length<=10^9
 p1:∀p∈h.2.2.2.2.1,p.2.2.2.length<=10^9
theorem rN (l:qu h=true):h.2.2.2.1.length<=2/\h.2.2.2.2.1.length=h.2.2.2.1.length/\h.2.2.2.2.2.1.length=h.2.2.2.1.length/\h.2.2.2.2.2.2.1.length=h.2.2.2.1.length:=by unfold qu at l;simp only[af,aX,ba]at l;omega
theorem Vg {T:(Int->az R)->Int->az R}{fin hit:az R}(l:qu h=true)(hs:∀i (hi:i<h.2.2.2.1.length) nx,T nx (i:Int)=cond (!(KS h.2.2.2.1[i]&&(dN (h.2.2.2.2.1[i]'((rN l).2.1▸hi))&&fy (h.2.2.2.2.2.1[i]'((rN l).2.2.1▸hi))))) hit (nx ((i+1:Nat):Int)))(hf:∀nx,T nx (h.2.2.2.1.length:Int)=fin):bh T fuel 0=cond (Vf h) fin hit:=by
 have hl:=rN l;rw[gO (fin:=fin) (hit:=hit) (λi=>h.2.2.2.1[i]?.all KS&&(h.2.2.2.2.1[i]?.all dN&&h.2.2.2.2.2.1[i]?.all fy)) h.2.2.2.1.length (by omega) ?hs hf]
 case hs=>
  intro i nx hi
  rw[hs i hi,ak hi,ak (hl.2.1▸hi),ak (hl.2.2.1▸hi)]
  rfl
 rw[aeZ,aeZ,Ni];have e1:=Ni h.2.2.2.2.1 dN;have e2:=Ni h.2.2.2.2.2.1 fy;rw[hl.2.1]at e1;rw[hl.2.2.1]at e2;rw[e1,e2];rfl
theorem NL {T:(Int->az R)->Int->az R}{fin hit:az R}(h:Host)(hs:∀i (hi:i<(gX h).length) nx,T nx (i:Int)=cond (!(cY (gX h)[i] 0 1000000000000)) hit (nx ((i+1:Nat):Int)))(hf:∀nx,T nx ((gX h).length:Int)=fin):bh T fuel 0=cond ((gX h).all (λx=>cY x 0 1000000000000)) fin hit:=wS (λx=>cY x 0 1000000000000) (gX h) (by simp[gX]) hs hf
theorem sY (h:Host)(z:J2 h):jh h=some (eL h):=by
 unfold jh eL;simp only[Gu _ z.a1,Mb _ z.a2,aeE _ z.t1 z.t2,nr _ z.f1,B7 _ _ z.s1 z.s2 z.s3,cn,ab,bB];cases dv h.1;rfl;cases gF h.2.1;rfl;cases Pm h.2.2.1;rfl;cases dG h.2.2.2.2.2.2.2.1;rfl;simp only[al,ae,cT,bne];rw[show(!cY (h.2.2.2.1.length:Int) 1 2||(!((h.2.2.2.2.1.length:Int)==(h.2.2.2.1.length:Int))||(!((h.2.2.2.2.2.1.length:Int)==(h.2.2.2.1.length:Int))||(!((h.2.2.2.2.2.2.1.length:Int)==(h.2.2.2.1.length:Int))|| !eC h.2.2.2.2.2.2.2.2.1 (h.2.2.2.1.length:Int)))))= !(qu h&&eC h.2.2.2.2.2.2.2.2.1 (h.2.2.2.1.length:Int)) by unfold qu;simp only[iI,Bool.or_assoc]];cases hl:qu h;rfl;cases eC h.2.2.2.2.2.2.2.2.1 (h.2.2.2.1.length:Int);rfl;have hL:=rN hl;simp only[fC,al,ae,aZ];rw[Vg (h:=h) (hit:=some false) (fin:=some ((gX h).all (λx=>cY x 0 1000000000000))) hl ?hs ?hf]
 case hs=>
  intro i hi nx
  simp only[yf]
  rw[iH,bc hi,bc (hL.2.1▸hi),bc (hL.2.2.1▸hi),aj (n:=(i:Int)+1)]
  simp only[ah,ab,XJ,sZ,vt _ (z.p1 _ (aB _)),bB,cT,iI]
  rfl
 case hf=>
  intro nx
  simp only[yf]
  rw[cD]
  simp only[ae]
  refine(NL (fin:=some true) (hit:=some false) h ?_ ?_).trans ?_
  ·intro i hi nx
   simp only[vX]
   have wV:i<5:=hi
   change (bif decide ((i:Int)<5) then aa (idx (gX h) (i:Int)) _ else _)=_
   rw[iH,bc hi,aj (n:=(i:Int)+1),ab,cn]
   rfl
  ·intro nx
   simp only[vX]
   rw[aq (by simp[gX])];rfl
  ·cases (gX h).all (λx=>cY x 0 1000000000000)<;>rfl
 cases Vf h<;>rfl
theorem ZI (h:Host)(z:J2 h):AM h=some (eL h):=by
 unfold AM eL;simp only[adr _ z.a1,W0 _ z.a2,aqI _ z.t1 z.t2,pC _ z.f1,F3 _ _ z.s1 z.s2 z.s3,dW,ab,bB];cases dv h.1;rfl;cases gF h.2.1;rfl;cases Pm h.2.2.1;rfl;cases dG h.2.2.2.2.2.2.2.1;rfl;simp only[al,ae,cT,bne];rw[show(!cY (h.2.2.2.1.length:Int) 1 2||(!((h.2.2.2.2.1.length:Int)==(h.2.2.2.1.length:Int))||(!((h.2.2.2.2.2.1.length:Int)==(h.2.2.2.1.length:Int))|| !((h.2.2.2.2.2.2.1.length:Int)==(h.2.2.2.1.length:Int)))))= !(qu h) by unfold qu;simp only[iI]];cases hl:qu h;rfl;have hL:=rN hl;simp only[al,ae,aZ];rw[Vg (h:=h) (hit:=some false) (fin:=some ((gX h).all (λx=>cY x 0 1000000000000)&&eC h.2.2.2.2.2.2.2.2.1 (h.2.2.2.1.length:Int))) hl ?hs ?hf]
 case hs=>
  intro i hi nx
  simp only[xv]
  rw[iH,bc hi,bc (hL.2.1▸hi),bc (hL.2.2.1▸hi),aj (n:=(i:Int)+1)]
  simp only[ah,ab,aqH,adw,Lx _ (z.p1 _ (aB _)),bB,cT,iI]
  rfl
 case hf=>
  intro nx
  simp only[xv]
  rw[cD]
  simp only[ae]
  refine(NL (fin:=some (eC h.2.2.2.2.2.2.2.2.1 (h.2.2.2.1.length:Int))) (hit:=some false) h ?_ ?_).trans ?_
  ·intro i hi nx
   simp only[vM]
   have wV:i<5:=hi
   change (bif decide ((i:Int)<5) then aa (idx (gX h) (i:Int)) _ else _)=_
   rw[iH,bc hi,aj (n:=(i:Int)+1),ab,dW]
   rfl
  ·intro nx
   simp only[vM]
   rw[aq (by simp[gX])];rfl
  ·cases (gX h).all (λx=>cY x 0 1000000000000)<;>rfl
 cases Vf h<;>cases eC h.2.2.2.2.2.2.2.2.1 (h.2.2.2.1.length:Int)<;>cases (gX h).all (λx=>cY x 0 1000000000000)<;>rfl
def hasB (l:bQ)(v:Int):Bool:=l.any (·==v)
theorem Ln:hasB l v=true↔v∈l:=by simp only[hasB,List.any_eq_true,ba];constructor;rintro⟨x,hx,rfl⟩;exact hx;intro h;exact⟨v,h,rfl⟩
theorem Gt (l:bQ)(v:Int)(h:l.length<=10^9):iV l v=some (hasB l v):=by
 unfold iV hasB;rw[KV (hit:=some true) (fin:=some false) (λx:Int=>x==v) l (by omega) (λi hi nx=>?hs) (λnx=>?hf)]
 case hs=>
  simp only[yx]
  rw[iH,bc hi,aj];rfl
 case hf=>
  simp only[yx]
  rw[cD];rfl
 cases l.any (λx=>x==v)<;>rfl
theorem BQ (l:bQ)(v:Int)(h:l.length<=10^9):gH l v=some (hasB l v):=by
 unfold gH hasB;rw[KV (hit:=some true) (fin:=some false) (λx:Int=>x==v) l (by omega) (λi hi nx=>?hs) (λnx=>?hf)]
 case hs=>
  simp only[xG]
  rw[iH,bc hi,aj];rfl
 case hf=>
  simp only[xG]
  rw[cD];rfl
 cases l.any (λx=>x==v)<;>rfl
def ins (v:Int):bQ->bQ
 |[]=>[v]
 |x::l=>bif decide (v<x) then v::x::l else x::ins v l
theorem Pz (v:Int):∀l,(ins v l).length=l.length+1
 |[]=>rfl
 |x::l=>by rw[ins];cases decide (v<x)with|true=>rfl|false=>simp only[ae,bg,Pz v l]
theorem afF (v x:Int):∀l,x∈ins v l↔x=v\/x∈l
 |[]=>by simp[ins]
 |y::l=>by rw[ins];cases decide (v<y)with|true=>simp|false=>simp only[ae,bZ,afF v x l];constructor<;>(rintro(h|h|h)<;>simp[h])
theorem ady (v:Int):∀l:bQ,v∉l->l.take (l.findIdx (λx=> !decide (x<v)))++[v]++l.drop (l.findIdx (λx=> !decide (x<v)))=ins v l
 |[],_=>rfl
 |x::l,h=>by rw[ins,List.findIdx_cons];have hx:v≠x:=λe=>h (by simp[e]);have hl:v∉l:=λe=>h (by simp[e]);by_cases c:x<v;rw[au c,aq (show¬v<x by omega)];have:=ady v l hl;simpa using this;rw[aq c,au (show v<x by omega)];rfl
def yO (l:bQ)(v:Int):bQ:=bif hasB l v then l else ins v l
theorem KU (l:bQ)(v:Int):(yO l v).length<=l.length+1:=by unfold yO;cases hasB l v with|true=>simp|false=>simp only[ae,Pz];omega
theorem alx {x:Int}(h:x∈l):x∈yO l v:=by unfold yO;cases hasB l v with|true=>exact h|false=>exact(afF v x l).2 (.inr h)
theorem agz (h:v∈l):yO l v=l:=by unfold yO;rw[Ln.2 h];rfl
theorem FF:∀(vs l:bQ),(vs.foldl yO l).length<=l.length+vs.length
 |[],l=>by simp
 |v::vs,l=>by have:=FF vs (yO l v);have:=KU l v;simp only[dL,bg];omega
theorem M6:∀(vs:bQ){l:bQ}{x:Int},x∈l->x∈vs.foldl yO l
 |[],_,_,h=>h
 |v::vs,l,x,h=>M6 vs (l:=yO l v) (alx h)
theorem YG (p:α->Bool)(k:Int->az R)(l:aw α):(match l.findIdx? p with|some i=>k (i:Int)|none=>k (l.length:Int))=k (l.findIdx p:Int):=by cases h:l.findIdx? p with|none=>rw[List.findIdx?_eq_none_iff_findIdx_eq]at h;rw[h]|some i=>rw[List.findIdx?_eq_some_iff_findIdx_eq]at h;rw[h.2]
theorem Sy (l:aw α)(j:Nat)(h:j<=l.length):sub l 0 (j:Int)=some (l.take j):=by unfold sub;rw[zip];simp
theorem Mo (l:aw α)(j:Nat)(h:j<=l.length):sub l (j:Int) (l.length:Int)=some (l.drop j):=by unfold sub;rw[zip];simp
theorem Vy (a vs:bQ)(h:a.length+vs.length<=10^9):vH a vs=some (vs.foldl yO a):=by
 unfold vH;rw[aL (by simp only[da];omega)];rw[bz];have:=sV (T:=pt (λ(EV:bQ) (_:Int)=>some EV) vs) vs (λ(s:bQ) i=>(s,(i:Int))) (λi s=>s.length<=a.length+i) (λv s=> .ok (yO s v)) (λs=>some s) (by omega) (λi hi s nx hI=>?hs) (λi hi s s' hI hg=>?hn) (λs nx hI=>?hf) a (by simp)
 case hs=>
  simp only[pt]
  rw[iH,bc hi,aj (n:=(i:Int)+1)]
  simp only[ah,ab,Gt s vs[i] (by omega)]
  unfold yO
  cases hh:hasB s vs[i]with
  |true=>rfl
  |false=>
   have hm:vs[i]∉s:=λe=>by rw[Ln.2 e]at hh;cases hh
   simp only[ae]
   rw[Cv (hit:=λy6=>aa (sub s 0 y6) λx7=>room (List.length ([]:bQ)+List.length x7) (room (List.length (([]:bQ)++x7)+List.length ([vs[i]])) (aa (sub s y6 (s.length:Int)) λx9=>room (List.length ((([]:bQ)++x7)++([vs[i]]))+List.length x9) (nx (((([]:bQ)++x7)++([vs[i]]))++x9,(i:Int)+1)))))
    (fin:=aa (sub s 0 (s.length:Int)) λx7=>room (List.length ([]:bQ)+List.length x7) (room (List.length (([]:bQ)++x7)+List.length ([vs[i]])) (aa (sub s (s.length:Int) (s.length:Int)) λx9=>room (List.length ((([]:bQ)++x7)++([vs[i]]))+List.length x9) (nx (((([]:bQ)++x7)++([vs[i]]))++x9,(i:Int)+1)))))
    (λx=> !decide (x<vs[i])) s (by omega) (λj hj nx'=>?hs2) (λnx'=>?CV)]
   case hs2=>
    simp only[uB]
    rw[iH,bc hj,bc hi,aj (n:=(j:Int)+1)]
    simp only[ah,ab]
    cases decide (s[j]<vs[i])<;>rfl
   case CV=>
    simp only[uB]
    rw[cD];rfl
   refine Eq.trans (YG (λx=> !decide (x<vs[i])) (λy6=>aa (sub s 0 y6) λx7=>room (List.length ([]:bQ)+List.length x7) (room (List.length (([]:bQ)++x7)+List.length ([vs[i]])) (aa (sub s y6 (s.length:Int)) λx9=>room (List.length ((([]:bQ)++x7)++([vs[i]]))+List.length x9) (nx (((([]:bQ)++x7)++([vs[i]]))++x9,(i:Int)+1))))) s) ?_
   have hle:s.findIdx (λx=> !decide (x<vs[i]))<=s.length:=List.findIdx_le_length
   have e:=ady vs[i] s hm
   generalize s.findIdx (λx=> !decide (x<vs[i]))=j at*
   rw[Sy s j hle,Mo s j hle]
   simp only[ab,bz]
   rw[aL (by simp;omega),aL (by simp;omega),aL (by simp;omega),e];rfl
 case hn=>
  cases hg
  have:=KU s vs[i]
  omega
 case hf=>
  simp only[pt]
  rw[cD];rfl
 rw[Gq]at this;exact this
theorem WV (l:bQ)(v:Int)(h:l.length<=10^9):kE l v=some (ins v l):=by
 unfold kE
 have hgo:∀(l:bQ)(acc:bQ)(d:Bool),acc.length+l.length+(bif d then 0 else 1)<=1073741824->
  yJ (λ(x:Int) (s:bQ×Bool) (k:bQ×Bool->az bQ)=>cond (cond (!s.2) (decide (v<x)) false) (room (List.length s.1+List.length ([v])) (room (List.length (s.1++([v]))+List.length ([x])) (k ((s.1++([v]))++([x]),true)))) (room (List.length s.1+List.length ([x])) (k (s.1++([x]),s.2))))
   (λs=>cond (!s.2) (room (List.length s.1+List.length ([v])) (some (s.1++([v])))) (some s.1)) l (acc,d)=some (acc++bif d then l else ins v l):=by
  intro l
  induction l with
  |nil=>
   intro acc d hl
   rw[yJ]
   simp only[da]at hl
   cases d with
   |true=>simp
   |false=>
    simp only[bH,ah,ae]at hl⊢
    rw[aL (by simp;omega)];rfl
  |cons x l ih=>
   intro acc d hl
   simp only[bg]at hl
   rw[yJ]
   cases d with
   |true=>
    simp only[al,ae,ah]at hl⊢
    rw[aL (by simp;omega),ih _ _ (by simp;omega)]
    simp
   |false=>
    simp only[bH,ah,ae]at hl⊢
    rw[ins]
    cases decide (v<x)with
    |true=>
     simp only[ah]
     rw[aL (by simp;omega),aL (by simp;omega)]
     rw[ih _ _ (by simp;omega)];simp
    |false=>
     simp only[ae]
     rw[aL (by simp;omega),ih _ _ (by simp;omega)]
     simp
 have GS:=fb;have key:=CB (T:=lN (λ(y3:bQ) (y4:Bool) (_:Int)=>cond (!y4) (room (List.length y3+List.length ([v])) (some (y3++([v])))) (some y3)) v l (l.length:Int)) l (λ(s:bQ×Bool) i=>(s.1,s.2,(i:Int))) (λ(x:Int) (s:bQ×Bool) (k:bQ×Bool->az bQ)=>cond (cond (!s.2) (decide (v<x)) false) (room (List.length s.1+List.length ([v])) (room (List.length (s.1++([v]))+List.length ([x])) (k ((s.1++([v]))++([x]),true)))) (room (List.length s.1+List.length ([x])) (k (s.1++([x]),s.2)))) (λs=>cond (!s.2) (room (List.length s.1+List.length ([v])) (some (s.1++([v])))) (some s.1)) (λi hi s nx=>by simp only[lN];rw[iH,bc hi,aj (n:=(i:Int)+1)];simp only[ah,ab,bB];rfl) (λs nx=>by simp only[lN];rw[cD];rfl) fuel 0 (([]:bQ),false) (by omega) (by omega);rw[eG,hgo l [] false (by simp;omega)]at key;exact key
def mn:Port:=(0,[],0,false)
def PE (p:Port):Bool:=dG (p.1,false,p.2.1)&&hasB p.2.1 p.2.2.1
def LQ (l:aw Port)(i:Nat):Bool:=PE (l.getD i mn)&&(range i).all (λj=> !((j !=0)&&((l.getD j mn).1==(l.getD i mn).1)))
def gv (l:aw Port):Bool:=cY (l.length:Int) 1 8&&(range l.length).all (LQ l)
theorem aeb (i:Nat)(q:Nat->Bool):(range (i-1)).all (λj=> !(q (j+1)))=(range i).all (λj=> !((j !=0)&&q j)):=by
 rw[cG,aF,aF];simp only[bE];constructor;intro h j hj;cases j with|zero=>rfl|succ j=>have:=h j (by omega);simpa using this
 intro h j hj;have:=h (j+1) (by omega);simpa using this
theorem I0 (l:aw Port)(h:l.length<=10^9)(hv:∀p∈l,p.2.1.length<=10^9):ng l=some (gv l):=by
 unfold ng gv;rw[gO (hit:=some false) (fin:=some true) (LQ l) l.length (by omega) (λi nx hi=>?hs) (λnx=>?hf)]
 case hs=>
  have hvi:=hv _ (aB hi)
  simp only[vZ]
  rw[iH,bc hi,aj]
  simp only[ah,ab,nr (l[i].1,false,l[i].2.1) hvi,Gt _ _ hvi]
  have e1:(1:Int)=(((0:Nat)+1:Nat):Int):=rfl
  rw[e1,Ir (hit:=some false) (fin:=nx ((i:Int)+1)) (λj=>((j+1:Nat):Int)) (λj=> !((l.getD (j+1) mn).1==l[i].1)) (i-1) (by omega) (λj nx' hj hp=>?hs2) (λhp nx'=>?CV)]
  case hs2=>
   have X0:j+1<l.length:=by omega
   simp only[wa]
   rw[iH,bc X0,bc hi,aj]
   simp only[ah,ab,bN X0,ff];rfl
  case CV=>
   simp only[wa]
   rw[cD];rfl
  rw[aeb i (λj=>(l.getD j mn).1==l[i].1)]
  simp only[LQ,PE,bN hi]
  cases dG (l[i].1,false,l[i].2.1)<;>cases hasB l[i].2.1 l[i].2.2.1<;>cases (range i).all (λj=> !((j !=0)&&((l.getD j mn).1==l[i].1)))<;>rfl
 case hf=>
  simp only[vZ]
  rw[cD];rfl
 simp only[cn,ab];cases cY (l.length:Int) 1 8<;>cases (range l.length).all (LQ l)<;>rfl
def FQ (p:Nat->Bool):fA->Int
 |[]=> -1
 |j::r=>bif p j then(j:Int) else FQ p r
theorem YH (p:Nat->Bool):∀n s i,s<=i->i<s+n->p i=true->(FQ p (List.range' s n)==(i:Int))=(List.range' s (i-s)).all (λj=> !(p j))
 |0,s,i,h1,h2,_=>by omega
 |n+1,s,i,h1,h2,hp=>by
  rw[List.range'_succ,FQ];rcases bT s i with gr|BN;obtain⟨k,hk⟩:∃k,i-s=k+1:=⟨i-s-1,by omega⟩
  rw[hk,List.range'_succ,bX];cases hps:p s with
  |true=>
   simp only[ah,al,eF];have:¬(s:Int)=(i:Int):=by omega
   simpa using this
  |false=>simp only[ae,bH,aZ];rw[YH p n (s+1) i (by omega) (by omega) hp,show i-(s+1)=k by omega]
  have:s=i:=by omega
  subst this;rw[hp,gZ];simp
theorem R2 (p:Nat->Bool)(hit:Nat->az R)(fin:az R)(k:Int->az R)(h1:∀j:Nat,hit j=k (j:Int))(h2:fin=k (-1)):∀l:fA,EK (λ(j:Nat) (s:Unit)=>bif p j then .error (hit j) else .ok ()) (λ_=>fin) l ()=k (FQ p l)
 |[]=>h2
 |j::l=>by rw[EK,FQ];cases p j with|true=>exact h1 j|false=>exact R2 p hit fin k h1 h2 l
theorem ZS (l:aw Port)(a:Int)(h:l.length<=10^9):vj l a=some (FQ (λj=>(j !=0)&&((l.getD j mn).1==a)) (List.range' 0 l.length)):=by
 unfold vj;have:=sV (T:=oE (λ(_:Int)=>some (-1)) (λ(y4:Int) (_:Int)=>some y4) a 0 l (l.length:Int)) (List.range' 0 l.length) (λ(_:Unit) i=>(i:Int)) (λ_ _=>True) (λ(j:Nat) (s:Unit)=>bif (j !=0)&&((l.getD j mn).1==a) then .error (some (j:Int)) else .ok ()) (λ_=>some (-1)) (by simp;omega) (λi hi s nx _=>?hs) (λ_ _ _ _ _ _=>trivial) (λs nx _=>?hf) () trivial
 case hs=>
  have Py:i<l.length:=by simpa using hi
  have e:(List.range' 0 l.length)[i]=i:=by simp
  rw[e]
  simp only[oE]
  rw[iH,bc Py,aj]
  simp only[ah,ab,bN Py,bB,cF]
  have e2:((i:Int) !=0)=(i !=0):=by rw[cG];simp
  rw[e2]
  cases (i !=0)&&(l[i].1==a)<;>rfl
 case hf=>
  simp only[oE]
  rw[aq (by simp)];rfl
 rw[R2 (λj=>(j !=0)&&((l.getD j mn).1==a)) _ _ (λx=>some x) (λ_=>rfl) rfl]at this;exact this
theorem IL (l:aw Port)(h:l.length<=10^9)(hv:∀p∈l,p.2.1.length<=10^9):mN l=some (gv l):=by
 unfold mN gv;rw[gO (hit:=some false) (fin:=some true) (LQ l) l.length (by omega) (λi nx hi=>?hs) (λnx=>?hf)]
 case hs=>
  have hvi:=hv _ (aB hi)
  simp only[vQ]
  rw[iH,bc hi,aj]
  simp only[ah,ab,EG,pC (l[i].1,false,l[i].2.1) hvi,BQ _ _ hvi,ZS l _ h,bB,bne]
  have e2:((i:Int)==0)=(i==0):=by rw[cG];simp
  rw[e2]
  simp only[LQ,PE,bN hi]
  cases h0:i==0 with
  |true=>
   have:i=0:=by simpa using h0
   subst this
   cases dG (l[0].1,false,l[0].2.1)<;>cases hasB l[0].2.1 l[0].2.2.1<;>rfl
  |false=>
   have Fe:(i !=0)=true:=by simp only[bne,h0,bH]
   have fa:=YH (λj=>(j !=0)&&((l.getD j mn).1==l[i].1)) l.length 0 i (by omega) (by omega) (by simp only[Fe,bN hi,aZ,gG])
   rw[Nat.sub_zero,<-List.range_eq_range' (n:=i)]at fa
   simp only[bne]at fa⊢
   rw[fa]
   cases dG (l[i].1,false,l[i].2.1)<;>cases hasB l[i].2.1 l[i].2.2.1<;>cases (range i).all (λj=> !((!(j==0))&&((l.getD j mn).1==l[i].1)))<;>rfl
 case hf=>
  simp only[vQ]
  rw[cD];rfl
 simp only[dW,ab];cases cY (l.length:Int) 1 8<;>cases (range l.length).all (LQ l)<;>rfl
def iT (m:bF):Bool:=dG m.1&&(cY m.2.1 0 1000000000000&&cY m.2.2.2 0 1000000000000)
theorem abk (m:bF)(h:m.1.2.2.length<=10^9):th m=some (iT m):=by simp only[th,nr _ h,cn,ab,bB,cF,iT]
theorem ZK (m:bF)(h:m.1.2.2.length<=10^9):sM m=some (iT m):=by simp only[sM,pC _ h,dW,ab,bB,cF,iT]
theorem C3 (h:iT m=true):m.1.2.2.length<=8:=by unfold iT dG at h;simp only[af,aG]at h;omega
def Xj (m:bF):Port:=(m.1.1,m.1.2.2.foldl yO [0],0,true)
def G4 (s:bQ×aw Port)(m:bF):bQ×aw Port:=(m.1.2.2.foldl yO s.1,s.2++[Xj m])
def jR (ms:aw bF):aw Port:=(0,(ms.foldl G4 ([0],[])).1,0,false)::(ms.foldl G4 ([0],[])).2
def bU (ms:aw bF):aw Port×Bool:=bif cY (ms.length:Int) 1 3&&(ms.all iT&&gv (jR ms)) then(jR ms,true) else([],false)
theorem R1 (p:α->Bool)(f:σ->α->σ)(r:az R)(fin:σ->az R):∀(l:aw α)(s:σ),EK (λx s=>bif p x then .ok (f s x) else .error r) fin l s=bif l.all p then fin (l.foldl f s) else r
 |[],s=>rfl
 |x::l,s=>by rw[EK,bX,dL];cases p x with|false=>rfl|true=>simp only[ah,aZ];exact R1 p f r fin l (f s x)
def X3 (i:Nat)(s:bQ×aw Port):Prop:=s.1.length<=1+9*i/\s.2.length=i/\∀p∈s.2,p.2.1.length<=9
theorem X3.port (h:X3 i s)(hm:iT m=true)(U:bQ)(hU:U.length<=s.1.length+9:=by omega):X3 (i+1) (U,s.2++[Xj m]):=by have hl:=C3 hm;have:=FF m.1.2.2 [0];refine⟨?_,?_,?_⟩;have:=h.1;simp only;omega;have:=h.2.1;simp;omega;intro p hp;rcases aA.1 hp with hp|hp;exact h.2.2 p hp;simp only[bI]at hp;subst hp;simp only[Xj,aW]at this⊢;omega
theorem HP (h:X3 i s)(hi:i<=3:=by omega):((0,s.1,0,false)::s.2:aw Port).length<=10^9/\∀p∈((0,s.1,0,false)::s.2:aw Port),p.2.1.length<=10^9:=by have h1:=h.1;have h2:=h.2.1;refine⟨by simp only[bg];omega,λp hp=>?_⟩;rcases bZ.1 hp with rfl|hp;simp only;omega;have:=h.2.2 p hp;omega
theorem Bb (ms:aw bF)(h:∀m∈ms,m.1.2.2.length<=10^9):nf ms=some (bU ms):=by
 unfold nf bU;simp only[cn,ab];cases hn:cY (ms.length:Int) 1 3 with
 |false=>rfl
 |true=>
  have Fb:=aX.1 hn;simp only[al,ae,aZ];have:=sV (T:=qE (λ(Cs:aw Port) (_:Int)=>aa (ng Cs) λSU=>cond (!SU) (some (([]:aw Port),false)) (some (Cs,true))) (λ(CJ:aw Port) (J1:Bool) (_:aw Port) (_:Int)=>some (CJ,J1)) ms ([]:aw Port) false) ms (λ(s:bQ×aw Port) i=>((0,s.1,0,false)::s.2,(i:Int))) X3 (λm s=>bif iT m then .ok (G4 s m) else .error (some (([]:aw Port),false))) (λs=>some (bif gv ((0,s.1,0,false)::s.2) then((0,s.1,0,false)::s.2,true) else([],false))) (by omega) (λi hi s nx hI=>?hs) (λi hi s s' hI hg=>?hn) (λs nx hI=>?hf) ([0],[]) ⟨by simp,rfl,by simp⟩
  case hs=>
   simp only[qE]
   have hm:=h _ (aB hi)
   rw[iH,bc hi,aj (n:=(i:Int)+1)]
   simp only[ah,ab,abk _ hm]
   cases KP:iT ms[i]with
   |false=>rfl
   |true=>
    have hl:=C3 KP
    have hU:=hI.1
    have hP:=hI.2.1
    have e0:idx ((0,s.1,0,false)::s.2:aw Port) 0=some (0,s.1,0,false):=rfl
    simp only[al,ae,ah,e0,ab]
    rw[Vy s.1 _ (by omega),Vy [0] _ (by simp;omega)]
    simp only[ab]
    rw[aL (by simp;omega)]
    rfl
  case hn=>
   cases KP:iT ms[i]with
   |false=>rw[KP]at hg;cases hg
   |true=>
    rw[KP]at hg
    cases hg
    have:=FF ms[i].1.2.2 s.1
    have:=C3 KP
    exact hI.port KP _
  case hf=>
   simp only[qE]
   rw[cD]
   have hb:=HP hI
   simp only[ae,I0 _ hb.1 hb.2,ab]
   cases gv ((0,s.1,0,false)::s.2)<;>rfl
  rw[R1]at this;refine Eq.trans this ?_;unfold jR;cases ms.all iT<;>rfl
def VC (s:bQ×aw Port)(m:bF):bQ×aw Port:=(([0]++m.1.2.2).foldl yO s.1,s.2++[Xj m])
theorem amm (h:(0:Int)∈s.1):VC s m=G4 s m:=by unfold VC G4;rw[List.foldl_append];simp only[dL,List.foldl_nil,agz h]
theorem St:∀(ms:aw bF)(s:bQ×aw Port),(0:Int)∈s.1->ms.foldl VC s=ms.foldl G4 s
 |[],_,_=>rfl
 |m::ms,s,h=>by rw[dL,dL,amm h];exact St ms _ (M6 _ h)
theorem abv (ms:aw bF)(h:ms≠[]):ms.foldl VC ([],[])=ms.foldl G4 ([0],[]):=by cases ms with|nil=>exact absurd rfl h|cons m ms=>rw[dL,dL];have e:VC ([],[]) m=G4 ([0],[]) m:=rfl;rw[e];exact St ms _ (M6 _ (by simp))
theorem ahj (k0:bQ->bQ->Int->az R)(k:bQ->bQ->az R)(hk:∀a b i,k0 a b i=k a b)(v2:aw Port)(v3:Bool)(v4:aw Port)(v18:aw bF)(v19 v20:Int)(b7:bF)(vs all:bQ)(h:all.length+vs.length<=10^9): bh (lB k0 v2 v3 v4 v18 v19 v20 vs (vs.length:Int) b7) fuel (all,([]:bQ),0)=k (vs.foldl yO all) (vs.foldl yO []):=by
 have:=sV (T:=lB k0 v2 v3 v4 v18 v19 v20 vs (vs.length:Int) b7) vs (λ(s:bQ×bQ) i=>(s.1,s.2,(i:Int))) (λi s=>s.1.length<=all.length+i/\s.2.length<=i) (λv s=> .ok (yO s.1 v,yO s.2 v)) (λs=>k s.1 s.2) (by omega) (λi hi s nx hI=>?hs) (λi hi s s' hI hg=>?hn) (λs nx hI=>?hf) (all,[]) ⟨by simp,by simp⟩
 case hs=>
  simp only[lB]
  rw[iH,bc hi,aj (n:=(i:Int)+1)]
  simp only[ah,ab,BQ s.2 vs[i] (by omega),BQ s.1 vs[i] (by omega),WV s.2 vs[i] (by omega),WV s.1 vs[i] (by omega),yO]
  cases hasB s.2 vs[i]<;>cases hasB s.1 vs[i]<;>rfl
 case hn=>
  cases hg
  have:=KU s.1 vs[i]
  have:=KU s.2 vs[i]
  have h1:=hI.1
  have h2:=hI.2
  exact⟨by simp only;omega,by simp only;omega⟩
 case hf=>
  simp only[lB]
  rw[cD]
  simp only[ae,hk]
 rw[Gq]at this;refine Eq.trans this ?_;have e:∀(l:bQ)(s:bQ×bQ),l.foldl (λs v=>(yO s.1 v,yO s.2 v)) s=(l.foldl yO s.1,l.foldl yO s.2):=by intro l;induction l with|nil=>intro s;rfl|cons x l ih=>intro s;rw[dL,ih];rfl
 rw[e]
theorem AK (ms:aw bF)(h:∀m∈ms,m.1.2.2.length<=10^9):mM ms=some (bU ms):=by
 unfold mM bU;simp only[dW,ab];cases hn:cY (ms.length:Int) 1 3 with
 |false=>rfl
 |true=>
  have Fb:=aX.1 hn;simp only[al,ae,aZ];have:=sV (T:=qq (λ(BB:aw Port) (CJ:bQ) (_:Int)=>aa (idx BB 0) λG6=>aa (idx BB 0) λNC=>aa (mN (List.set BB (Int.toNat 0) (NC.1,CJ,NC.2.2))) λr19=>cond (!r19) (some (([]:aw Port),false)) (some (List.set BB (Int.toNat 0) (NC.1,CJ,NC.2.2),true))) (λ(y20:aw Port) (y21:Bool) (_:aw Port) (_:bQ) (_:Int)=>some (y20,y21)) ([]:aw Port) false ms (ms.length:Int)) ms (λ(s:bQ×aw Port) i=>((0,[],0,false)::s.2,s.1,(i:Int))) X3 (λm s=>bif iT m then .ok (VC s m) else .error (some (([]:aw Port),false))) (λs=>some (bif gv ((0,s.1,0,false)::s.2) then((0,s.1,0,false)::s.2,true) else([],false))) (by omega) (λi hi s nx hI=>?hs) (λi hi s s' hI hg=>?hn) (λs nx hI=>?hf) ([],[]) ⟨by simp,rfl,by simp⟩
  case hs=>
   simp only[qq]
   have hm:=h _ (aB hi)
   rw[iH,bc hi,aj (n:=(i:Int)+1)]
   simp only[ah,ab,ZK _ hm]
   cases KP:iT ms[i]with
   |false=>rfl
   |true=>
    have hl:=C3 KP
    have hU:=hI.1
    have hP:=hI.2.1
    simp only[al,ae,ah]
    rw[aL (by simp;omega)]
    refine(ahj _ (λa b=>room (List.length ((0,[],0,false)::s.2:aw Port)+List.length ([(ms[i].1.1,b,0,true)]:aw Port)) (nx (((0,[],0,false)::s.2)++([(ms[i].1.1,b,0,true)]),a,(i:Int)+1))) (λ_ _ _=>rfl) _ _ _ _ _ _ _ ([0]++ms[i].1.2.2) s.1 (by simp only[ai,aW];omega)).trans ?_
    rw[aL (by simp;omega)]
    rfl
  case hn=>
   cases KP:iT ms[i]with
   |false=>rw[KP]at hg;cases hg
   |true=>
    rw[KP]at hg
    cases hg
    have hu:=FF ([0]++ms[i].1.2.2) s.1
    have hl:=C3 KP
    simp only[ai,aW]at hu
    exact hI.port KP _
  case hf=>
   simp only[qq]
   rw[cD]
   have hb:=HP hI
   have e0:idx ((0,[],0,false)::s.2:aw Port) 0=some (0,[],0,false):=rfl
   have e1:List.set ((0,[],0,false)::s.2:aw Port) (Int.toNat 0) (0,s.1,0,false)=(0,s.1,0,false)::s.2:=rfl
   simp only[ae,e0,ab,e1,IL _ hb.1 hb.2]
   cases gv ((0,s.1,0,false)::s.2)<;>rfl
  rw[R1,abv ms (by rintro rfl;simp at Fb)]at this;refine Eq.trans this ?_;unfold jR;cases ms.all iT<;>rfl
def su (f:Filter)(p:aD):Bool:=dG f&&(((p.1==f.1)||((p.1==281474976710655)||f.2.1))&&((p.2.2.1== -1)||hasB f.2.2 p.2.2.1))
theorem ZB (f:Filter)(p:aD)(h:f.2.2.length<=10^9):BR f p=some (su f p):=by simp only[BR,pC f h,BQ f.2.2 _ h,ab,su];cases dG f<;>cases p.1==f.1<;>cases p.1==281474976710655<;>cases f.2.1<;>cases p.2.2.1== -1<;>rfl
theorem abb (f:Filter)(p:aD)(h:f.2.2.length<=10^9):B8 f p=some (su f p):=by simp only[B8,nr f h,Gt f.2.2 _ h,ab,su];cases dG f<;>cases p.1==f.1<;>cases p.1==281474976710655<;>cases f.2.1<;>cases p.2.2.1== -1<;>rfl
def preB (a b n:Int):Bool:=fdiv a (2^(min (Int.toNat (ar (32-n))) (IntKind.bits .i64)))==fdiv b (2^(min (Int.toNat (ar (32-n))) (IntKind.bits .i64)))
theorem Vh {r:kL}(h:Df r=true):0<=r.2.2.2.1/\r.2.2.2.1<=32:=by rw[<-aX];unfold Df at h;simp only[lv,cn,ab,bB]at h;cases hp:cY r.2.2.2.1 0 32 with|true=>rfl|false=>rw[hp]at h;revert h;cases cY r.1 0 1000<;>cases r.2.1 !=0<;>cases r.2.1 !=6<;>cases r.2.1 !=17<;>cases cY r.2.2.1 0 4294967295<;>simp
def ajw (r:kL)(p:aD):Bool:=preB r.2.2.1 p.2.2.2.2.2.2.1 r.2.2.2.1&&(cY p.2.2.2.2.2.2.2.2.2.2.1 r.2.2.2.2.1 r.2.2.2.2.2.1&&((r.2.2.2.2.2.2.1== -2)||(r.2.2.2.2.2.2.1==p.2.2.1)))
def HM (r:kL)(p:aD):Bool:=Df r&&(dw p&&(((r.2.1==0)||(r.2.1==p.2.2.2.2.2.2.2.2.1))&&ajw r p))
theorem anS (a b n:Int)(h0:0<=n)(h1:n<=32):qt a b n=some (preB a b n):=by unfold qt preB;rw[aK (by rw[aj (n:=32-n)];omega),aK (by rw[aj (n:=32-n)];omega)]
theorem ahl (r:kL)(p:aD):tF r p=some (HM r p):=by unfold tF HM;rw[alg,ab];cases hr:Df r;rfl;have hp:=Vh hr;simp only[qR,anS _ _ _ hp.1 hp.2,dW,ab,ajw];cases dw p<;>cases r.2.1==0<;>cases r.2.1==p.2.2.2.2.2.2.2.2.1<;>cases preB r.2.2.1 p.2.2.2.2.2.2.1 r.2.2.2.1<;>cases cY p.2.2.2.2.2.2.2.2.2.2.1 r.2.2.2.2.1 r.2.2.2.2.2.1<;>cases r.2.2.2.2.2.2.1== -2<;>rfl
theorem aiC (r:kL)(p:aD):uj r p=some (HM r p):=by
 unfold uj HM;rw[So,ab];cases hr:Df r;rfl;have hp:=Vh hr;have hw:¬ar (32-r.2.2.2.1)<0:=by rw[aj (n:=32-r.2.2.2.1)];omega
 simp only[oN,Bz,aK hw,cn,ab,ajw];rw[show(fdiv r.2.2.1 (2^(min (Int.toNat (ar (32-r.2.2.2.1))) (IntKind.bits .i64)))==fdiv p.2.2.2.2.2.2.1 (2^(min (Int.toNat (ar (32-r.2.2.2.1))) (IntKind.bits .i64))))=preB r.2.2.1 p.2.2.2.2.2.2.1 r.2.2.2.1 from rfl];cases dw p<;>cases r.2.1==0<;>cases r.2.1==p.2.2.2.2.2.2.2.2.1<;>cases preB r.2.2.1 p.2.2.2.2.2.2.1 r.2.2.2.1<;>cases cY p.2.2.2.2.2.2.2.2.2.2.1 r.2.2.2.2.1 r.2.2.2.2.2.1<;>cases r.2.2.2.2.2.2.1== -2<;>rfl
def Oj:kL:=(0,0,0,0,0,0,0,0,0)
def BD (l:aw kL)(p:aD):Nat->Int
 |0=> -1
 |i+1=>bif HM (l.getD i Oj) p&&(decide (BD l p i<0)||decide ((l.getD i Oj).1<(l.getD (BD l p i).toNat Oj).1)) then(i:Int) else BD l p i
theorem PZ (l:aw kL)(p:aD):∀i,BD l p i= -1\/∃n:Nat,BD l p i=(n:Int)/\n<i
 |0=> .inl rfl
 |i+1=>by rw[BD];cases HM (l.getD i Oj) p&&(decide (BD l p i<0)||decide ((l.getD i Oj).1<(l.getD (BD l p i).toNat Oj).1))with|true=>exact .inr ⟨i,rfl,by omega⟩|false=>rcases PZ l p i with h|⟨n,h,hn⟩;exact .inl h;exact .inr ⟨n,h,by omega⟩
theorem TS (l:aw kL)(p:aD)(i:Nat)(hi:i<l.length)(nx:Int×Int->az R): (aa (cond (HM l[i] p) (cond (decide (BD l p i<0)) (some true) (aa (idx l (BD l p i)) λx4=>some (decide (l[i].1<x4.1)))) (some false)) λq5=>cond q5 (nx ((i:Int),((i+1:Nat):Int))) (nx (BD l p i,((i+1:Nat):Int))))=nx (BD l p (i+1),((i+1:Nat):Int)):=by
 rw[BD,bN hi];cases HM l[i] p;rfl;rcases PZ l p i with h|⟨n,h,hn⟩;rw[h];rfl;have hl:n<l.length:=by omega
 rw[h,aq (show¬(n:Int)<0 by omega),bc hl];simp only[ah,ae,ab,ax,bN hl,aZ,cZ];cases decide (l[i].1<l[n].1)<;>rfl
def E5 (l:aw kL)(p:aD):Int:=bif za l then BD l p l.length else-1
theorem QI (l:aw kL)(p:aD)(h:E5 l p>=0):∃n:Nat,E5 l p=(n:Int)/\n<l.length:=by unfold E5 at h⊢;cases hr:za l with|false=>rw[hr]at h;simp at h|true=>rw[hr]at h;simp only[ah]at h⊢;rcases PZ l p l.length with g|g;omega;exact g
theorem ahh (l:aw kL)(p:aD)(h:l.length<=10^9):zO l p=some (E5 l p):=by unfold zO E5;rw[UJ l h,ab];cases za l;rfl;simp only[al,ae,ah];refine cK (λi=>(BD l p i,(i:Int))) l.length (by omega) (λi nx hi=>?_) (λnx=>?_);simp only[tD];rw[iH,bc hi,aj (n:=(i:Int)+1)];simp only[ah,ab,ahl];exact TS l p i hi nx;simp only[tD];rw[cD];rfl
theorem aiA (l:aw kL)(p:aD)(h:l.length<=10^9):Al l p=some (E5 l p):=by
 have GS:=fb;unfold Al E5;cases hr:za l with
 |false=>
  obtain⟨f,hf⟩:∃f,fuel=f+1:=⟨fuel-1,by omega⟩
  rw[hf,bh];simp only[oR,I3 l h,hr,ab];cases decide ((0:Int)<(l.length:Int))<;>rfl
 |true=>simp only[ah];refine cK (λi=>(BD l p i,(i:Int))) l.length (by omega) (λi nx hi=>?_) (λnx=>?_);simp only[oR,I3 l h,hr];rw[iH,bc hi,aj (n:=(i:Int)+1)];simp only[ah,ab,aiC];exact TS l p i hi nx;simp only[oR];rw[cD];rfl
def jx (p:aD):Hc:=(p.2.2.2.2.2.2.2.2.1,p.2.2.2.2.2.2.1,p.2.2.2.2.2.2.2.1,p.2.2.2.2.2.2.2.2.2.1,p.2.2.2.2.2.2.2.2.2.2.1)
theorem ZH (p:aD):AL p=some (jx p):=rfl
theorem L9 (p:aD):tc p=some (jx p):=rfl
def att:Slot:=(0,(0,0,0,0,0),0)
def rk (s:dA)(q:Int)(p:aD):Int:=
 bif !eC s q|| !dw p then-1 else
 bif decide (E5 s.1 p>=0) then(bif (s.1.getD (E5 s.1 p).toNat Oj).2.2.2.2.2.2.2.1==1 then-1 else(s.1.getD (E5 s.1 p).toNat Oj).2.2.2.2.2.2.2.2) else
 bif decide (findF s.2.1 (jx p)>=0) then(s.2.1.getD (findF s.2.1 (jx p)).toNat att).2.2 else I6 s.2.2 q (jx p)
theorem ahs (s:dA)(q:Int)(p:aD)(h1:s.1.length<=10^9)(h2:s.2.1.length<=10^9)(h3:s.2.2.2.length<=10^9):tK s q p=some (rk s q p):=by
 unfold tK rk;rw[F3 s q h1 h2 h3,ab,qR,ab];cases eC s q;rfl;cases dw p;rfl;simp only[al,ae,ab,cc,ahh s.1 p h1,ZH,WY s.2.1 _ h2,ZQ s.2.2 q _ h3];cases hd:decide (E5 s.1 p>=0)with
 |true=>obtain⟨n,hn,hl⟩:=QI s.1 p (br hd);simp only[ah,hn,bc hl,ab,ax,bN hl];cases s.1[n].2.2.2.2.2.2.2.1==1<;>rfl
 |false=>
  simp only[ae];cases Ux:decide (findF s.2.1 (jx p)>=0)with
  |true=>obtain⟨n,hn,hl⟩:=QH s.2.1 (jx p) (br Ux);simp only[ah,hn,bc hl,ab,ax,bN hl]
  |false=>rfl
theorem aiK (s:dA)(q:Int)(p:aD)(h1:s.1.length<=10^9)(h2:s.2.1.length<=10^9)(h3:s.2.2.2.length<=10^9):uq s q p=some (rk s q p):=by
 unfold uq rk;rw[B7 s q h1 h2 h3,ab,oN,ab];cases eC s q;rfl;cases dw p;rfl;simp only[al,ae,ab,cc,aiA s.1 p h1,L9,XF s.2.1 _,abp s.2.2 q _ h3];cases hd:decide (E5 s.1 p>=0)with
 |true=>obtain⟨n,hn,hl⟩:=QI s.1 p (br hd);simp only[ah,hn,bc hl,ab,ax,bN hl];cases s.1[n].2.2.2.2.2.2.2.1==1<;>rfl
 |false=>
  simp only[ae];cases Ux:decide (findF s.2.1 (jx p)>=0)with
  |true=>obtain⟨n,hn,hl⟩:=QH s.2.1 (jx p) (br Ux);simp only[ah,hn,bc hl,ab,ax,bN hl]
  |false=>rfl
def agy (a b:Int):Int:=(mU a b).getD 0
theorem PI (a b:Int):mU a b=some (agy a b):=by
 unfold agy;have:∃x,mU a b=some x:=by simp only[mU,cn,ab];cases cY a 0 65535<;>cases cY b 0 65535<;>cases decide (ar (a+b)>65535)<;>exact⟨_,rfl⟩
 obtain⟨x,hx⟩:=this;rw[hx];rfl
theorem ZC (a b:Int):BS a b=some (agy a b):=PI a b
theorem ang {b:Int}(h:0<=a/\a<=65535)(k:0<=b/\b<=65535):0<=agy a b/\agy a b<=65535:=by have e:=PI a b;simp only[mU,cn,ab,aX.2 h,aX.2 k,al,ae]at e;rw[aj (n:=a+b)]at e;by_cases hc:a+b>65535;rw[au hc,ah,aj]at e;rw[<-bM e];omega;rw[aq hc,ae]at e;rw[<-bM e];omega
def sw (s:Bytes):Nat->Int
 |0=>0
 |j+1=>agy (sw s j) ((ch s (2*j)*256+ch s (2*j+1):Nat):Int)
theorem amq (s:Bytes):∀j,0<=sw s j/\sw s j<=65535
 |0=>by simp[sw]
 |j+1=>by have b0:=eJ s (2*j);have b1:=eJ s (2*j+1);exact ang (amq s j) (by omega)
theorem Qb {s:Bytes}(h:s.length<=i:=by omega):ch s i=0:=by unfold ch;rw[bu,bJ h];rfl
theorem aoy (s:Bytes)(h:s.length<=10^9):Aw s=some (sw s ((s.length+1)/2)):=by
 unfold Aw;refine cK (λj=>(sw s j,((2*j:Nat):Int))) ((s.length+1)/2) (by omega) (λj nx hj=>?_) (λnx=>?_);have b0:=eJ s (2*j);have b1:=eJ s (2*j+1);obtain⟨x,hx,ex⟩:=mK (s:=s) (i:=2*j);simp only[ur];rw[iH,ah,hx,ab,nI,aj (n:=((2*j:Nat):Int)+1),aj (n:=((2*j:Nat):Int)+2),ex,gY];have e8:qO 8=8:=rfl;have en:((2*j:Nat):Int)+2=((2*(j+1):Nat):Int):=by omega
 rw[e8,aj (n:=((ch s (2*j):Nat):Int)*2^8)];by_cases hc:2*j+1<s.length;obtain⟨y,hy,ey⟩:=mK (s:=s) (i:=2*j+1) hc;rw[iH,ah,show((2*j:Nat):Int)+1=((2*j+1:Nat):Int) by omega,hy,ab,ey,gY (n:=ch s (2*j+1)),aj,PI,ab,en,show((ch s (2*j):Nat):Int)*2^8+((ch s (2*j+1):Nat):Int)=((ch s (2*j)*256+ch s (2*j+1):Nat):Int) by omega];rfl;have hz:=Qb (s:=s) (i:=2*j+1);rw[cD,ae,PI,ab,en,show((ch s (2*j):Nat):Int)*2^8=((ch s (2*j)*256+ch s (2*j+1):Nat):Int) by rw[hz];omega];rfl;simp only[ur];rw[cD];rfl
theorem anU (s:Bytes)(h:s.length<=10^9):zY s=some (sw s ((s.length+1)/2)):=by
 unfold zY;refine cK (λj=>(sw s j,((2*j:Nat):Int))) ((s.length+1)/2) (by omega) (λj nx hj=>?_) (λnx=>?_);have b0:=eJ s (2*j);have b1:=eJ s (2*j+1);obtain⟨x,hx,ex⟩:=mK (s:=s) (i:=2*j);simp only[tM];rw[iH,ah,hx,ab,nI,aj (n:=((2*j:Nat):Int)+1),aj (n:=((2*j:Nat):Int)+2),ex,gY];have e8:qO 8=8:=rfl;have en:((2*j:Nat):Int)+2=((2*(j+1):Nat):Int):=by omega
 rw[e8,show((ch s (2*j):Nat):Int)*2^8=((2^8*ch s (2*j):Nat):Int) by omega,gY (n:=2^8*ch s (2*j))];by_cases hc:2*j+1<s.length;obtain⟨y,hy,ey⟩:=mK (s:=s) (i:=2*j+1) hc;rw[iH,ah,show((2*j:Nat):Int)+1=((2*j+1:Nat):Int) by omega,hy,ab,ey,gY (n:=ch s (2*j+1)),Kx (ch s (2*j)) 8 (ch s (2*j+1)),ZC,ab,en,show 2^8*ch s (2*j)+ch s (2*j+1)=ch s (2*j)*256+ch s (2*j+1) by omega];rfl;have hz:=Qb (s:=s) (i:=2*j+1);rw[cD,ae,ZC,ab,en,show((2^8*ch s (2*j):Nat):Int)=((ch s (2*j)*256+ch s (2*j+1):Nat):Int) by rw[hz];omega];rfl;simp only[tM];rw[cD];rfl
def TW (s:Bytes):Int:=65535-sw s ((s.length+1)/2)
theorem L5 (s:Bytes)(h:s.length<=10^9):lu s=some (TW s):=by have:=amq s ((s.length+1)/2);simp only[lu,aoy s h,ab];rw[aj];rfl
theorem aft (s:Bytes)(h:s.length<=10^9):vg s=some (TW s):=by have:=amq s ((s.length+1)/2);simp only[vg,anU s h,ab];rw[aj];rfl
def yG (s:Bytes)(a:Int)(p:Bytes):Bytes:=bif fG s a (p.length:Int) then(s.take a.toNat++p)++s.drop (a.toNat+p.length) else s
theorem xS (s:Bytes)(a:Int)(p:Bytes):(yG s a p).length=s.length:=by unfold yG;cases hw:fG s a (p.length:Int)with|false=>rfl|true=>simp only[fG,aG]at hw;simp only[ah,ai,aP,aS];omega
theorem aaQ (s:Bytes)(a:Int)(p:Bytes)(h:s.length<=10^9)(hw:fG s a (p.length:Int)=true): (aa (sub s 0 a) λx2=>room (List.length x2+List.length p) (aa (sub s (ar (a+((List.length p:Int)))) ((List.length s:Int))) λx3=>room (List.length (x2++p)+List.length x3) (some ((x2++p)++x3))))=some (yG s a p):=by
 have hw':=hw;simp only[fG,aG]at hw';obtain⟨n,rfl⟩:=aO hw'.1;have e1:sub s 0 (n:Int)=some (s.take n):=by unfold sub;rw[zip];rfl
 have e2:sub s (((n+p.length:Nat):Int)) (s.length:Int)=some (s.drop (n+p.length)):=by unfold sub;rw[zip,ax,ax,cf]
 rw[e1,aj,show(n:Int)+(p.length:Int)=((n+p.length:Nat):Int) by omega,e2,ab,aL (by simp only[aP];omega),ab,aL (by simp only[ai,aP,aS];omega)];unfold yG;rw[hw];rfl
theorem Ae (s:Bytes)(a:Int)(p:Bytes)(h:s.length<=10^9:=by omega):eR s a p=some (yG s a p):=by unfold eR;rw[H7 s a _ h,ab];cases hw:fG s a (p.length:Int)with|false=>simp only[bH,ah,yG,hw,ae]|true=>exact aaQ s a p h hw
theorem W3 (s:Bytes)(a:Int)(p:Bytes)(h:s.length<=10^9)(hp:p.length<=10^9):qT s a p=some (yG s a p):=by
 unfold qT;rw[aj (n:=(s.length:Int)-(p.length:Int))];cases hw:fG s a (p.length:Int)with
 |true=>have hw':=hw;simp only[fG,aG]at hw';rw[aq (show¬a<0 by omega),aq (show¬a>(s.length:Int)-(p.length:Int) by omega)];exact aaQ s a p h hw
 |false=>
  have hp:yG s a p=s:=by unfold yG;rw[hw];rfl
  rw[hp];simp only[fG,cH]at hw;by_cases h0:a<0;rw[au h0];rfl;rw[aq h0,au (show a>(s.length:Int)-(p.length:Int) by omega)];rfl
def bs2 (x y:Int):Bytes:=bf [x,y]
theorem VW (x y:Int):(bs2 x y).length=2:=rfl
def B5 (a b k n:Int):Bool:=cY a 0 4294967295&&(cY b 0 4294967295&&(cY k 0 255&&cY n 0 65535))
def yW (a b k n:Int):Bytes:=((gw a++gw b)++bs2 0 (iA k))++cC n
theorem Nh (a b k n:Int):(yW a b k n).length<=12:=by have:=dT a;have:=dT b;have:=cr n;simp only[yW,ai,VW];omega
theorem Gv (a b k n:Int):kA a b k n=some (bif B5 a b k n then(yW a b k n,true) else([],false)):=by have:=dT a;have:=dT b;have:=cr n;unfold kA B5;simp only[cn,ab,kI,iS];cases cY a 0 4294967295;rfl;cases cY b 0 4294967295;rfl;cases cY k 0 255;rfl;cases cY n 0 65535;rfl;simp only[al,ae,bW,ah,ab];have e:(bf [0,iA k]).length=2:=rfl;rw[aL,aL (by simp only[ai,e];omega),aL (by simp only[ai,e];omega)];rfl
theorem ads (a b k n:Int):xA a b k n=some (bif B5 a b k n then(yW a b k n,true) else([],false)):=Gv a b k n
def bare (g:fi):Bytes:=bif g.1==6 then
    (((((cC g.2.1++cC g.2.2.1)++gw g.2.2.2.1)++gw g.2.2.2.2.1)++bs2 80 (iA g.2.2.2.2.2.1))++cC g.2.2.2.2.2.2.1)++gw 0++g.2.2.2.2.2.2.2
 else(((cC g.2.1++cC g.2.2.1)++cC (8+(g.2.2.2.2.2.2.2.length:Int)))++cC 0)++g.2.2.2.2.2.2.2
theorem VU (g:fi):(bare g).length<=20+g.2.2.2.2.2.2.2.length:=by have:=cr g.2.1;have:=cr g.2.2.1;have:=dT g.2.2.2.1;have:=dT g.2.2.2.2.1;have:=cr g.2.2.2.2.2.2.1;have:=dT 0;have:=cr 0;have:=cr (8+(g.2.2.2.2.2.2.2.length:Int));unfold bare;cases g.1==6<;>simp only[ah,ae,ai,VW]<;>omega
theorem ai6:cC 0++cC 0=gw 0:=by rfl
theorem ak4 (g:fi)(h:g.2.2.2.2.2.2.2.length<=1000000):tO g=some (bare g):=by have:=cr g.2.1;have:=cr g.2.2.1;have:=dT g.2.2.2.1;have:=dT g.2.2.2.2.1;have:=cr g.2.2.2.2.2.2.1;have:=cr 0;have:=cr (8+(g.2.2.2.2.2.2.2.length:Int));have e:∀x,(bf [80,iA x]).length=2:=λ_=>rfl;unfold tO bare;rw[aj (n:=8+(g.2.2.2.2.2.2.2.length:Int))];simp only[yS,CY,ab];rw[aL];cases g.1==6 with|true=>simp only[ah];rw[aL (by simp only[ai,e];omega),aL (by simp only[ai,e];omega),aL (by simp only[ai,e];omega),aL (by simp only[ai,e];omega),aL (by simp only[ai,e];omega),aL (by simp only[ai,e];omega),aL (by simp only[ai,e];omega)];rw[<-ai6];simp only[bs2,bj]|false=>simp only[ae];rw[aL (by simp only[ai];omega),aL (by simp only[ai];omega),aL (by simp only[ai];omega)]
def af8 (a b:Int)(g:fi):Int:=bif (TW (yW a b g.1 ((bare g).length:Int)++bare g)==0)&&(g.1==17) then 65535 else TW (yW a b g.1 ((bare g).length:Int)++bare g)
def afU (a b:Int)(g:fi):Bytes:=yG (bare g) (bif g.1==6 then 16 else 6) (cC (af8 a b g))
def R9 (a b:Int)(g:fi):Bool:=vr g&&B5 a b g.1 ((bare g).length:Int)
def EL (a b:Int)(g:fi):Bytes×Bool:=bif R9 a b g then(afU a b g,true) else([],false)
theorem H0 {g:fi}(h:vr g=true):g.2.2.2.2.2.2.2.length<=320:=by simp only[vr,af,aM,cH]at h;omega
theorem H6 (a b:Int)(g:fi):ky a b g=some (EL a b g):=by
 unfold ky EL R9;rw[af5,ab];cases hg:vr g;rfl;have hb:=H0 hg;have hl:=VU g;have hp:=Nh a b g.1 ((bare g).length:Int);have:=cr g.2.1;have:=cr g.2.2.1;have:=dT g.2.2.2.1;have:=dT g.2.2.2.2.1;have:=cr g.2.2.2.2.2.2.1;have:=dT 0;have:=cr 0;have:=cr (8+(g.2.2.2.2.2.2.2.length:Int));have e:∀x,(bf [80,iA x]).length=2:=λ_=>rfl;rw[aj (n:=8+(g.2.2.2.2.2.2.2.length:Int))];simp only[iS,kI,ab,al,ae,aZ];rw[aL];cases h6:g.1==6 with
 |true=>
  have akL:bare g=(((((cC g.2.1++cC g.2.2.1)++gw g.2.2.2.1)++gw g.2.2.2.2.1)++bf [80,iA g.2.2.2.2.2.1])++cC g.2.2.2.2.2.2.1)++gw 0++g.2.2.2.2.2.2.2:=by unfold bare;rw[h6];rfl
  simp only[ah];rw[aL (by simp only[ai,e];omega),aL (by simp only[ai,e];omega),aL (by simp only[ai,e];omega),aL (by simp only[ai,e];omega),aL (by simp only[ai,e];omega),aL (by simp only[ai,e];omega),<-akL,Gv,ab];cases B5 a b g.1 ((bare g).length:Int);rfl;simp only[ah,al,ae];rw[aL,L5 _ (by simp only[ai];omega)];simp only[ab,bB,Ae _ _ _ (show(bare g).length<=10^9 by omega),afU,af8,h6,ah,cF];cases (TW (yW a b g.1 ((bare g).length:Int)++bare g)==0)&&(g.1==17)<;>rfl
 |false=>
  have akL:bare g=(((cC g.2.1++cC g.2.2.1)++cC (8+(g.2.2.2.2.2.2.2.length:Int)))++cC 0)++g.2.2.2.2.2.2.2:=by unfold bare;rw[h6];rfl
  simp only[ae];rw[aL (by simp only[ai];omega),aL (by simp only[ai];omega),aL (by simp only[ai];omega),<-akL,Gv,ab];cases B5 a b g.1 ((bare g).length:Int);rfl;simp only[ah,al,ae];rw[aL,L5 _ (by simp only[ai];omega)];simp only[ab,bB,Ae _ _ _ (show(bare g).length<=10^9 by omega),afU,af8,h6,ae,cF];cases (TW (yW a b g.1 ((bare g).length:Int)++bare g)==0)&&(g.1==17)<;>rfl
theorem HI (a b:Int)(g:fi):ku a b g=some (EL a b g):=by
 unfold ku EL R9;rw[afw,ab];cases hg:vr g;rfl;have hb:=H0 hg;have hl:=VU g;have hp:=Nh a b g.1 ((bare g).length:Int);have MT:vm g.1=some (bif g.1==6 then 16 else 6):=by unfold vm;rw[bB]
 have w1:=cr 65535;have w2:=cr (TW (yW a b g.1 ((bare g).length:Int)++bare g));simp only[ak4 g (by omega),ads,ab,al,ae,aZ];cases B5 a b g.1 ((bare g).length:Int);rfl;simp only[ah,al,ae];rw[aL,aft _ (by simp only[ai];omega)];simp only[ab,bB,MT,yS,W3 _ _ _ (show(bare g).length<=10^9 by omega) (show(cC 65535).length<=10^9 by omega),W3 _ _ _ (show(bare g).length<=10^9 by omega) (show(cC (TW (yW a b g.1 ((bare g).length:Int)++bare g))).length<=10^9 by omega),afU,af8,cF];rw[Bool.and_comm];cases (TW (yW a b g.1 ((bare g).length:Int)++bare g)==0)&&(g.1==17)<;>rfl
theorem aos (a b:Int)(g:fi):(EL a b g).1.length<=340:=by unfold EL;cases h:R9 a b g with|false=>exact bC _|true=>simp only[R9,af]at h;have:=H0 h.1;have:=VU g;show(yG _ _ _).length<=340;rw[xS];omega
def ipB (d:Ip):Bool:=cY d.1 0 255&&(cY d.2.2.1 0 255&&(cY d.2.2.2.1 0 255&&(cY d.2.1 0 65535&&(cY d.2.2.2.2.1 0 4294967295&&(cY d.2.2.2.2.2.1 0 4294967295&&decide ((d.2.2.2.2.2.2.length:Int)<=380))))))
theorem abj (d:Ip):I4 d=some (ipB d):=by simp only[I4,cn,ab,bB,cF,ipB]
theorem ald (d:Ip):MZ d=some (ipB d):=abj d
def Rm (d:Ip):Bytes:=((((((bs2 69 (iA d.1)++cC (20+(d.2.2.2.2.2.2.length:Int)))++cC d.2.1)++cC 16384)++bs2 (iA d.2.2.1) (iA d.2.2.2.1))++cC 0)++gw d.2.2.2.2.1)++gw d.2.2.2.2.2.1
theorem Rn (d:Ip):(Rm d).length<=20:=by have:=cr (20+(d.2.2.2.2.2.2.length:Int));have:=cr d.2.1;have:=cr 16384;have:=cr 0;have:=dT d.2.2.2.2.1;have:=dT d.2.2.2.2.2.1;simp only[Rm,ai,VW];omega
def Rl (d:Ip):Bytes:=yG (Rm d) 10 (cC (TW (Rm d)))
theorem aez (d:Ip):Aq d=some (bif ipB d then(Rl d,true) else([],false)):=by
 unfold Aq;rw[abj,ab];cases hd:ipB d;rfl;have hn:(d.2.2.2.2.2.2.length:Int)<=380:=by simp only[ipB,af,aG]at hd;omega
 have:=cr (20+(d.2.2.2.2.2.2.length:Int));have:=cr d.2.1;have:=cr 16384;have:=cr 0;have:=dT d.2.2.2.2.1;have:=dT d.2.2.2.2.2.1;have hl:=Rn d;have e:∀x y,(bf [x,y]).length=2:=λ_ _=>rfl;rw[aj (n:=20+(d.2.2.2.2.2.2.length:Int))];simp only[iS,kI,ab,al,ae,ah];rw[aL (by simp only[ai,e];omega),aL (by simp only[ai,e];omega),aL (by simp only[ai,e];omega),aL (by simp only[ai,e];omega),aL (by simp only[ai,e];omega),aL (by simp only[ai,e];omega),aL (by simp only[ai,e];omega)];have hp:((((((bf [69,iA d.1]++cC (20+(d.2.2.2.2.2.2.length:Int)))++cC d.2.1)++cC 16384)++bf [iA d.2.2.1,iA d.2.2.2.1])++cC 0)++gw d.2.2.2.2.1)++gw d.2.2.2.2.2.1=Rm d:=rfl;rw[hp,L5 _ (by omega),ab,Ae _ _ _];rfl
theorem adq (d:Ip):zS d=some (bif ipB d then(Rl d,true) else([],false)):=by
 unfold zS;rw[ald,ab];cases hd:ipB d;rfl;have hn:(d.2.2.2.2.2.2.length:Int)<=380:=by simp only[ipB,af,aG]at hd;omega
 have:=cr (20+(d.2.2.2.2.2.2.length:Int));have:=cr d.2.1;have:=cr 16384;have:=cr 0;have:=dT d.2.2.2.2.1;have:=dT d.2.2.2.2.2.1;have hl:=Rn d;have hw:=cr (TW (Rm d));have e:∀x y,(bf [x,y]).length=2:=λ_ _=>rfl;rw[aj (n:=20+(d.2.2.2.2.2.2.length:Int))];simp only[yS,CY,ab,al,ae,ah];rw[aL (by simp only[ai,e];omega),aL (by simp only[ai,e];omega),aL (by simp only[ai,e];omega),aL (by simp only[ai,e];omega),aL (by simp only[ai,e];omega),aL (by simp only[ai,e];omega),aL (by simp only[ai,e];omega)];have hp:((((((bf [69,iA d.1]++cC (20+(d.2.2.2.2.2.2.length:Int)))++cC d.2.1)++cC 16384)++bf [iA d.2.2.1,iA d.2.2.2.1])++cC 0)++gw d.2.2.2.2.1)++gw d.2.2.2.2.2.1=Rm d:=rfl;rw[hp,aft _ (by omega),ab,W3 _ _ _ (by omega) (by omega)];rfl
def X1 (d:Ip):Bytes×Bool:=bif ipB d then(Rl d++d.2.2.2.2.2.2,true) else([],false)
theorem M3 (d:Ip):(Rl d).length<=20:=by unfold Rl;rw[xS];exact Rn d
theorem amd (d:Ip):xW d=some (X1 d):=by
 unfold xW X1;rw[aez,ab];cases hd:ipB d;rfl;have hn:(d.2.2.2.2.2.2.length:Int)<=380:=by simp only[ipB,af,aG]at hd;omega
 have:=M3 d;simp only[ah,al,ae];rw[aL]
theorem alc (d:Ip):xp d=some (X1 d):=by
 unfold xp X1;rw[adq,ab];cases hd:ipB d;rfl;have hn:(d.2.2.2.2.2.2.length:Int)<=380:=by simp only[ipB,af,aG]at hd;omega
 have:=M3 d;simp only[ah,al,ae];rw[aL]
def Dx (n:Nat):Bytes:=bf (List.replicate n (0:Int))
theorem I9 (n:Nat):(Dx n).length=n:=by simp[Dx,bf]
theorem Si (n:Nat)(h:n<=10^9:=by omega):fZ (n:Int) 0=some (Dx n):=by unfold fZ;rw[zip,aL (by rw[ax];omega),ax];refine cK (λi=>(List.replicate n (0:Int),(i:Int))) n (by omega) (λi nx hi=>?_) (λnx=>?_);simp only[qG];rw[iH,bc (by simpa using hi),aj];simp only[ah,ab,ax,List.set_replicate_self];rfl;simp only[qG];rw[cD];rfl
theorem anT (n:Nat)(h:n<=10^9):Eb 0 (n:Int)=some (Dx n):=by unfold Eb;rw[zip,aL (by rw[ax];omega),ax];refine cK (λi=>(List.replicate n (0:Int),(i:Int))) n (by omega) (λi nx hi=>?_) (λnx=>?_);simp only[xH];rw[au (by simp;omega),bc (by simpa using hi),aj];simp only[ah,ab,ax,List.set_replicate_self];rfl;simp only[xH];rw[aq (by simp)];rfl
def pad (s:Bytes):Bytes:=if s.length<46 then s++Dx (46-s.length) else s
theorem Xh (s:Bytes):(pad s).length=max 46 s.length:=by unfold pad;split;simp only[ai,I9];omega;omega
theorem aox (s:Bytes)(h:s.length<=10^9):Cc s=some (pad s):=by unfold Cc pad;by_cases hc:s.length<46;rw[iH,aI hc,aj,show(46:Int)-(s.length:Int)=((46-s.length:Nat):Int) by omega,Si _];simp only[ah,ab];rw[aL (by rw[I9];omega)];rw[cD,aK hc];rfl
theorem anR (s:Bytes)(h:s.length<=10^9):BW s=some (pad s):=by unfold BW pad;by_cases hc:s.length<46;rw[cD,aI hc,aj,show(46:Int)-(s.length:Int)=((46-s.length:Nat):Int) by omega,anT _ (by omega)];simp only[ae,ab];rw[aL (by rw[I9];omega)];rw[iH,aK hc];rfl
def tz (e:SO):Bool:=cY e.1 0 281474976710655&&(cY e.2.1 0 281474976710655&&(cY e.2.2.1 (-1) 4095&&(cY e.2.2.2.1 1536 65535&&((e.2.2.2.1 !=33024)&&cY (e.2.2.2.2.length:Int) 46 400))))
theorem Nv (e:SO):zn e=some (tz e):=by simp only[zn,cn,ab,bB,cF,tz]
theorem UG (e:SO):C0 e=some (tz e):=Nv e
def mac (a:Int):Bytes:=(jj a).getD []
theorem Ei (a:Int):jj a=some (mac a)/\(mac a).length<=6:=by
 have h:∃x,jj a=some x/\x.length<=6:=by unfold jj;rw[nI];simp only[iS,kI,ab];have h1:=cr (fdiv a (2^(qO 32)));have h2:=dT (ar (toNat (fQ a&&&fQ 4294967295)));rw[aL];exact⟨_,rfl,by simp only[ai];omega⟩
 obtain⟨x,hx,hl⟩:=h;unfold mac;rw[hx];exact⟨rfl,hl⟩
theorem anP (a:Int):zZ a=some (mac a):=(Ei a).1
def T6 (e:SO):Bytes:=(bif decide (e.2.2.1>=0) then(((mac e.1++mac e.2.1)++cC 33024)++cC e.2.2.1) else mac e.1++mac e.2.1)++cC e.2.2.2.1++e.2.2.2.2
theorem akx (e:SO):(T6 e).length<=18+e.2.2.2.2.length:=by have:=(Ei e.1).2;have:=(Ei e.2.1).2;have:=cr 33024;have:=cr e.2.2.1;have:=cr e.2.2.2.1;unfold T6;cases decide (e.2.2.1>=0)<;>simp only[ah,ae,ai]<;>omega
def YA (e:SO):Bytes×Bool:=bif tz e then(T6 e,true) else([],false)
theorem aow (e:SO):Ag e=some (YA e):=by
 unfold Ag YA;rw[Nv,ab];cases he:tz e;rfl;have hn:(e.2.2.2.2.length:Int)<=400:=by simp only[tz,af,aX]at he;omega
 have:=(Ei e.1).2;have:=(Ei e.2.1).2;have:=cr 33024;have:=cr e.2.2.1;have:=cr e.2.2.2.1;simp only[(Ei _).1,iS,ab,al,ae,ah,T6];rw[aL];cases decide (e.2.2.1>=0)with|true=>simp only[ah];rw[aL (by simp only[ai];omega),aL (by simp only[ai];omega),aL (by simp only[ai];omega),aL (by simp only[ai];omega)]|false=>simp only[ae];rw[aL (by simp only[ai];omega),aL (by simp only[ai];omega)]
theorem anO (e:SO):zJ e=some (YA e):=by
 unfold zJ YA;rw[UG,ab];cases he:tz e;rfl;have hn:(e.2.2.2.2.length:Int)<=400:=by simp only[tz,af,aX]at he;omega
 have:=(Ei e.1).2;have:=(Ei e.2.1).2;have:=cr 33024;have:=cr e.2.2.1;have:=cr e.2.2.2.1;simp only[anP,yS,ab,al,ae,ah,T6];rw[aL];cases decide (e.2.2.1>=0)with|true=>simp only[ah];rw[aL,aL (by simp only[ai];omega),aL (by simp only[ai];omega),aL (by simp only[ai];omega)];simp only[bj]|false=>simp only[ae];rw[aL (by simp only[ai];omega),aL (by simp only[ai];omega)]
def aor (p:aD):Bytes×Bool:=EL p.2.2.2.2.2.2.1 p.2.2.2.2.2.2.2.1 p.2.2.2.2.2.2.2.2
def ipP (p:aD):Bytes×Bool:=X1 (p.2.2.2.1,p.2.2.2.2.1,p.2.2.2.2.2.1,p.2.2.2.2.2.2.2.2.1,p.2.2.2.2.2.2.1,p.2.2.2.2.2.2.2.1,(aor p).1)
def anv (p:aD):Bytes×Bool:=YA (p.1,p.2.1,p.2.2.1,2048,pad (ipP p).1)
def dS (p:aD):Bytes×Bool:=bif dw p then anv p else([],false)
theorem W4 (p:aD):(ipP p).1.length<=360:=by have h1:=aos p.2.2.2.2.2.2.1 p.2.2.2.2.2.2.2.1 p.2.2.2.2.2.2.2.2;unfold ipP X1;cases ipB (p.2.2.2.1,p.2.2.2.2.1,p.2.2.2.2.2.1,p.2.2.2.2.2.2.2.2.1,p.2.2.2.2.2.2.1,p.2.2.2.2.2.2.2.1,(aor p).1)with|false=>exact bC _|true=>have h2:=M3 (p.2.2.2.1,p.2.2.2.2.1,p.2.2.2.2.2.1,p.2.2.2.2.2.2.2.2.1,p.2.2.2.2.2.2.1,p.2.2.2.2.2.2.2.1,(aor p).1);have h3:(aor p).1.length<=340:=h1;simp only[ah,ai];omega
theorem FC (p:aD):hY p=some (dS p):=by have hl:=W4 p;unfold hY dS;simp only[oN,H6,amd,ab];rw[show(X1 (p.2.2.2.1,p.2.2.2.2.1,p.2.2.2.2.2.1,p.2.2.2.2.2.2.2.2.1,p.2.2.2.2.2.2.1,p.2.2.2.2.2.2.2.1,(EL p.2.2.2.2.2.2.1 p.2.2.2.2.2.2.2.1 p.2.2.2.2.2.2.2.2).1))=ipP p from rfl,aox _ (by omega),ab,aow];cases dw p<;>rfl
theorem UI (p:aD):qp p=some (dS p):=by have hl:=W4 p;unfold qp dS;simp only[qR,HI,alc,ab];rw[show(X1 (p.2.2.2.1,p.2.2.2.2.1,p.2.2.2.2.2.1,p.2.2.2.2.2.2.2.2.1,p.2.2.2.2.2.2.1,p.2.2.2.2.2.2.2.1,(EL p.2.2.2.2.2.2.1 p.2.2.2.2.2.2.2.1 p.2.2.2.2.2.2.2.2).1))=ipP p from rfl,anR _ (by omega),ab,anO];cases dw p<;>rfl
theorem MV (h:dw p=true):(dS p).2=true:=by
 have hl:=W4 p;have hh:ql p=true:=by simp only[dw,af]at h;exact h.1
 have hp:=Xh (ipP p).1;unfold dS anv YA;rw[h,ah];have:tz (p.1,p.2.1,p.2.2.1,2048,pad (ipP p).1)=true:=by simp only[ql,af]at hh;simp only[tz,af];refine⟨hh.1,hh.2.1,hh.2.2.1,by decide,by decide,aX.2 ?_⟩;omega
 rw[this];rfl
theorem CA (p:aD):(dS p).1.length<=378:=by have hl:=W4 p;have hp:=Xh (ipP p).1;unfold dS anv YA;cases dw p with|false=>exact bC _|true=>cases tz (p.1,p.2.1,p.2.2.1,2048,pad (ipP p).1)with|false=>exact bC _|true=>have:=akx (p.1,p.2.1,p.2.2.1,2048,pad (ipP p).1);simp only[ah]at this⊢;omega
def fcs (c:Int):Bytes:=bf [iA c,iA (fdiv c (2^(qO 8))),iA (fdiv c (2^(qO 16))),iA (fdiv c (2^(qO 24)))]
def Cq (s:Bytes):Bytes:=s++fcs (NM s)
theorem anx (c:Int):(fcs c).length=4:=rfl
theorem af4 (s:Bytes)(h:s.length<=10^9):yr s=some (Cq s):=by unfold yr;rw[af2 s h,ab,nI,nI,nI];exact aL (by show s.length+4<=_;omega)
theorem afv (s:Bytes)(h:s.length<=10^9):xE s=some (Cq s):=by unfold xE;rw[afu s h,ab,nI,nI,nI];exact aL (by show s.length+4<=_;omega)
def eQ (p:aD):Bool:=dw p&&decide ((p.2.2.2.2.2.2.2.2.2.2.2.2.2.2.2.length:Int)<=128)
theorem zj (p:aD):jV p=some (eQ p):=by simp only[jV,oN,ab,bB,cF,eQ]
theorem F1 (p:aD):nn p=some (eQ p):=by simp only[nn,qR,ab,bB,cF,eQ]
def rf (p:aD):Bytes×Bool:=bif eQ p then(Cq (dS p).1,true) else([],false)
theorem Nx (p:aD):mz p=some (rf p):=by have hl:=CA p;simp only[mz,zj,FC,af4 _ (show(dS p).1.length<=10^9 by omega),ab,rf];cases eQ p<;>rfl
theorem UH (p:aD):qo p=some (rf p):=by
 have hl:=CA p;simp only[qo,F1,UI,afv _ (show(dS p).1.length<=10^9 by omega),ab,rf];cases hp:eQ p with
 |false=>rfl
 |true=>
  have:dw p=true:=by simp only[eQ,af]at hp;exact hp.1
  rw[MV this];rfl
theorem Cw (p:aD):(rf p).1.length<=382:=by have hl:=CA p;unfold rf;cases eQ p with|false=>exact bC _|true=>simp only[ah,Cq,ai,anx];omega
def RO (p:aD)(z:Int)(k:Nat):aD:=
 (p.1,p.2.1,p.2.2.1,p.2.2.2.1,tmod (ar (p.2.2.2.2.1+(k:Int))) 65536,p.2.2.2.2.2.1,p.2.2.2.2.2.2.1,p.2.2.2.2.2.2.2.1,p.2.2.2.2.2.2.2.2.1,p.2.2.2.2.2.2.2.2.2.1,p.2.2.2.2.2.2.2.2.2.2.1,
   tmod (ar (p.2.2.2.2.2.2.2.2.2.2.2.1+((k:Int)*z))) 4294967296,p.2.2.2.2.2.2.2.2.2.2.2.2.1,
   (bif decide (((k:Int)+1)*z<(p.2.2.2.2.2.2.2.2.2.2.2.2.2.2.2.length:Int)) then ar (toNat (fQ p.2.2.2.2.2.2.2.2.2.2.2.2.2.1&&&~~~ fQ 9)) else p.2.2.2.2.2.2.2.2.2.2.2.2.2.1),
   p.2.2.2.2.2.2.2.2.2.2.2.2.2.2.1,(p.2.2.2.2.2.2.2.2.2.2.2.2.2.2.2.take (min ((k+1)*z.toNat) p.2.2.2.2.2.2.2.2.2.2.2.2.2.2.2.length)).drop (k*z.toNat))
def kx (n z:Nat):Nat:=(n+z-1)/z
def EO (p:aD)(z:Int):aw aD:=bif dw p&&cY z 1 128 then
    (bif (p.2.2.2.2.2.2.2.2.1 !=6)||decide ((p.2.2.2.2.2.2.2.2.2.2.2.2.2.2.2.length:Int)<=z) then [p] else(range (kx p.2.2.2.2.2.2.2.2.2.2.2.2.2.2.2.length z.toNat)).map (RO p z)) else []
theorem Nf {z k:Nat}(hz:0<z:=by omega):k<kx n z↔k*z<n:=by unfold kx;rw[Nat.lt_div_iff_mul_lt hz];omega
theorem Du (h:dw p=true):p.2.2.2.2.2.2.2.2.2.2.2.2.2.2.2.length<=320:=by
 have hh:ql p=true:=by simp only[dw,af]at h;exact h.1
 exact H0 (CU hh)
theorem Vz {b:Bytes}{k z:Nat}(hk:k*z<b.length)(hb:b.length<=320):sub b ((k*z:Nat):Int) ((min ((k+1)*z) b.length:Nat):Int)=some ((b.take (min ((k+1)*z) b.length)).drop (k*z)):=by have:k*z<=(k+1)*z:=de _ (by omega);unfold sub;rw[zip,ax,ax]
theorem aiJ (p:aD)(z:Int):Gx p z=some (EO p z):=by
 unfold Gx EO;simp only[oN,cn,ab];cases hs:dw p;rfl;cases hz:cY z 1 128;rfl;have hz':=aX.1 hz;have hb:=Du hs;simp only[al,ae,bW,ah,ab,bB,cT];cases hq:(p.2.2.2.2.2.2.2.2.1 !=6)||decide ((p.2.2.2.2.2.2.2.2.2.2.2.2.2.2.2.length:Int)<=z)with
 |true=>simp only[ah,room,da,aW,bz];rfl
 |false=>
  simp only[ae];obtain⟨m,rfl⟩:=aO (show 0<=z by omega);have hN:∀k,k<kx p.2.2.2.2.2.2.2.2.2.2.2.2.2.2.2.length m↔k*m<p.2.2.2.2.2.2.2.2.2.2.2.2.2.2.2.length:=λk=>Nf;have Jd:kx p.2.2.2.2.2.2.2.2.2.2.2.2.2.2.2.length m<=320:=by rcases bT 320 (kx p.2.2.2.2.2.2.2.2.2.2.2.2.2.2.2.length m)with h|h;have:=(hN 320).1 h;have:320*1<=320*m:=Nat.mul_le_mul_left _ (by omega);omega;exact h
  refine cK (λk=>((range k).map (RO p (m:Int)),(k:Int))) (kx p.2.2.2.2.2.2.2.2.2.2.2.2.2.2.2.length m) (by omega) (λk nx hk=>?_) (λnx=>?_);have hkm:=(hN k).1 hk;have hk1:(k+1)*m=k*m+m:=by rw[dc,fJ]
  have e1:(k:Int)*(m:Int)=((k*m:Nat):Int):=by push_cast;rfl
  have e2:((k:Int)+1)*(m:Int)=(((k+1)*m:Nat):Int):=by push_cast;rfl
  simp only[Av];rw[aj (n:=(k:Int)+1),e1,e2,gY (n:=k*m),gY (n:=(k+1)*m),iH,ah];have e3:(if(((k+1)*m:Nat):Int)<(p.2.2.2.2.2.2.2.2.2.2.2.2.2.2.2.length:Int) then(((k+1)*m:Nat):Int) else(p.2.2.2.2.2.2.2.2.2.2.2.2.2.2.2.length:Int))=((min ((k+1)*m) p.2.2.2.2.2.2.2.2.2.2.2.2.2.2.2.length:Nat):Int):=by split<;>omega
  rw[e3,Vz hkm hb,ab,nI,nI];rw[gz,eH,List.map_singleton];simp only[RO,e1,e2,ax];cases decide ((((k+1)*m:Nat):Int)<(p.2.2.2.2.2.2.2.2.2.2.2.2.2.2.2.length:Int))with|true=>simp only[ah];rw[aL (by simp;omega)];rfl|false=>simp only[ae];rw[aL (by simp;omega)];rfl
  have hkm:¬kx p.2.2.2.2.2.2.2.2.2.2.2.2.2.2.2.length m*m<p.2.2.2.2.2.2.2.2.2.2.2.2.2.2.2.length:=λh=>absurd ((hN _).2 h) (oo _);have hub:kx p.2.2.2.2.2.2.2.2.2.2.2.2.2.2.2.length m*m<=320*128:=Nat.mul_le_mul Jd (by omega);have e1:((kx p.2.2.2.2.2.2.2.2.2.2.2.2.2.2.2.length m:Nat):Int)*(m:Int)=((kx p.2.2.2.2.2.2.2.2.2.2.2.2.2.2.2.length m*m:Nat):Int):=by push_cast;rfl
  simp only[Av];rw[e1,gY,cD];rfl
theorem ahr (p:aD)(z:Int):F7 p z=some (EO p z):=by
 unfold F7 EO;simp only[qR,dW,ab];cases hs:dw p;rfl;cases hz:cY z 1 128;rfl;have hz':=aX.1 hz;have hb:=Du hs;simp only[al,ae,bW,ah,ab,bB,cT];cases hq:(p.2.2.2.2.2.2.2.2.1 !=6)||decide ((p.2.2.2.2.2.2.2.2.2.2.2.2.2.2.2.length:Int)<=z)with
 |true=>rfl
 |false=>
  simp only[ae];obtain⟨m,rfl⟩:=aO (show 0<=z by omega);have hN:∀k,k<kx p.2.2.2.2.2.2.2.2.2.2.2.2.2.2.2.length m↔k*m<p.2.2.2.2.2.2.2.2.2.2.2.2.2.2.2.length:=λk=>Nf;have Jd:kx p.2.2.2.2.2.2.2.2.2.2.2.2.2.2.2.length m<=320:=by rcases bT 320 (kx p.2.2.2.2.2.2.2.2.2.2.2.2.2.2.2.length m)with h|h;have:=(hN 320).1 h;have:320*1<=320*m:=Nat.mul_le_mul_left _ (by omega);omega;exact h
  refine cK (λk=>((range k).map (RO p (m:Int)),(k:Int))) (kx p.2.2.2.2.2.2.2.2.2.2.2.2.2.2.2.length m) (by omega) (λk nx hk=>?_) (λnx=>?_);have hkm:=(hN k).1 hk;have hk1:(k+1)*m=k*m+m:=by rw[dc,fJ]
  have e1:(k:Int)*(m:Int)=((k*m:Nat):Int):=by push_cast;rfl
  have e2:((k:Int)+1)*(m:Int)=(((k+1)*m:Nat):Int):=by push_cast;rfl
  have sK:=Vz hkm hb;simp only[zW];rw[aj (n:=(k:Int)+1),e1,e2,gY (n:=k*m),gY (n:=(k+1)*m),iH,ah];rw[gz,eH,List.map_singleton];simp only[RO,e1,e2,ax];by_cases hc:(((k+1)*m:Nat):Int)<(p.2.2.2.2.2.2.2.2.2.2.2.2.2.2.2.length:Int);rw[au hc];rw[show min ((k+1)*m) p.2.2.2.2.2.2.2.2.2.2.2.2.2.2.2.length=(k+1)*m by omega]at sK⊢;simp only[ah];rw[sK,ab,nI,nI,aL (by simp;omega)];rfl;rw[aq hc];rw[show min ((k+1)*m) p.2.2.2.2.2.2.2.2.2.2.2.2.2.2.2.length=p.2.2.2.2.2.2.2.2.2.2.2.2.2.2.2.length by omega]at sK⊢;simp only[ae];rw[sK,ab,nI,nI,aL (by simp;omega)];rfl;have hkm:¬kx p.2.2.2.2.2.2.2.2.2.2.2.2.2.2.2.length m*m<p.2.2.2.2.2.2.2.2.2.2.2.2.2.2.2.length:=λh=>absurd ((hN _).2 h) (oo _);have hub:kx p.2.2.2.2.2.2.2.2.2.2.2.2.2.2.2.length m*m<=320*128:=Nat.mul_le_mul Jd (by omega);have e1:((kx p.2.2.2.2.2.2.2.2.2.2.2.2.2.2.2.length m:Nat):Int)*(m:Int)=((kx p.2.2.2.2.2.2.2.2.2.2.2.2.2.2.2.length m*m:Nat):Int):=by push_cast;rfl
  simp only[zW];rw[e1,gY,cD];rfl
theorem KD (p:aD)(z:Int):(EO p z).length<=320:=by unfold EO;cases hs:dw p&&cY z 1 128;exact bC _;simp only[af,aX]at hs;have hb:=Du hs.1;cases (p.2.2.2.2.2.2.2.2.1 !=6)||decide ((p.2.2.2.2.2.2.2.2.2.2.2.2.2.2.2.length:Int)<=z)with|true=>simp only[ah,aW];omega|false=>simp only[ah,ae,bw,List.length_range];rcases bT 320 (kx p.2.2.2.2.2.2.2.2.2.2.2.2.2.2.2.length z.toNat)with h|h;have:=(Nf).1 h;have:320*1<=320*z.toNat:=Nat.mul_le_mul_left _ (by omega);omega;exact h
def PU (acc:bV)(p:aD):bV:=bif (rf p).2 then acc++[(rf p).1] else acc
theorem PV (acc:bV)(p:aD):(PU acc p).length<=acc.length+1:=by unfold PU;cases (rf p).2<;>simp
def IE (l:aw aD):bV:=l.foldl PU []
theorem NV:∀(l:aw aD)(acc:bV),(l.foldl PU acc).length<=acc.length+l.length
 |[],acc=>by simp
 |p::l,acc=>by have:=NV l (PU acc p);have:=PV acc p;simp only[dL,bg];omega
theorem Jl:∀(l:aw aD)(acc:bV),(∀x∈acc,x.length<=382)->∀x∈l.foldl PU acc,x.length<=382
 |[],acc,h=>h
 |p::l,acc,h=>by rw[dL];refine Jl l _ (λx hx=>?_);unfold PU at hx;cases hf:(rf p).2 with|false=>rw[hf]at hx;exact h x hx|true=>rw[hf]at hx;simp only[ah,aA,bI]at hx;rcases hx with hx|hx;exact h x hx;rw[hx];exact Cw p
theorem aev (l:aw aD)(h:l.length<=10^9):Am l=some (IE l):=by
 unfold Am IE;have:=sV (T:=oT (λ(y3:bV) (_:Int)=>some y3) l) l (λ(s:bV) i=>(s,(i:Int))) (λi s=>s.length<=i) (λp s=> .ok (PU s p)) (λs=>some s) (by omega) (λi hi s nx hI=>?hs) (λi hi s s' hI hg=>?hn) (λs nx hI=>?hf) [] (by simp)
 case hs=>
  simp only[oT]
  rw[iH,bc hi,aj (n:=(i:Int)+1)]
  simp only[ah,ab,Nx,PU]
  rw[aL (by simp;omega)]
  cases (rf l[i]).2<;>rfl
 case hn=>cases hg;have:=PV s l[i];omega
 case hf=>
  simp only[oT]
  rw[cD];rfl
 rw[Gq]at this;exact this
theorem adn (l:aw aD)(h:l.length<=10^9):zP l=some (IE l):=by
 unfold zP IE;have:=sV (T:=oy (λ(y3:bV) (_:Int)=>some y3) l (l.length:Int)) l (λ(s:bV) i=>(s,(i:Int))) (λi s=>s.length<=i) (λp s=> .ok (PU s p)) (λs=>some s) (by omega) (λi hi s nx hI=>?hs) (λi hi s s' hI hg=>?hn) (λs nx hI=>?hf) [] (by simp)
 case hs=>
  simp only[oy]
  rw[iH,bc hi,aj (n:=(i:Int)+1)]
  simp only[ah,ab,UH,PU]
  rw[aL (by simp;omega)]
  cases (rf l[i]).2<;>rfl
 case hn=>cases hg;have:=PV s l[i];omega
 case hf=>
  simp only[oy]
  rw[cD];rfl
 rw[Gq]at this;exact this
def JL (p:aD)(z:Int):bV:=IE (EO p z)
theorem amk (p:aD)(z:Int):wh p z=some (JL p z):=by have:=KD p z;simp only[wh,aiJ,aev _ (show(EO p z).length<=10^9 by omega),ab];rfl
theorem alh (p:aD)(z:Int):vR p z=some (JL p z):=by have:=KD p z;simp only[vR,ahr,adn _ (show(EO p z).length<=10^9 by omega),ab];rfl
theorem Nr (p:aD)(z:Int):(JL p z).length<=320/\∀x∈JL p z,x.length<=382:=by have:=KD p z;have:=NV (EO p z) [];exact⟨by unfold JL IE;simp only[da]at this;omega,Jl _ [] (by simp)⟩
theorem E6 {s:Bytes}(h0:0<=a:=by omega)(h:a+2<=(s.length:Int):=by omega):0<=cP s a/\cP s a<=65535:=by have h1:=eJ s a.toNat;have h2:=eJ s (a.toNat+1);unfold cP fG;rw[au ⟨h0,h⟩];simp only[ah];omega
theorem E7 {s:Bytes}(h0:0<=a:=by omega)(h:a+4<=(s.length:Int):=by omega):0<=eK s a/\eK s a<=4294967295:=by have h1:=eJ s a.toNat;have h2:=eJ s (a.toNat+1);have h3:=eJ s (a.toNat+2);have h4:=eJ s (a.toNat+3);unfold eK fG;rw[au ⟨h0,h⟩];simp only[ah];omega
theorem alr {x y:Int}(hx:0<=x/\x<=65535)(hy:0<=y/\y<=4294967295):ar (toNat (fQ (ar (x*2^(qO 32)))|||fQ y))=x*4294967296+y:=by have e:(2:Int)^(qO 32)=4294967296:=rfl;obtain⟨x,rfl⟩:=aO hx.1;obtain⟨y,rfl⟩:=aO hy.1;rw[e,aj (n:=(x:Int)*4294967296),show(x:Int)*4294967296=((2^32*x:Nat):Int) by omega,Kx x 32 y];omega
theorem afC {x y:Int}(hx:0<=x/\x<=65535)(hy:0<=y/\y<=4294967295):ar (ar (x*2^(qO 32))+y)=x*4294967296+y:=by have e:(2:Int)^(qO 32)=4294967296:=rfl;rw[e,aj (n:=x*4294967296),aj]
theorem Mp {l:aw α}{n:Int}(h0:0<=n:=by omega)(h1:n<=(l.length:Int):=by omega):sub l 0 n=some (l.take n.toNat):=by unfold sub;rw[zip];simp
theorem yA {l:aw α}(k:Nat)(h:k<=l.length:=by omega)(ha:a=(k:Int):=by omega):sub l a (l.length:Int)=some (l.drop k):=by unfold sub;rw[zip];subst ha;simp
theorem PK {l:aw α}(k:Nat){n:Int}(ha:a=(k:Int))(h0:a<=n:=by omega)(h1:n<=(l.length:Int):=by omega):sub l a n=some ((l.take n.toNat).drop k):=by unfold sub;rw[zip];subst ha;simp
def wH (s:Bytes):Bytes×Bool:=bif decide ((s.length:Int)<4) then([],false) else bif Cq (s.take ((s.length:Int)-4).toNat)==s then(s.take ((s.length:Int)-4).toNat,true) else([],false)
theorem aes (s:Bytes)(h:s.length<=10^9):Ah s=some (wH s):=by unfold Ah wH;rw[aj (n:=(s.length:Int)-4)];by_cases h4:(s.length:Int)<4;rw[au h4];rfl;rw[aq h4,Mp];simp only[ae,ab,af4 _ (show(s.take ((s.length:Int)-4).toNat).length<=10^9 by rw[aP];omega)];cases Cq (s.take ((s.length:Int)-4).toNat)==s<;>rfl
theorem adm (s:Bytes)(h:s.length<=10^9):zK s=some (wH s):=by unfold zK wH;rw[aj (n:=(s.length:Int)-4)];by_cases h4:(s.length:Int)<4;rw[au (show(s.length:Int)-4<0 by omega),au h4];rfl;rw[aq (show¬(s.length:Int)-4<0 by omega),aq h4,Mp];simp only[ae,ab,afv _ (show(s.take ((s.length:Int)-4).toNat).length<=10^9 by rw[aP];omega)];cases Cq (s.take ((s.length:Int)-4).toNat)==s<;>rfl
def akw:SO:=(0,0,0,0,([]:Bytes))
def JB (s:Bytes)(a:Int):Int:=cP s a*4294967296+eK s (a+2)
def Kg (s:Bytes):SO:=(JB s 0,JB s 6,cP s 14,cP s 16,s.drop 18)
def AJ (s:Bytes):SO:=(JB s 0,JB s 6, -1,cP s 12,s.drop 14)
def gj (s:Bytes):SO×Bool:=bif decide ((s.length:Int)<18) then(akw,false) else
 bif cP s 12==33024 then(bif tz (Kg s) then(Kg s,true) else(akw,false)) else bif tz (AJ s) then(AJ s,true) else(akw,false)
theorem XG (s:Bytes)(h:s.length<=10^9):Ar s=some (gj s):=by unfold Ar gj;by_cases h8:(s.length:Int)<18;rw[au h8];rfl;rw[aq h8];simp only[ae,tW s _ h,zg s _ h,ab];rw[nI,nI,yA (l:=s) 14 (by omega) (show(14:Int)=((14:Nat):Int) from rfl),ab,yA (l:=s) 18 (by omega) (show(18:Int)=((18:Nat):Int) from rfl)];rw[afC (E6 (s:=s) (a:=0)) (E7 (s:=s) (a:=2)),afC (E6 (s:=s) (a:=6)) (E7 (s:=s) (a:=8))];simp only[ab,Nv];rw[show((cP s 0*4294967296+eK s 2,cP s 6*4294967296+eK s 8,cP s 14,cP s 16,s.drop 18):SO)=Kg s from rfl,show((cP s 0*4294967296+eK s 2,cP s 6*4294967296+eK s 8, -1,cP s 12,s.drop 14):SO)=AJ s from rfl];cases cP s 12==33024<;>cases tz (Kg s)<;>cases tz (AJ s)<;>rfl
theorem W1 (s:Bytes)(h:s.length<=10^9):zT s=some (gj s):=by
 unfold zT gj;by_cases h4:(s.length:Int)<14;rw[au h4,au (show(s.length:Int)<18 by omega)];rfl;rw[aq h4];simp only[ae,MX s _ h,IJ s _ h,ab];rw[nI,nI,yA (l:=s) 14 (by omega) (show(14:Int)=((14:Nat):Int) from rfl),ab];rw[alr (E6 (s:=s) (a:=0)) (E7 (s:=s) (a:=2)),alr (E6 (s:=s) (a:=6)) (E7 (s:=s) (a:=8))];simp only[ab,UG];rw[show((cP s 0*4294967296+eK s 2,cP s 6*4294967296+eK s 8, -1,cP s 12,s.drop 14):SO)=AJ s from rfl];by_cases h8:(s.length:Int)<18;have hB:tz (AJ s)=false:=by
  unfold tz AJ;have:cY ((s.drop 14).length:Int) 46 400=false:=by rw[Bool.eq_false_iff,ne_eq,aX,aS];omega
  simp only[this,iu]
 rw[au h8,aq (show¬(s.length:Int)>=18 by omega),hB];cases cP s 12==33024<;>rfl;rw[aq h8,au (show(s.length:Int)>=18 by omega),yA (l:=s) 18 (by omega) (show(18:Int)=((18:Nat):Int) from rfl)];simp only[ab];rw[show((cP s 0*4294967296+eK s 2,cP s 6*4294967296+eK s 8,cP s 14,cP s 16,s.drop 18):SO)=Kg s from rfl];cases cP s 12==33024<;>cases tz (Kg s)<;>cases tz (AJ s)<;>rfl
def ip0:Ip:=(0,0,0,0,0,0,([]:Bytes))
def F9 (s:Bytes):Ip:=((ch s 1:Int),cP s 4,(ch s 8:Int),(ch s 9:Int),eK s 12,eK s 16,(s.take (cP s 2).toNat).drop 20)
def md (s:Bytes):Ip×Bool:=bif decide ((s.length:Int)<20)||(decide (cP s 2<20)||decide (cP s 2>(s.length:Int))) then(ip0,false) else
 bif (X1 (F9 s)).2&&((X1 (F9 s)).1==s.take (cP s 2).toNat) then(F9 s,true) else(ip0,false)
theorem abm (s:Bytes)(h:s.length<=10^9):Cd s=some (md s):=by
 unfold Cd md;simp only[tW s _ h,zg s _ h,ab];by_cases h1:(s.length:Int)<20;rw[au h1];rfl;by_cases h2:cP s 2<20;rw[aq h1,au h2];rfl;by_cases h3:cP s 2>(s.length:Int);rw[aq h1,aq h2,au h3];rfl;rw[aq h1,aq h2,aq h3];have b1:=mH (s[1]'(by omega));have b8:=mH (s[8]'(by omega));have b9:=mH (s[9]'(by omega));have i1:idx s 1=some (s[1]'(by omega)):=bc (i:=1) (by omega);have i8:idx s 8=some (s[8]'(by omega)):=bc (i:=8) (by omega);have i9:idx s 9=some (s[9]'(by omega)):=bc (i:=9) (by omega);simp only[ae,ab,cc,i1,i8,i9];rw[PK (l:=s) 20 (show(20:Int)=((20:Nat):Int) from rfl),Mp,gY (n:=(s[1]'(by omega)).toNat),gY (n:=(s[8]'(by omega)).toNat),gY (n:=(s[9]'(by omega)).toNat)];have e:(((s[1]'(by omega)).toNat:Int),cP s 4,((s[8]'(by omega)).toNat:Int),((s[9]'(by omega)).toNat:Int),eK s 12,eK s 16,(s.take (cP s 2).toNat).drop 20)=F9 s:=by simp only[F9,ch,bN (show 1<s.length by omega),bN (show 8<s.length by omega),bN (show 9<s.length by omega)]
 simp only[ab,e,amd];cases (X1 (F9 s)).2<;>cases (X1 (F9 s)).1==s.take (cP s 2).toNat<;>rfl
theorem ZL (s:Bytes)(h:s.length<=10^9):BX s=some (md s):=by
 unfold BX md;simp only[MX s _ h,IJ s _ h,ab];by_cases h1:(s.length:Int)<20;rw[au h1];rfl;by_cases h2:cP s 2<20;rw[aq h1,au h2];rfl;by_cases h3:cP s 2>(s.length:Int);rw[aq h1,aq h2,au h3];rfl;rw[aq h1,aq h2,aq h3];have b1:=mH (s[1]'(by omega));have b8:=mH (s[8]'(by omega));have b9:=mH (s[9]'(by omega));have i1:idx s 1=some (s[1]'(by omega)):=bc (i:=1) (by omega);have i8:idx s 8=some (s[8]'(by omega)):=bc (i:=8) (by omega);have i9:idx s 9=some (s[9]'(by omega)):=bc (i:=9) (by omega);simp only[ae,ab,cc,i1,i8,i9];rw[PK (l:=s) 20 (show(20:Int)=((20:Nat):Int) from rfl),Mp,gY (n:=(s[1]'(by omega)).toNat),gY (n:=(s[8]'(by omega)).toNat),gY (n:=(s[9]'(by omega)).toNat)];have e:(((s[1]'(by omega)).toNat:Int),cP s 4,((s[8]'(by omega)).toNat:Int),((s[9]'(by omega)).toNat:Int),eK s 12,eK s 16,(s.take (cP s 2).toNat).drop 20)=F9 s:=by simp only[F9,ch,bN (show 1<s.length by omega),bN (show 8<s.length by omega),bN (show 9<s.length by omega)]
 simp only[ab,e,alc];cases (X1 (F9 s)).2<;>cases (X1 (F9 s)).1==s.take (cP s 2).toNat<;>rfl
def arB:fi:=(0,0,0,0,0,0,0,([]:Bytes))
def Sa (k:Int)(s:Bytes):fi:=(k,cP s 0,cP s 2,eK s 4,eK s 8,(ch s 13:Int),cP s 14,s.drop 20)
def Xy (k:Int)(s:Bytes):fi:=(k,cP s 0,cP s 2,0,0,0,0,s.drop 8)
def sS (a b k:Int)(s:Bytes):fi×Bool:=
 bif (k==6)&&decide ((s.length:Int)>=20) then(bif (EL a b (Sa k s)).2&&((EL a b (Sa k s)).1==s) then(Sa k s,true) else(arB,false)) else
 bif (k==17)&&decide ((s.length:Int)>=8) then(bif (EL a b (Xy k s)).2&&((EL a b (Xy k s)).1==s) then(Xy k s,true) else(arB,false)) else(arB,false)
theorem XH (a b k:Int)(s:Bytes)(h:s.length<=10^9):se a b k s=some (sS a b k s):=by
 unfold se sS;simp only[tW s _ h,zg s _ h,ab];rw[show(aa (cond (k==6) (some (decide ((s.length:Int)>=20))) (some false)):(Bool->az (fi×Bool))->az (fi×Bool))=λK=>K ((k==6)&&decide ((s.length:Int)>=20)) from by funext K;cases k==6<;>rfl];rw[show(aa (cond (k==17) (some (decide ((s.length:Int)>=8))) (some false)):(Bool->az (fi×Bool))->az (fi×Bool))=λK=>K ((k==17)&&decide ((s.length:Int)>=8)) from by funext K;cases k==17<;>rfl];simp only;cases h1:(k==6)&&decide ((s.length:Int)>=20)with
 |true=>
  simp only[af,aG]at h1;have bb:=mH (s[13]'(by omega));have i:idx s 13=some (s[13]'(by omega)):=bc (i:=13) (by omega);have e:(k,cP s 0,cP s 2,eK s 4,eK s 8,((s[13]'(by omega)).toNat:Int),cP s 14,s.drop 20)=Sa k s:=by simp only[Sa,ch,bN (show 13<s.length by omega)]
  simp only[ah,i,ab];rw[yA (l:=s) 20 (by omega) (show(20:Int)=((20:Nat):Int) from rfl),gY (n:=(s[13]'(by omega)).toNat)];simp only[ab,e,H6];cases (EL a b (Sa k s)).2<;>cases (EL a b (Sa k s)).1==s<;>rfl
 |false=>simp only[ae];cases h2:(k==17)&&decide ((s.length:Int)>=8)with|false=>rfl|true=>simp only[af,aG]at h2;rw[yA (l:=s) 8 (by omega) (show(8:Int)=((8:Nat):Int) from rfl)];simp only[ah,ab,show((k,cP s 0,cP s 2,0,0,0,0,s.drop 8):fi)=Xy k s from rfl,H6];cases (EL a b (Xy k s)).2<;>cases (EL a b (Xy k s)).1==s<;>rfl
theorem W2 (a b k:Int)(s:Bytes)(h:s.length<=10^9):rE a b k s=some (sS a b k s):=by
 unfold rE sS;simp only[MX s _ h,IJ s _ h,ab];rw[show(aa (cond (k==6) (some (decide ((s.length:Int)>=20))) (some false)):(Bool->az (fi×Bool))->az (fi×Bool))=λK=>K ((k==6)&&decide ((s.length:Int)>=20)) from by funext K;cases k==6<;>rfl];rw[show(aa (cond (k==17) (some (decide ((s.length:Int)>=8))) (some false)):(Bool->az (fi×Bool))->az (fi×Bool))=λK=>K ((k==17)&&decide ((s.length:Int)>=8)) from by funext K;cases k==17<;>rfl];simp only;cases h1:(k==6)&&decide ((s.length:Int)>=20)with
 |true=>
  simp only[af,aG]at h1;have bb:=mH (s[13]'(by omega));have i:idx s 13=some (s[13]'(by omega)):=bc (i:=13) (by omega);have e:(k,cP s 0,cP s 2,eK s 4,eK s 8,((s[13]'(by omega)).toNat:Int),cP s 14,s.drop 20)=Sa k s:=by simp only[Sa,ch,bN (show 13<s.length by omega)]
  simp only[ah,i,ab];rw[yA (l:=s) 20 (by omega) (show(20:Int)=((20:Nat):Int) from rfl),gY (n:=(s[13]'(by omega)).toNat)];simp only[ab,e,HI];cases (EL a b (Sa k s)).2<;>cases (EL a b (Sa k s)).1==s<;>rfl
 |false=>simp only[ae];cases h2:(k==17)&&decide ((s.length:Int)>=8)with|false=>rfl|true=>simp only[af,aG]at h2;rw[yA (l:=s) 8 (by omega) (show(8:Int)=((8:Nat):Int) from rfl)];simp only[ah,ab,show((k,cP s 0,cP s 2,0,0,0,0,s.drop 8):fi)=Xy k s from rfl,HI];cases (EL a b (Xy k s)).2<;>cases (EL a b (Xy k s)).1==s<;>rfl
def pk0:aD:=(0,0,0,0,0,0,0,0,0,0,0,0,0,0,0,([]:Bytes))
def kU (s:Bytes):aD×Int:=
 let e:=gj s
 bif !e.2||(e.1.2.2.2.1 !=2048) then(pk0,2) else
 let i:=md e.1.2.2.2.2
 bif !i.2 then(pk0,3) else
 let g:=sS i.1.2.2.2.2.1 i.1.2.2.2.2.2.1 i.1.2.2.2.1 i.1.2.2.2.2.2.2
 bif !g.2 then(pk0,4) else
 bif !dw (e.1.1,e.1.2.1,e.1.2.2.1,i.1.1,i.1.2.1,i.1.2.2.1,i.1.2.2.2.2.1,i.1.2.2.2.2.2.1,g.1) then(pk0,5) else
 ((e.1.1,e.1.2.1,e.1.2.2.1,i.1.1,i.1.2.1,i.1.2.2.1,i.1.2.2.2.2.1,i.1.2.2.2.2.2.1,g.1),0)
theorem LO (s:Bytes):(gj s).1.2.2.2.2.length<=s.length:=by
 unfold gj;cases decide ((s.length:Int)<18);case true=>simp[akw]
 cases cP s 12==33024<;>cases tz (Kg s)<;>cases tz (AJ s)<;>simp[akw,Kg,AJ]
theorem Oe (s:Bytes):(md s).1.2.2.2.2.2.2.length<=s.length:=by
 unfold md;cases decide ((s.length:Int)<20)||(decide (cP s 2<20)||decide (cP s 2>(s.length:Int)));case true=>simp[ip0]
 cases (X1 (F9 s)).2&&((X1 (F9 s)).1==s.take (cP s 2).toNat)with|false=>simp[ip0]|true=>simp[F9];omega
theorem I2 (s:Bytes)(h:s.length<=10^9):jd s=some (kU s):=by
 have h1:=LO s;unfold jd kU;rw[XG s h,ab];generalize gj s=e at h1⊢;have h2:=Oe e.1.2.2.2.2;simp only;cases e.2;rfl;cases e.1.2.2.2.1 !=2048;case true=>rfl
 simp only[al,ae,ab,cc,abm _ (show e.1.2.2.2.2.length<=10^9 by omega)];generalize md e.1.2.2.2.2=i at h2⊢;cases i.2;rfl;simp only[al,ae,ab,XH _ _ _ _ (show i.1.2.2.2.2.2.2.length<=10^9 by omega)];generalize sS i.1.2.2.2.2.1 i.1.2.2.2.2.2.1 i.1.2.2.2.1 i.1.2.2.2.2.2.2=g;cases g.2;rfl;simp only[al,ae,ab,oN];cases dw (e.1.1,e.1.2.1,e.1.2.2.1,i.1.1,i.1.2.1,i.1.2.2.1,i.1.2.2.2.2.1,i.1.2.2.2.2.2.1,g.1)<;>rfl
theorem aho (s:Bytes)(h:s.length<=10^9):xC s=some (kU s):=by
 have h1:=LO s;unfold xC kU;rw[W1 s h,ab];generalize gj s=e at h1⊢;have h2:=Oe e.1.2.2.2.2;simp only;cases e.2;rfl;cases e.1.2.2.2.1 !=2048;case true=>rfl
 simp only[al,ae,ab,cc,ZL _ (show e.1.2.2.2.2.length<=10^9 by omega)];generalize md e.1.2.2.2.2=i at h2⊢;cases i.2;rfl;simp only[al,ae,ab,W2 _ _ _ _ (show i.1.2.2.2.2.2.2.length<=10^9 by omega)];generalize sS i.1.2.2.2.2.1 i.1.2.2.2.2.2.1 i.1.2.2.2.1 i.1.2.2.2.2.2.2=g;cases g.2;rfl;simp only[al,ae,ab,qR];cases dw (e.1.1,e.1.2.1,e.1.2.2.1,i.1.1,i.1.2.1,i.1.2.2.1,i.1.2.2.2.2.1,i.1.2.2.2.2.2.1,g.1)<;>rfl
def eM (s:Bytes):aD×Int:=
 let c:=wH s
 bif !c.2 then(pk0,1) else
 let r:=kU c.1
 bif r.2 !=0 then(pk0,r.2) else
 bif !eQ r.1 then(pk0,5) else(r.1,0)
theorem Qg (s:Bytes):(wH s).1.length<=s.length:=by
 unfold wH;cases decide ((s.length:Int)<4);case true=>simp
 cases Cq (s.take ((s.length:Int)-4).toNat)==s with|false=>simp|true=>simp;omega
theorem I1 (s:Bytes)(h:s.length<=10^9):lR s=some (eM s):=by
 have h1:=Qg s;unfold lR eM;rw[aes s h,ab];generalize wH s=c at h1⊢;simp only;cases c.2;rfl;simp only[al,ae,ab,I2 _ (show c.1.length<=10^9 by omega)];generalize kU c.1=r;cases r.2 !=0;case true=>rfl
 simp only[ae,ab,zj];cases eQ r.1<;>rfl
theorem MY (s:Bytes)(h:s.length<=10^9):oB s=some (eM s):=by
 have h1:=Qg s;unfold oB eM;rw[adm s h,ab];generalize wH s=c at h1⊢;simp only;cases c.2;rfl;simp only[al,ae,ab,aho _ (show c.1.length<=10^9 by omega)];generalize kU c.1=r;cases r.2 !=0;case true=>rfl
 simp only[ae,ab,F1];cases eQ r.1<;>rfl
theorem iR (a:bV)(h:a.length<=1073741824:=by omega):dK a=some a:=by simp only[dK];rw[aL (by simpa using h)];rfl
def MP (a b:α):Bool:= @decide (a=b) (Classical.propDecidable _)
theorem FO {a b:α}:MP a b=true↔a=b:=by unfold MP;exact @decide_eq_true_iff _ (Classical.propDecidable _)
theorem Qy {a b:α}{x:Bool}(h:x=true↔a=b):x=MP a b:=by rw[cG,FO];exact h
theorem axR [BEq α][LawfulBEq α](a b:α):(a==b)=MP a b:=Qy ba
theorem aku {β:Type}(a b:α)(c d:β):MP (a,c) (b,d)=(MP a b&&MP c d):=by rw[cG];simp only[af,FO,Prod.mk.injEq]
theorem Yz {β:Type}(a b:α×β):MP a b=(MP a.1 b.1&&MP a.2 b.2):=aku a.1 b.1 a.2 b.2
theorem Qz {a b:α}(h:a=b):MP a b=true:=FO.2 h
theorem agL {a b:α}(h:¬a=b):MP a b=false:=by rw[Bool.eq_false_iff,ne_eq,FO];exact h
theorem akv {T:(Int->az R)->Int->az R}{fin hit:az R}(p:α->α->Bool)(hp:∀x y,p x y=true↔x=y)(a b:aw α)(hl:a.length=b.length)(h:a.length<=10^9)(hs:∀i (hi:i<a.length) nx,T nx (i:Int)=cond (!(p a[i] (b[i]'(hl▸hi)))) hit (nx ((i+1:Nat):Int)))(hf:∀nx,T nx (a.length:Int)=fin): bh T fuel 0=cond (MP a b) fin hit:=by
 have hq:∀i,i<a.length->i<b.length:=λi hi=>hl▸hi;rw[gO (fin:=fin) (hit:=hit) (λi=>MP a[i]? b[i]?) a.length (by omega) ?hs hf]
 case hs=>
  intro i nx hi
  rw[hs i hi,ak hi,ak (hq i hi)]
  have:p a[i] (b[i]'(hq i hi))=MP (some a[i]) (some (b[i]'(hq i hi))):=Qy (by rw[hp,bq])
  rw[this]
 congr 1;apply Qy;rw[aF];constructor;intro k;apply dj;intro i;by_cases hi:i<a.length;exact FO.1 (k i (bE.2 hi));rw[bJ (by omega),bJ (by omega)];rintro rfl i _;exact Qz rfl
theorem anu {T:(Int->az Bool)->Int->az Bool}(p:α->α->Bool)(hp:∀x y,p x y=true↔x=y)(a b:aw α)(h:a.length<=10^9)(hs:a.length=b.length->∀i (hi:i<a.length)(wV:i<b.length) nx,T nx (i:Int)=cond (!(p a[i] b[i])) (some false) (nx ((i+1:Nat):Int)))(hf:∀nx,T nx (a.length:Int)=some true): cond ((a.length:Int) !=(b.length:Int)) (some false) (bh T fuel 0)=some (MP a b):=by by_cases hl:a.length=b.length;rw[akv p hp a b hl h (λi hi nx=>hs hl i hi (hl▸hi) nx) hf];rw[show((a.length:Int) !=(b.length:Int))=false by simp[hl]];cases MP a b<;>rfl;rw[agL (λe=>hl (by rw[e]))];rw[show((a.length:Int) !=(b.length:Int))=true by simp;omega];rfl
theorem alb (a b:bQ)(h:a.length<=10^9):tU a b=some (MP a b):=by unfold tU;refine anu (λx y=>x==y) (λx y=>ba) a b h (λhl i hi wV nx=>?_) (λnx=>?_);simp only[nU];rw[iH,bc hi,bc wV,aj];rfl;simp only[nU];rw[cD];rfl
theorem F0 (a b:Filter)(h:a.2.2.length<=10^9):qs a b=some (MP a b):=by simp only[qs,alb _ _ h,ab,bB,cF,Yz a b,Yz a.2 b.2,axR]
theorem vL (l:bV)(h:l.length<=10^9):jz l=some l:=by simp only[jz,gq h,bz]
theorem ov (f:Filter)(h:f.2.2.length<=10^9:=by omega):fF f=some f:=by simp only[fF,Hg _ h,ab]
theorem km (f:Filter)(h:f.2.2.length<=10^9):gA f=some f:=by simp only[gA,gq h,bz]
theorem GX (l:aw Stream)(h:l.length<=10^9):oD l=some l:=by simp only[oD,gq h,bz]
theorem Tk (t:aw Slot)(h:t.length<=10^9):xF t=some t:=by simp only[xF,gq h,bz]
theorem Rd (s:oe)(h:s.2.length<=10^9):vT s=some s:=by simp only[vT,Hg _ h,ab]
theorem Tj (s:dA)(h1:s.1.length<=10^9)(h2:s.2.1.length<=10^9)(h3:s.2.2.2.length<=10^9):rL s=some s:=by simp only[rL,gq h1,Tk _ h2,Rd _ h3,ab,bz]
theorem TB (t:aw Slot)(h:t.length<=10^9):Cj t=some t:=by simp only[Cj,gq h,bz]
theorem EM (s:dA)(h1:s.1.length<=10^9)(h2:s.2.1.length<=10^9)(h3:s.2.2.2.length<=10^9):yu s=some s:=by simp only[yu,gq h1,TB _ h2,gq h3,ab,bz]
theorem ais (l:aw xb)(i:Nat)(hi:i<l.length):l.take i++[(l[i].1,l[i].2.1,l[i].2.2)]=l.take (i+1):=(aV hi).symm
structure ajf (t:dx):Prop where
 p:t.2.1.2.2.2.length<=10^9
 w:t.2.2.1.length<=10^9
 x:∀x∈t.2.2.1,x.2.2.length<=10^9
theorem Dl (t:dx)(z:ajf t):jY t=some t:=by have h:=z.w;unfold jY;simp only[yT _ z.p,ab];refine(cK (λi=>((i:Int),t.1,t.2.1,t.2.2.1.take i,t.2.2.2)) t.2.2.1.length (by omega) (λi nx hi=>?_) (λnx=>?_));simp only[wx];rw[iH,bc hi,aj];simp only[ah,ab,gq (z.x _ (aB hi)),bz];rw[aL (by simp;omega),ais _ i hi];rfl;simp only[wx];rw[cD,cf];rfl
theorem atg (z:cB 1000000000 dz h):ajf h.2.2.1:=⟨z.2.2.1.2.1.2.2.2.1,z.2.2.1.2.2.1.1,λx hx=>(z.2.2.1.2.2.1.2 x hx).2.2.1⟩
theorem jU (h:Host)(z:cB 1000000000 dz h):iP h=some h:=by have hp:h.2.2.2.2.1.length<=10^9:=z.2.2.2.2.1.1;have hm:h.1.length<=10^9:=z.1.1;unfold iP;simp only[iR _ (show h.1.length<=1073741824 by omega),gq z.2.1.1,Dl _ (atg z),gq z.2.2.2.1.1,ab,bz];refine(cK (λi=>((i:Int),h.1,h.2.1,h.2.2.1,h.2.2.2.1,h.2.2.2.2.1.take i,h.2.2.2.2.2)) h.2.2.2.2.1.length (by omega) (λi nx hi=>?_) (λnx=>?_));simp only[wA];rw[iH,bc hi,aj];simp only[ah,ab,yT _ (z.2.2.2.2.1.2 _ (aB hi)).2.2.2.1];rw[aL (by simp;omega),<-aV hi];rfl;simp only[wA];rw[cD,cf];simp only[ae,gq z.2.2.2.2.2.1.1,gq z.2.2.2.2.2.2.1.1,km _ z.2.2.2.2.2.2.2.1.2.2.1,EM _ z.2.2.2.2.2.2.2.2.1.1.1 z.2.2.2.2.2.2.2.2.1.2.1.1 z.2.2.2.2.2.2.2.2.1.2.2.2.1,gq z.2.2.2.2.2.2.2.2.2.1.1,gq z.2.2.2.2.2.2.2.2.2.2.2.1.1,gq z.2.2.2.2.2.2.2.2.2.2.2.2.1.1,gq z.2.2.2.2.2.2.2.2.2.2.2.2.2.1.1,ab,bz]
theorem ae5:∀l:aw xb,(bG l).length<=TI (.sl ru) l
 |[]=>by simp[bG]
 |x::l=>by have:=ae5 l;simp only[bG,TI,List.flatMap_cons,ai,db,eI,bg]at this⊢;omega
theorem FZ (s:yN)(z:cB 1000000000 qj s):qW s=some s:=by simp only[qW,ov _ z.1.2.2.1,Tj _ z.2.1.1.1 z.2.1.2.1.1 z.2.1.2.2.2.1,GX _ z.2.2.2.1.1,vL _ z.2.2.2.2.1,ab]
def apk:yN:=((0,false,([]:bQ)),(([]:aw kL),([]:aw Slot),([]:Bytes),([]:bQ)),0,([]:aw Stream),([]:bV))
def Dj (h:Host):yN:=bif eL h then(h.2.2.2.2.2.2.2.1,h.2.2.2.2.2.2.2.2.1,(h.2.2.2.1.length:Int),h.2.2.2.2.2.2.2.2.2.1,([]:bV)) else apk
theorem Vp (h:Host)(z:cB n dz h):cB n qj (Dj h):=by unfold Dj;cases eL h with|false=>exact⟨⟨cq,cq,bC _,λ_ h=>nomatch h⟩,⟨⟨bC _,λ_ h=>nomatch h⟩,⟨bC _,λ_ h=>nomatch h⟩,bC _,bC _,λ_ h=>nomatch h⟩,cq,⟨bC _,λ_ h=>nomatch h⟩,bC _,λ_ h=>nomatch h⟩|true=>exact⟨z.2.2.2.2.2.2.2.1,z.2.2.2.2.2.2.2.2.1,cq,z.2.2.2.2.2.2.2.2.2.1,bC _,λ_ h=>nomatch h⟩
theorem adu (h:Host)(z:cB 1000000000 dz h)(k:J2 h):Ea h=some (Dj h):=by have hl:=Vp h z;simp only[Ea,ZI h k,ab,Dj]at hl⊢;cases hb:eL h with|false=>rfl|true=>rw[hb]at hl;simp only[al,ae,ah]at hl⊢;simp only[FZ _ hl,ab]
noncomputable def Di (s:yN):Bool:=dG s.1&&eC s.2.1 s.2.2.1
theorem ZP (s:yN)(h0:s.1.2.2.length<=10^9)(h1:s.2.1.1.length<=10^9)(h2:s.2.1.2.1.length<=10^9)(h3:s.2.1.2.2.2.length<=10^9):AO s=some (Di s):=by unfold AO Di;simp only[pC _ h0,F3 _ _ h1 h2 h3,ab,bB];cases dG s.1<;>rfl
def atF (f:Hc)(s:Stream):Bool:=decide (s.1=f)
def Pj (l:aw Stream)(f:Hc):Int:=match l.findIdx? (atF f)with|some i=>(i:Int)|none=> -1
theorem abq (l:aw Stream)(f:Hc)(h:l.length<=10^9):pg l f=some (Pj l f):=by
 unfold pg Pj;rw[Cv (p:=atF f) (hit:=λi=>some i) (fin:=some (-1)) l (by omega) (λi hi nx=>?hs) (λnx=>?hf)]
 case hs=>
  simp only[nZ]
  rw[iH,bc hi,aj]
  simp only[ah,ab,Ld,atF];rfl
 case hf=>
  simp only[nZ]
  rw[cD];rfl
 cases l.findIdx? (atF f)<;>rfl
theorem ali (l:aw Stream)(f:Hc)(h:l.length<=10^9):tL l f=some (Pj l f):=by
 unfold tL Pj;rw[Cv (p:=atF f) (hit:=λi=>some i) (fin:=some (-1)) l (by omega) (λi hi nx=>?hs) (λnx=>?hf)]
 case hs=>
  simp only[nP]
  rw[iH,bc hi,aj]
  simp only[ah,ab,Ld,atF];rfl
 case hf=>
  simp only[nP]
  rw[cD];rfl
 cases l.findIdx? (atF f)<;>rfl
def aeL:Stream:=((0,0,0,0,0),0,([]:Bytes),false)
def body (p:aD):Bytes:=p.2.2.2.2.2.2.2.2.2.2.2.2.2.2.2
def udp (p:aD):Bytes:=cC ((body p).length:Int)++body p
def Bo (p:aD)(b:Int):Bool:=ar (toNat (fQ p.2.2.2.2.2.2.2.2.2.2.2.2.2.1&&&fQ b)) !=0
def sA (s:Stream)(p:aD):Int:=(s.2.1-p.2.2.2.2.2.2.2.2.2.2.2.1)%4294967296
def aoJ (s:Stream)(p:aD):Stream:=(s.1,(s.2.1+((body p).length:Int)-sA s p)%4294967296,s.2.2.1++(body p).drop (sA s p).toNat,Bo p 1)
def xk (l:aw Stream)(p:aD):aw Stream:=
 bif !dw p then l else
 match l.findIdx? (atF (jx p))with
 |none=>
  bif p.2.2.2.2.2.2.2.2.1==17 then l++[(jx p,0,udp p,false)] else
  bif Bo p 2 then l++[(jx p,tmod (ar (p.2.2.2.2.2.2.2.2.2.2.2.1+1)) 4294967296,([]:Bytes),false)] else l
 |some i=>
  bif p.2.2.2.2.2.2.2.2.1==17 then l.set i ((l.getD i aeL).1,(l.getD i aeL).2.1,(l.getD i aeL).2.2.1++udp p,(l.getD i aeL).2.2.2) else
  bif Bo p 2 then l else
  bif (l.getD i aeL).2.2.2||Bo p 4 then l else
  bif decide (sA (l.getD i aeL) p<=((body p).length:Int)) then l.set i (aoJ (l.getD i aeL) p) else l
theorem X5 (s:Stream)(p:aD):0<=sA s p/\sA s p<4294967296:=by unfold sA;omega
theorem alv (x:Int):ar (toNat (fQ x&&&fQ 4294967295))=x%4294967296:=by have:=E1 x 32;rw[show((2:Int)^32-1)=4294967295 from rfl,show((2:Int)^32)=4294967296 from rfl]at this;rw[this,aj]
theorem am7 (x:Int):ar x%4294967296=x%4294967296:=by have:=FG x 32;rwa[show((2:Int)^32)=4294967296 from rfl]at this
theorem L2 (l:aw α)(x y:α):(l++[x]).set l.length y=l++[y]:=by rw[List.set_append_right _ _ (bt _),gZ,List.set_cons_zero]
theorem afr {l:aw α}(h:i<l.length)(x:α):idx (l.set i x) (i:Int)=some x:=by rw[Lv,cw h]
theorem BP (l:aw α)(x:α):idx (l++[x]) (l.length:Int)=some x:=by rw[Lv,bA (bt _),gZ];rfl
theorem P4 (h:dw p=true):(body p).length<=320:=Du h
theorem WW (l:aw Stream)(p:aD)(h:cB 900000000 (.sl dU) l):xr l p=some (xk l p):=by
 have hl:l.length<=900000000:=h.1;unfold xr xk;simp only[GX l (by omega),qR,ab,ZH,ali l _ (show l.length<=10^9 by omega),yS];cases hs:dw p;rfl;have hb:=P4 hs;have hw:=cr ((body p).length:Int);simp only[al,ae];rw[show p.2.2.2.2.2.2.2.2.2.2.2.2.2.2.2=body p from rfl];cases hf:l.findIdx? (atF (jx p))with
 |none=>
  have e1:Pj l (jx p)= -1:=by rw[Pj,hf]
  simp only[e1,show decide ((-1:Int)<0)=true from rfl,ah];cases p.2.2.2.2.2.2.2.2.1==17 with|true=>simp only[ah];rw[aL (by simp;omega),BP,ab];simp only;rw[aL,aL (by simp only[ai,da];omega),ab,ax];simp only[ab,BP,L2,bz];rfl|false=>simp only[ae];rw[show(ar (toNat (fQ p.2.2.2.2.2.2.2.2.2.2.2.2.2.1&&&fQ 2)) !=0)=Bo p 2 from rfl];cases Bo p 2 with|true=>simp only[ah];rw[nI,aL (by simp;omega)]|false=>rfl
 |some i=>
  obtain⟨hi,_⟩:=List.findIdx?_eq_some_iff_getElem.1 hf;have hd:(l[i].2.2.1).length<=900000000:=(h.2 _ (aB hi)).2.2.1;have e1:Pj l (jx p)=(i:Int):=by rw[Pj,hf]
  simp only[e1,aq (show¬(i:Int)<0 by omega),ae,bc hi,ab,bN hi,ax];cases p.2.2.2.2.2.2.2.2.1==17 with
  |true=>simp only[ah];rw[aL,aL (by simp only[ai];omega)];rfl
  |false=>
   simp only[ae];rw[show(ar (toNat (fQ p.2.2.2.2.2.2.2.2.2.2.2.2.2.1&&&fQ 2)) !=0)=Bo p 2 from rfl,show(ar (toNat (fQ p.2.2.2.2.2.2.2.2.2.2.2.2.2.1&&&fQ 4)) !=0)=Bo p 4 from rfl,show(ar (toNat (fQ p.2.2.2.2.2.2.2.2.2.2.2.2.2.1&&&fQ 1)) !=0)=Bo p 1 from rfl];cases Bo p 2;case true=>rfl
   simp only[ae];rw[show(aa (cond l[i].2.2.2 (some true) (some (Bo p 4))):(Bool->az (aw Stream))->az (aw Stream))=λK=>K (l[i].2.2.2||Bo p 4) from by funext K;cases l[i].2.2.2<;>rfl];simp only;cases l[i].2.2.2||Bo p 4;case true=>rfl
   simp only[ae,UU _ 4294967296,ab,am7];rw[show(l[i].2.1-p.2.2.2.2.2.2.2.2.2.2.2.1)%4294967296=sA l[i] p from rfl];have ha:=X5 l[i] p;by_cases hq:sA l[i] p<=((body p).length:Int)
   rw[au hq,yA (l:=body p) (sA l[i] p).toNat];simp only[ah,ab];rw[aL (by rw[aS];omega)];simp only[afr hi,ab,List.set_set];refine congrArg some (congrArg (l.set i) ?_);simp only[aoJ];rw[show(ar (l[i].2.1+((body p).length:Int))-sA l[i] p)%4294967296=(l[i].2.1+((body p).length:Int)-sA l[i] p)%4294967296 from by rw[Int.sub_emod,am7,<-Int.sub_emod]];rw[aq hq];rfl
theorem XB (l:aw Stream)(p:aD)(h:cB 900000000 (.sl dU) l):Ca l p=some (xk l p):=by
 have hl:l.length<=900000000:=h.1;unfold Ca xk;rw[gq];simp only[bz,oN,ab,L9,abq l _ (show l.length<=10^9 by omega),iS];cases hs:dw p;rfl;have hb:=P4 hs;have hw:=cr ((body p).length:Int);simp only[al,ae];rw[show p.2.2.2.2.2.2.2.2.2.2.2.2.2.2.2=body p from rfl];cases hf:l.findIdx? (atF (jx p))with
 |none=>
  have e1:Pj l (jx p)= -1:=by rw[Pj,hf]
  simp only[e1,show decide ((-1:Int)<0)=true from rfl,ah];cases p.2.2.2.2.2.2.2.2.1==17 with|true=>simp only[ah];rw[aL (by simp;omega),BP,ab];simp only;rw[aL (by simp only[da];omega),aL (by simp only[ai,da];omega),ab,ax];simp only[ab,BP,L2,bz];rfl|false=>simp only[ae];rw[show(ar (toNat (fQ p.2.2.2.2.2.2.2.2.2.2.2.2.2.1&&&fQ 2)) !=0)=Bo p 2 from rfl];cases Bo p 2 with|true=>simp only[ah];rw[nI,aL (by simp;omega)]|false=>rfl
 |some i=>
  obtain⟨hi,_⟩:=List.findIdx?_eq_some_iff_getElem.1 hf;have hd:(l[i].2.2.1).length<=900000000:=(h.2 _ (aB hi)).2.2.1;have e1:Pj l (jx p)=(i:Int):=by rw[Pj,hf]
  simp only[e1,aq (show¬(i:Int)<0 by omega),ae,bc hi,ab,bN hi,ax];cases p.2.2.2.2.2.2.2.2.1==17 with
  |true=>simp only[ah];rw[aL,aL (by simp only[ai];omega),bj];rfl
  |false=>
   simp only[ae];rw[show(ar (toNat (fQ p.2.2.2.2.2.2.2.2.2.2.2.2.2.1&&&fQ 2)) !=0)=Bo p 2 from rfl,show(ar (toNat (fQ p.2.2.2.2.2.2.2.2.2.2.2.2.2.1&&&fQ 4)) !=0)=Bo p 4 from rfl,show(ar (toNat (fQ p.2.2.2.2.2.2.2.2.2.2.2.2.2.1&&&fQ 1)) !=0)=Bo p 1 from rfl];cases Bo p 2;case true=>rfl
   simp only[ae];rw[show(aa (cond l[i].2.2.2 (some true) (some (Bo p 4))):(Bool->az (aw Stream))->az (aw Stream))=λK=>K (l[i].2.2.2||Bo p 4) from by funext K;cases l[i].2.2.2<;>rfl];simp only;cases l[i].2.2.2||Bo p 4;case true=>rfl
   simp only[ae,alv,ab,am7];rw[show(l[i].2.1-p.2.2.2.2.2.2.2.2.2.2.2.1)%4294967296=sA l[i] p from rfl];have ha:=X5 l[i] p;by_cases hq:sA l[i] p<=((body p).length:Int)
   rw[au hq,yA (l:=body p) (sA l[i] p).toNat];simp only[ah,ab];rw[aL (by rw[aS];omega)];simp only[afr hi,ab,List.set_set,aK (show¬(4294967296:Nat)=0 by omega)];refine congrArg some (congrArg (l.set i) ?_);simp only[aoJ];have e:tmod (ar (ar (l[i].2.1%4294967296+((body p).length:Int))-sA l[i] p)) 4294967296=(l[i].2.1+((body p).length:Int)-sA l[i] p)%4294967296:=by rw[aj (n:=l[i].2.1%4294967296+((body p).length:Int)),aj,ed (by omega)];omega
   rw[e];rw[aq hq];rfl
theorem ZF (l:aw Stream)(p:aD)(h:cB 100000000 (.sl dU) l):xr l p=some (xk l p):=WW l p (h.mono)
theorem La {l:aw Stream}(h:cB n (.sl dU) l):cB (n+322) (.sl dU) (xk l p):=by
 have h':cB (n+322) (.sl dU) l:=h.mono;unfold xk;cases hs:dw p;exact h';have hb:=P4 hs;have hw:=cr ((body p).length:Int);have hu:(udp p).length<=322:=by simp only[udp,ai];omega
 simp only[al,ae];have app:∀x:Stream,x.2.2.1.length<=n+322->cB (n+322) (.sl dU) (l++[x]):=by intro x hx;refine⟨?_,λy hy=>?_⟩;have:l.length<=n:=h.1;simp only[ai,aW];omega;rcases aA.1 hy with g|g;exact h'.2 y g;rw[bI.1 g];exact⟨⟨cq,cq,cq,cq,cq⟩,cq,hx,cq⟩
 have put:∀(i:Nat)(x:Stream),x.2.2.1.length<=n+322->cB (n+322) (.sl dU) (l.set i x):=by intro i x hx;refine⟨?_,λy hy=>?_⟩;show(l.set i x).length<=_;rw[ay];exact h'.1;rcases cd hy with g|rfl;exact h'.2 y g;exact⟨⟨cq,cq,cq,cq,cq⟩,cq,hx,cq⟩
 split;cases p.2.2.2.2.2.2.2.2.1==17 with|true=>exact app _ (show(udp p).length<=_ by omega)|false=>cases Bo p 2 with|true=>exact app _ (bC _)|false=>exact h'
 ·rename_i i hf;obtain⟨hi,_⟩:=List.findIdx?_eq_some_iff_getElem.1 hf;have hd:(l[i].2.2.1).length<=n:=(h.2 _ (aB hi)).2.2.1;simp only[bN hi];cases p.2.2.2.2.2.2.2.2.1==17 with
  |true=>exact put _ _ (by simp only[ai];omega)
  |false=>
   cases Bo p 2;case true=>exact h'
   cases l[i].2.2.2||Bo p 4;case true=>exact h'
   cases decide (sA l[i] p<=((body p).length:Int))with|false=>exact h'|true=>exact put _ _ (by simp only[aoJ,ai,aS];omega)
def XU (s:yN)(x:Bytes):Bool:=Di s&&(((eM x).2==0)&&(su s.1 (eM x).1&&(rk s.2.1 s.2.2.1 (eM x).1 != -1)))
def AY (s:yN)(x:Bytes):yN:=bif XU s x then(s.1,s.2.1,s.2.2.1,xk s.2.2.2.1 (eM x).1,s.2.2.2.2) else s
theorem ZM (s:yN)(x:Bytes)(z:cB 100000000 qj s)(h:x.length<=10^9):tH s x=some (AY s x):=by have z9:cB 1000000000 qj s:=z.mono;unfold tH AY XU;simp only[FZ s z9,MY x h,ZP s z9.1.2.2.1 z9.2.1.1.1 z9.2.1.2.1.1 z9.2.1.2.2.2.1,ZB s.1 _ z9.1.2.2.1,ahs s.2.1 _ _ z9.2.1.1.1 z9.2.1.2.1.1 z9.2.1.2.2.2.1,ZF s.2.2.2.1 _ z.2.2.2.1,ab];cases Di s<;>cases (eM x).2==0<;>cases su s.1 (eM x).1<;>cases rk s.2.1 s.2.2.1 (eM x).1 != -1<;>rfl
theorem Xq {s:yN}{x:Bytes}(z:cB n qj s):cB (n+322) qj (AY s x):=by have z':cB (n+322) qj s:=z.mono;unfold AY;cases XU s x with|false=>exact z'|true=>exact⟨z'.1,z'.2.1,cq,La z.2.2.2.1,z'.2.2.2.2⟩
end
end Go.Pu
