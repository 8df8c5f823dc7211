import Derived.Test.YtbebkmajekhclaaGreatDnData
import Derived.Test.YtbebkmajekhclaaGreatPure
namespace Go.Pu
open Go.Dn
open List (range)
open BitVec (toNat)
open Int (fdiv tmod)
set_option linter.unusedSimpArgs false
set_option linter.unusedVariables false
noncomputable section
variable {s:Bytes} {h:Host} {a v:Int} {f:Int->az Int} {m:bE} {i n:Nat} {p:aK} {R X α σ:Type} {l:bW}
/- Plain laws of the partial operations and of loops. -/
theorem ak {n:Int}(h1: -9223372036854775808<=n:=by omega)(h2:n<=9223372036854775807:=by omega):au n=n:=by simp only[au,gF,IntKind.wrap,IntKind.bits,IntKind.signed];simp;omega
@[simp] theorem ab (a:α)(k:α->az R):aa (some a) k=k a:=rfl
@[simp] theorem an2 (k:α->az R):aa none k=none:=rfl
@[simp] theorem Fx (c:Bool)(x y:α)(k:α->az R):aa (cond c (some x) (some y)) k=k (cond c x y):=by cases c<;>rfl
theorem bM (c:Bool)(x y:α):cond c (some x) (some y)=some (cond c x y):=by cases c<;>rfl
theorem aR {k:az R}(h:n<=1073741824:=by omega):room n k=k:=by simp[room,h]
theorem J3 (xs:ax α)(i:Nat):idx xs (i:Int)=xs[i]?:=rfl
theorem br {xs:ax α}(h:i<xs.length):idx xs (i:Int)=some xs[i]:=by rw[J3];exact al h
def upK (step:Nat->σ->(σ->az R)->az R)(fin:σ->az R)(N:Nat):Nat->Nat->σ->az R
 |0,_,s=>fin s
 |n+1,i,s=>step i s (λs'=>upK step fin N n (i+1) s')
theorem Kr {T:(X->az R)->X->az R}(N:Nat)(e:σ->Nat->X)(step:Nat->σ->(σ->az R)->az R)(fin:σ->az R)(hs:∀i s nx,i<N->T nx (e s i)=step i s (λs'=>nx (e s' (i+1))))(hf:∀s nx,T nx (e s N)=fin s): ∀n i s,i<=N->N-i<n->bl T n (e s i)=upK step fin N (N-i) i s:=by
 intro n;induction n with
 |zero=>intro i s _ h;omega
 |succ n ih=>
  intro i s hi hn;rw[bl];rcases cr i N with gH|Cg;rw[hs i s _ gH,show N-i=(N-(i+1))+1 by omega,upK];congr 1;funext s';exact ih (i+1) s' (by omega) (by omega);have:i=N:=by omega
  subst this;rw[hf,jv,upK]
def Ca (step:α->σ->(σ->az R)->az R)(fin:σ->az R):ax α->σ->az R
 |[],s=>fin s
 |x::xs,s=>step x s (Ca step fin xs)
theorem Ee {T:(X->az R)->X->az R}(xs:ax α)(e:σ->Nat->X)(step:α->σ->(σ->az R)->az R)(fin:σ->az R)(hs:∀i (h:i<xs.length) s nx,T nx (e s i)=step xs[i] s (λs'=>nx (e s' (i+1))))(hf:∀s nx,T nx (e s xs.length)=fin s): ∀n i s,i<=xs.length->xs.length-i<n->bl T n (e s i)=Ca step fin (xs.drop i) s:=by
 intro n;induction n with
 |zero=>intro i s _ h;omega
 |succ n ih=>
  intro i s hi hn;rw[bl];rcases cr i xs.length with gH|Cg;rw[hs i gH s _,cc gH,Ca];congr 1;funext s';exact ih (i+1) s' (by omega) (by omega);have:i=xs.length:=by omega
  subst this;rw[hf,gO,Ca]
def So:(t:CT)->t.D->Nat
 | .int _,_=>0
 | .bool,_=>0
 | .str,s=>s.length
 | .sl e,xs=>xs.length+(xs.map (So e)).sum
 | .pair a b,x=>So a x.1+So b x.2
def dj (n:Nat):(t:CT)->t.D->Prop
 | .int _,_=>True
 | .bool,_=>True
 | .str,s=>s.length<=n
 | .sl e,xs=>xs.length<=n/\∀x∈xs,dj n e x
 | .pair a b,x=>dj n a x.1/\dj n b x.2
theorem I8 (f:α->Nat):∀(xs:ax α)(x:α),x∈xs->f x<=(xs.map f).sum
 |y::ys,x,h=>by rcases bS.1 h with rfl|h;simp;have:=I8 f ys x h;simp;omega
theorem K5:∀{t:CT}{x:t.D},So t x<=n->dj n t x
 | .int _,_,_=>trivial
 | .bool,_,_=>trivial
 | .str,_,h=>h
 | .sl e,xs,h=>by simp only[So]at h;exact⟨by omega,λx hx=>K5 (by have:=I8 (So e) xs x hx;omega)⟩
 | .pair a b,x,h=>by simp only[So]at h;exact⟨K5 (by omega),K5 (by omega)⟩
theorem dj.mono {m:Nat}(h:n<=m:=by omega):∀{t:CT}{x:t.D},dj n t x->dj m t x
 | .int _,_,_=>trivial
 | .bool,_,_=>trivial
 | .str,_,k=>bp k h
 | .sl _,_,k=>⟨bp k.1 h,λx hx=>dj.mono h (k.2 x hx)⟩
 | .pair _ _,_,k=>⟨dj.mono h k.1,dj.mono h k.2⟩
def ahE:(t:CT)->t.D->Prop
 | .int k,n=>k.min<=n/\n<=k.max
 | .bool,_=>True
 | .str,s=>s.length<=9223372036854775807
 | .sl e,xs=>xs.length<=9223372036854775807/\∀x∈xs,ahE e x
 | .pair a b,x=>ahE a x.1/\ahE b x.2
def mw (l n:Int):Int:=if n<=l then l-n else-1
def OA (f:α->Int->az Int)(k0:Int->Int->az R)(k1:Int->Int->Int->az R)(v0:ax α)(nx:Int×Int->az R)(x:Int×Int):az R:=
 cond (decide (x.2<((List.length v0:Int)))) (
  aa (idx v0 x.2) λx1=>
  aa (f x1 x.1) λr2=>
  cond (decide (r2<0)) (
   k1 r2 (-1) x.2) (
   nx (r2,au (x.2+1)))) (
  k0 x.1 x.2)
noncomputable def Wl (f:α->Int->az Int)(a0:ax α)(a1:Int):az Int:=
 cond (decide ((au (a1-((List.length a0:Int))))<0)) (
  some (-1)) (
  bl (OA f (λy3 _=>some y3) (λ_ y6 _=>some y6) a0) fuel (au (a1-((List.length a0:Int))),0))
theorem ade {f:α->Int->az Int}{s:α->Nat}{a:ax α}{l:Int}(h0:0<=l)(h1:l<=1048576)(hm:a.length<=9223372036854775807)(hf:∀x∈a,∀l:Int,0<=l->l<=1048576->∃r,f x l=some r/\((s x:Int)<=l->r=l-s x)/\(¬(s x:Int)<=l->r<0)):Wl f a l=some (mw l ((a.length+(a.map s).sum:Nat):Int)):=by
 unfold Wl;have D5:=eS;rw[ak];rcases Int.lt_or_le (l-a.length) 0 with avJ|afx;rw[ar avJ];simp only[ah,mw];rw[nU];rw[cC];simp only[af];have key:=Ee (T:=OA f (λy3 _=>some y3) (λ_ y6 _=>some y6) a) a (λ(q:Int) i=>(q,(i:Int))) (λx q k=>aa (f x q) λr=>cond (decide (r<0)) (some (-1)) (k r)) (λq=>some q) (λi hi q nx=>by simp only[OA];rw[jI];simp only[ah,br hi,ab];rw[ak];rfl) (λq nx=>by simp only[OA];rw[cC];rfl) fuel 0 (l-a.length) (by omega) (by omega);have e:((0:Nat):Int)=0:=rfl;rw[e,eL]at key;rw[key];have main:∀(b:ax α)(q:Int),0<=q->q<=1048576->(∀x∈b,x∈a)->Ca (λx q k=>aa (f x q) λr=>cond (decide (r<0)) (some (-1)) (k r)) (λq=>some q) b q=some (mw q ((b.map s).sum:Nat)):=by intro b;induction b with|nil=>intro q hq _ _;simp[Ca,mw,hq]|cons x b ih=>intro q hq hq2 hb;obtain⟨r,hr,hr1,RV⟩:=hf x (hb x (by simp)) q hq hq2;rw[Ca,hr,ab];by_cases hle:(s x:Int)<=q;have:=hr1 hle;subst this;rw[cC];simp only[af];rw[ih _ (by omega) (by omega) (λy hy=>hb y (by simp[hy]))];simp only[mw,dk,fW];congr 1;split<;>split<;>omega;rw[ar (RV hle)];simp only[ah,mw,dk,fW];rw[nU]
 rw[main a _ (by omega) (by omega) (λx h=>h)];simp only[mw];congr 1;split<;>split<;>omega
def Du (f:Int->az Int)(n:Nat):Prop:=∀l:Int,0<=l->l<=1048576->f l=some (mw l n)
theorem Du.nil:Du (λl=>some l) 0:=λl h0 _=>by simp[mw,h0]
theorem Du.len {m:Nat}(hn:n<=9223372036854775807){k:Int->az Int}(h:Du k m): Du (λl=>cond (decide (au (l-(n:Int))<0)) (some (-1)) (k (au (l-(n:Int))))) (n+m):=by intro l h0 h1;simp only;rw[ak];by_cases hl:l-(n:Int)<0;rw[ar hl];simp only[ah,mw];rw[nU];rw[aq hl];simp only[af];rw[h _ (by omega) (by omega)];simp only[mw];congr 1;split<;>split<;>omega
theorem Du.sub {k:Int->az Int}{m:Nat}(hf:Du f n)(h:Du k m):Du (λl=>aa (f l) λr=>cond (decide (r<0)) (some (-1)) (k r)) (n+m):=by
 intro l h0 h1;simp only;rw[hf l h0 h1,ab];by_cases hl:(n:Int)<=l;have e:mw l n=l-n:=by simp[mw,hl]
 rw[e,cC];simp only[af];rw[h _ (by omega) (by omega)];simp only[mw];congr 1;split<;>split<;>omega;have e:mw l n= -1:=by simp[mw,hl]
 rw[e];simp only[mw];rw[nU];rfl
theorem Du.cast {m:Nat}(h:Du f n)(e:n=m):Du f m:=e▸h
theorem Du.list {f:α->Int->az Int}{s:α->Nat}{a:ax α}(hm:a.length<=9223372036854775807)(hf:∀x∈a,Du (f x) (s x)):Du (Wl f a) (a.length+(a.map s).sum):=λ_ h0 h1=>ade h0 h1 hm (λx hx l h0 h1=>⟨_,hf x hx l h0 h1,λh=>by simp[mw,h],λh=>by simp[mw,h]⟩)
theorem Du.flat (hn:n<=9223372036854775807):Du (λl=>cond (decide (au (l-(n:Int))<0)) (some (-1)) (some (au (l-(n:Int))))) n:=(Du.len (n:=n) hn Du.nil).cast (by omega)
theorem Du.use (hf:Du f n){l:Int}(h0:0<=l)(h1:l<=1048576){k:Int->az Bool}(hk:(n:Int)<=l->k (l-n)=some true): (aa (f l) λr=>cond (decide (r<0)) (some true) (k r))=some true:=by
 rw[hf l h0 h1,ab];by_cases hl:(n:Int)<=l;have e:mw l n=l-n:=by simp[mw,hl]
 rw[e,cC];exact hk hl;have e:mw l n= -1:=by simp[mw,hl]
 rw[e];rfl
theorem FP {T:(Int->az R)->Int->az R}{fin hit:az R}(p:α->Bool)(a:ax α)(h:a.length<=1000000000000)(hs:∀i (hi:i<a.length) nx,T nx (i:Int)=cond (p a[i]) hit (nx ((i+1:Nat):Int)))(hf:∀nx,T nx (a.length:Int)=fin): bl T fuel 0=cond (a.any p) hit fin:=by
 have D5:=eS;have key:∀n i,i<=a.length->a.length-i<n->bl T n (i:Int)=cond ((a.drop i).any p) hit fin:=by
  intro n;induction n with
  |zero=>intro i _ h;omega
  |succ n ih=>
   intro i hi hn;rw[bl];rcases cr i a.length with gH|Cg;rw[hs i gH,cc gH,List.any_cons];cases hq:p a[i]with|true=>rfl|false=>exact ih (i+1) (by omega) (by omega)
   have:i=a.length:=by omega
   subst this;rw[hf,gO];rfl
 exact key fuel 0 (by omega) (by omega)
theorem jr {T:(Int->az R)->Int->az R}{fin hit:az R}(p:Nat->Bool)(N:Nat)(h:N<=1000000000000)(hs:∀i nx,i<N->T nx (i:Int)=cond (!(p i)) hit (nx ((i+1:Nat):Int)))(hf:∀nx,T nx (N:Int)=fin): bl T fuel 0=cond ((range N).all p) fin hit:=by
 have D5:=eS;have key:∀n i,i<=N->N-i<n->bl T n (i:Int)=cond ((List.range' i (N-i)).all p) fin hit:=by
  intro n;induction n with
  |zero=>intro i _ h;omega
  |succ n ih=>
   intro i hi hn;rw[bl];rcases cr i N with gH|Cg;rw[hs i _ gH,show N-i=(N-(i+1))+1 by omega,List.range'_succ,cj];cases hq:p i with|false=>rfl|true=>exact ih (i+1) (by omega) (by omega)
   have:i=N:=by omega
   subst this;rw[hf,jv];rfl
 have:=key fuel 0 (by omega) (by omega);rw[Nat.sub_zero,<-List.range_eq_range']at this;exact this
theorem td {T:(Int->az R)->Int->az R}{fin hit:az R}(p:α->Bool)(a:ax α)(h:a.length<=1000000000000)(hs:∀i (hi:i<a.length) nx,T nx (i:Int)=cond (!(p a[i])) hit (nx ((i+1:Nat):Int)))(hf:∀nx,T nx (a.length:Int)=fin): bl T fuel 0=cond (a.all p) fin hit:=by
 have:=FP (T:=T) (fin:=fin) (hit:=hit) (λx=> !(p x)) a h hs hf;rw[this];have e:a.any (λx=> !(p x))= !(a.all p):=by rw[cH];simp
 rw[e];cases a.all p<;>rfl
theorem Lo {T:(X->az R)->X->az R}{fin hit:az R}(e:Nat->X)(p:Nat->Bool)(N:Nat)(h:N<=1000000000000)(hs:∀i nx,i<N->(∀j,j<i->p j=true)->T nx (e i)=cond (!(p i)) hit (nx (e (i+1))))(hf:(∀j,j<N->p j=true)->∀nx,T nx (e N)=fin): bl T fuel (e 0)=cond ((range N).all p) fin hit:=by
 have D5:=eS;have key:∀n i,i<=N->N-i<n->(∀j,j<i->p j=true)->bl T n (e i)=cond ((List.range' i (N-i)).all p) fin hit:=by
  intro n;induction n with
  |zero=>intro i _ h;omega
  |succ n ih=>
   intro i hi hn hp;rw[bl];rcases cr i N with gH|Cg;rw[hs i _ gH hp,show N-i=(N-(i+1))+1 by omega,List.range'_succ,cj];cases hq:p i with|false=>rfl|true=>refine ih (i+1) (by omega) (by omega) λj hj=>?_;by_cases hji:j=i;rw[hji];exact hq;exact hp j (by omega)
   have:i=N:=by omega
   subst this;rw[hf hp,jv];rfl
 have:=key fuel 0 (by omega) (by omega) (λj hj=>absurd hj (by omega));rw[Nat.sub_zero,<-List.range_eq_range']at this;exact this
theorem Hj {T:(Int->az R)->Int->az R}{fin:az R}{hit:Int->az R}(p:α->Bool)(a:ax α)(h:a.length<=1000000000000)(hs:∀i (hi:i<a.length) nx,T nx (i:Int)=cond (p a[i]) (hit (i:Int)) (nx ((i+1:Nat):Int)))(hf:∀nx,T nx (a.length:Int)=fin): bl T fuel 0=(match a.findIdx? p with|some i=>hit (i:Int)|none=>fin):=by
 have D5:=eS;have key:∀n i,i<=a.length->a.length-i<n->bl T n (i:Int)=(match (a.drop i).findIdx? p with|some j=>hit ((i+j:Nat):Int)|none=>fin):=by
  intro n;induction n with
  |zero=>intro i _ h;omega
  |succ n ih=>
   intro i hi hn;rw[bl];rcases cr i a.length with gH|Cg;rw[hs i gH,cc gH,List.findIdx?_cons];cases hq:p a[i]with|true=>rfl|false=>have:=ih (i+1) (by omega) (by omega);simp only[af];refine this.trans ?_;cases (a.drop (i+1)).findIdx? p with|none=>rfl|some j=>simp only[dH,bm,cw];congr 2;omega
   have:i=a.length:=by omega
   subst this;rw[hf,gO];rfl
 have:=key fuel 0 (by omega) (by omega);refine this.trans ?_;rw[eL];cases a.findIdx? p with|none=>rfl|some j=>simp only[cy]
theorem cF (a b:Bool):(bif a then b else false)=(a&&b):=by cases a<;>rfl
theorem cT (a b:Bool):(bif a then true else b)=(a||b):=by cases a<;>rfl
theorem cN (a b:Bool):(bif a then false else b)=(!a&&b):=by cases a<;>rfl
def DR (g:α->σ->Except (az R) σ)(fin:σ->az R):ax α->σ->az R
 |[],s=>fin s
 |x::xs,s=>match g x s with| .error r=>r| .ok s'=>DR g fin xs s'
theorem uY {T:(X->az R)->X->az R}(xs:ax α)(e:σ->Nat->X)(Inv:Nat->σ->Prop)(g:α->σ->Except (az R) σ)(fin:σ->az R)(h:xs.length<=1000000000000)(hs:∀i (hi:i<xs.length) s nx,Inv i s->T nx (e s i)=match g xs[i] s with| .error r=>r| .ok s'=>nx (e s' (i+1)))(hn:∀i (hi:i<xs.length) s s',Inv i s->g xs[i] s=.ok s'->Inv (i+1) s')(hf:∀s nx,Inv xs.length s->T nx (e s xs.length)=fin s)(s:σ)(h0:Inv 0 s): bl T fuel (e s 0)=DR g fin xs s:=by
 have key:∀n i s,i<=xs.length->xs.length-i<n->Inv i s->bl T n (e s i)=DR g fin (xs.drop i) s:=by
  intro n;induction n with
  |zero=>intro i s _ h;omega
  |succ n ih=>
   intro i s hi D7 hI;rw[bl];rcases cr i xs.length with gH|Cg;rw[hs i gH s _ hI,cc gH,DR];cases hg:g xs[i] s with|error r=>rfl|ok s'=>exact ih (i+1) s' (by omega) (by omega) (hn i gH s s' hI hg)
   have:i=xs.length:=by omega
   subst this;rw[hf s _ hI,gO,DR]
 have D5:=eS;have:=key fuel 0 s (by omega) (by omega) h0;rwa[eL]at this
theorem HE (f:σ->α->σ)(fin:σ->az R):∀(xs:ax α)(s:σ),DR (λx s=> .ok (f s x)) fin xs s=fin (xs.foldl f s)
 |[],_=>rfl
 |x::xs,s=>by rw[DR];exact HE f fin xs (f s x)
theorem dE {T:(X->az R)->X->az R}{fin:az R}(e:Nat->X)(N:Nat)(h:N<=1000000000000)(hs:∀i nx,i<N->T nx (e i)=nx (e (i+1)))(hf:∀nx,T nx (e N)=fin):bl T fuel (e 0)=fin:=by rw[Lo (hit:=fin) (fin:=fin) e (λ_=>true) N h (λi nx hi _=>by rw[hs i nx hi];rfl) (λ_ nx=>hf nx)];cases (range N).all (λ_=>true)<;>rfl
theorem my {l:ax α}{k:az R}(h:l.length<=10^9:=by omega):room (List.length ([]:ax α)+l.length) k=k:=aR (by simp only[dg];omega)
def db (a lo hi:Int):Bool:=decide (lo<=a)&&decide (a<=hi)
theorem aS {lo hi:Int}:db a lo hi=true↔lo<=a/\a<=hi:=by simp[db]
theorem dQ (a b c:Int):bh a b c=some (db a b c):=by simp only[bh,bM,ab,db];cases h:decide (a>=b)<;>rfl
theorem cm (a b c:Int):aB a b c=some (db a b c):=dQ a b c
theorem cu {l:ax α}(h:i<l.length)(d:α):l.getD i d=l[i]:=by rw[bG,al h];rfl
def NO (l:bW)(i:Nat):Bool:=db (l.getD i 0) 0 4095&& !(decide (0<i)&&decide (l.getD i 0<=l.getD (i-1) 0))
def fj (f:Filter):Bool:=(range f.2.2.length).all (NO f.2.2)&&(db f.1 0 281474976710654&&decide ((f.2.2.length:Int)<=8))
theorem Fb (f:Filter)(h:f.2.2.length<=10^9):rk f=some (fj f):=by
 unfold rk;rw[jr (hit:=some false) (fin:=some (db f.1 0 281474976710654&&decide ((f.2.2.length:Int)<=8))) (NO f.2.2) f.2.2.length (by omega) (λi nx hi=>?hs) (λnx=>?hf)]
 case hs=>
  simp only[tT]
  rw[jI,br hi,ak (n:=(i:Int)+1)]
  simp only[ah,ab,dQ,NO,cu hi]
  by_cases h0:0<i
  ·have e:au ((i:Int)-1)=((i-1:Nat):Int):=by rw[ak];omega
   have hp:i-1<f.2.2.length:=by omega
   rw[e,br hp,ar (show(i:Int)>0 by omega),ar h0,cu hp]
   simp only[ah,ab,bn]
   cases db f.2.2[i] 0 4095<;>cases decide (f.2.2[i]<=f.2.2[i-1])<;>rfl
  ·rw[aq (show¬(i:Int)>0 by omega),aq h0]
   simp only[af,dJ]
   cases db f.2.2[i] 0 4095<;>rfl
 case hf=>
  simp only[tT]
  rw[cC]
  simp only[af,dQ,ab,Fx,bM]
  cases db f.1 0 281474976710654<;>rfl
 unfold fj;cases (range f.2.2.length).all (NO f.2.2)<;>rfl
theorem sC (f:Filter)(h:f.2.2.length<=10^9):iJ f=some (fj f):=by
 unfold iJ;rw[jr (hit:=some false) (fin:=some (db f.1 0 281474976710654&&decide ((f.2.2.length:Int)<=8))) (NO f.2.2) f.2.2.length (by omega) (λi nx hi=>?hs) (λnx=>?hf)]
 case hs=>
  simp only[tq]
  rw[jI,br hi,ak (n:=(i:Int)+1)]
  simp only[ah,ab,cm,NO,cu hi]
  by_cases h0:0<i
  ·have e:au ((i:Int)-1)=((i-1:Nat):Int):=by rw[ak];omega
   have hp:i-1<f.2.2.length:=by omega
   rw[e,br hp,ar (show(i:Int)>0 by omega),ar h0,cu hp]
   simp only[ah,ab,bn,ge_iff_le]
   cases db f.2.2[i] 0 4095<;>cases decide (f.2.2[i]<=f.2.2[i-1])<;>rfl
  ·rw[aq (show¬(i:Int)>0 by omega),aq h0]
   simp only[af,dJ]
   cases db f.2.2[i] 0 4095<;>rfl
 case hf=>
  simp only[tq]
  rw[cC]
  simp only[af,cm,ab,Fx,bM]
  cases db f.1 0 281474976710654<;>rfl
 unfold fj;cases (range f.2.2.length).all (NO f.2.2)<;>rfl
def Di (r:nK):Bool:=(nH r).getD false
theorem ZL (r:nK):nH r=some (Di r):=by
 have:∃b,nH r=some b:=by simp only[nH,dQ,ab,bM];exact⟨_,rfl⟩
 obtain⟨b,hb⟩:=this;simp[Di,hb]
theorem ajy (r:nK):Da r=some (Di r):=ZL r
theorem Zs {r:nK}(h:Di r=true):r.2.2.2.2.2.2.2.1=0\/r.2.2.2.2.2.2.2.2=0:=by
 by_cases h0:r.2.2.2.2.2.2.2.1=0;exact .inl h0;by_cases h1:r.2.2.2.2.2.2.2.2=0;exact .inr h1;exfalso;have e0:(r.2.2.2.2.2.2.2.1==0)=false:=by simp[h0]
 have e1:(r.2.2.2.2.2.2.2.2==0)=false:=by simp[h1]
 revert h;unfold Di;simp only[nH,dQ,ab,bM,e0,e1,af,gr];have z:∀c:Bool,(bif c then false else false)=false:=by intro c;cases c<;>rfl
 simp only[z];intro h;cases h
def AD (l:ax nK):Bool:=l.all Di&&decide ((l.length:Int)<=12)
theorem TS (l:ax nK)(h:l.length<=10^9):Bq l=some (AD l):=by
 unfold Bq;rw[td (hit:=some false) (fin:=some (decide ((l.length:Int)<=12))) Di l (by omega) (λi hi nx=>?hs) (λnx=>?hf)]
 case hs=>
  simp only[vN]
  rw[jI,br hi,ak]
  simp only[ah,ab,ZL];rfl
 case hf=>
  simp only[vN]
  rw[cC];rfl
 unfold AD;cases l.all Di<;>rfl
theorem Tc (l:ax nK)(h:l.length<=10^9):Bf l=some (AD l):=by rw[<-TS l h];rfl
theorem au3 (x:Int):((BitVec.ofInt 64 x&&&BitVec.ofInt 64 7).toNat:Int)=x%8:=by
 have h7:(BitVec.ofInt 64 7).toNat=2^3-1:=by decide
 rw[BitVec.toNat_and,h7,Nat.and_two_pow_sub_one_eq_mod];simp only[BitVec.toNat_ofInt];omega
theorem aqe (x:Int):((ir x&&&ir 7).toNat:Int)=x%8:=au3 x
theorem amm (x:Int):jz x 8=some (x%8):=by unfold jz;rw[nU,Int.tmod_eq_emod];split;rw[cC];simp;rw[ar (by simp;omega),ak (by simp;omega) (by simp;omega)];simp
def H4 (f:lq):Int:=(f.1%8+f.2.1%8+f.2.2.1%8+f.2.2.2.1%8+f.2.2.2.2%8)%8
theorem XR (f:lq):0<=H4 f/\H4 f<8:=by unfold H4;omega
theorem alb {n:Int}(h:0<=n:=by omega):tmod n 8=n%8:=dK h
theorem akz (f:lq):zI f=some (H4 f):=by
 unfold zI;generalize hL:[f.1,f.2.1,f.2.2.1,f.2.2.2.1,f.2.2.2.2]=L;have hlen:L.length=5:=by rw[<-hL];rfl
 have D5:=eS;have key:=Ee (R:=Int) (T:=pw (λ(y2:Int) (y3:Int)=>if 8=0 then none else(some (tmod y2 8))) L) L (λ(s:Int) i=>(s,(i:Int))) (λx s k=>k (au (s+au (x%8)))) (λs=>some (tmod s 8)) (λi hi s nx=>by simp only[pw];rw[jI,br hi,ak (n:=(i:Int)+1)];simp only[ah,ab];rw[aqe L[i]];rfl) (λs nx=>by simp only[pw];rw[cC];rfl) fuel 0 0 (by omega) (by omega);refine key.trans ?_;rw[<-hL];simp only[eL,Ca];rw[ak (n:=f.1%8),ak (n:=f.2.1%8),ak (n:=f.2.2.1%8),ak (n:=f.2.2.2.1%8),ak (n:=f.2.2.2.2%8)];rw[ak (n:=0+f.1%8),ak (n:=0+f.1%8+_),ak (n:=0+f.1%8+_+_),ak (n:=0+f.1%8+_+_+_),ak (n:=0+f.1%8+_+_+_+_)];rw[alb,H4,Int.zero_add]
theorem ajo (f:lq):zb f=some (H4 f):=by
 unfold zb;generalize hL:[f.1,f.2.1,f.2.2.1,f.2.2.2.1,f.2.2.2.2]=L;have hlen:L.length=5:=by rw[<-hL];rfl
 have D5:=eS;have key:=Ee (R:=Int) (T:=oP (λ(y2:Int) (y3:Int)=>if 8=0 then none else(some (tmod y2 8))) L (L.length:Int)) L (λ(s:Int) i=>(s,(i:Int))) (λx s k=>k (au (s+(x%8)))) (λs=>some (tmod s 8)) (λi hi s nx=>by simp only[oP];rw[jI,br hi,ak (n:=(i:Int)+1)];simp only[ah,ab,amm];rfl) (λs nx=>by simp only[oP];rw[cC];rfl) fuel 0 0 (by omega) (by omega);refine key.trans ?_;rw[<-hL];simp only[eL,Ca];rw[ak (n:=0+f.1%8),ak (n:=0+f.1%8+_),ak (n:=0+f.1%8+_+_),ak (n:=0+f.1%8+_+_+_),ak (n:=0+f.1%8+_+_+_+_)];rw[alb,H4,Int.zero_add]
def gT (t:ax Slot)(i:Nat):Slot:=t.getD i (0,(0,0,0,0,0),0)
theorem yG {t:ax Slot}(h:i<t.length):gT t i=t[i]:=cu h _
def mK (f:lq)(k:Nat):Nat:=((H4 f).toNat+k)%8
theorem Lg (f:lq)(k:Nat):mK f k<8:=Nat.mod_lt _ (by omega)
theorem Z6 (f:lq)(k:Nat)(h:k<8):tmod (au (H4 f+(k:Int))) 8=(mK f k:Int):=by have:=XR f;rw[ak,alb,mK];omega
def qV (s:Slot)(f:lq):Bool:=(s.1==1)&&decide (s.2.1=f)
theorem Ok (p q:lq):((p.1==q.1)&&((p.2.1==q.2.1)&&((p.2.2.1==q.2.2.1)&&((p.2.2.2.1==q.2.2.2.1)&&((p.2.2.2.2==q.2.2.2.2)&&true)))))=decide (p=q):=by obtain⟨a,b,c,d,e⟩:=p;obtain⟨a',b',c',d',e'⟩:=q;rw[cH];simp
def walk (t:ax Slot)(f:lq):Nat->Nat->Int
 |0,_=> -1
 |n+1,k=>if(gT t (mK f k)).1=0 then-1 else if qV (gT t (mK f k)) f then(mK f k:Int) else walk t f n (k+1)
theorem aky (t:ax Slot)(f:lq)(ht:t.length=8):Bw t f=some (walk t f 8 0):=by
 unfold Bw;have D5:=eS
 have key:=Kr (R:=Int) (T:=qT (λ(y6:Int)=>some (-1)) (λ(y7:Int) (y8:Int)=>some y7) 0 t f) 8 (λ(_:Unit) i=>(i:Int))
  (λi s k=>if(gT t (mK f i)).1=0 then some (-1) else if qV (gT t (mK f i)) f then some (mK f i:Int) else k s) (λ_=>some (-1))
  (λi s nx hi=>by
   have hw:mK f i<t.length:=by have:=Lg f i;omega
   simp only[qT,akz];rw[jI,ak (n:=(i:Int)+1)];simp only[ah,ab,Z6 f i hi,br hw,yG hw,Ok,qV,bM,ab];rw[nU];by_cases h0:t[mK f i].1=0;simp[h0];have e0:(t[mK f i].1==0)=false:=by simp[h0]
   rw[e0,aG h0];cases (t[mK f i].1==1)<;>cases decide (t[mK f i].2.1=f)<;>rfl)
  (λs nx=>by simp only[qT];rfl)
  fuel 0 () (by omega) (by omega)
 refine key.trans ?_;have main:∀n i,upK (R:=Int) (λi (s:Unit) k=>if(gT t (mK f i)).1=0 then some (-1) else if qV (gT t (mK f i)) f then some (mK f i:Int) else k s) (λ_=>some (-1)) 8 n i ()=some (walk t f n i):=by intro n;induction n with|zero=>intro i;rfl|succ n ih=>intro i;rw[upK,walk];split;rfl;split;rfl;exact ih (i+1)
 exact main 8 0
def Au (f:lq):ax Slot->Int->Int
 |[],_=> -1
 |s::r,i=>if qV s f then i else Au f r (i+1)
theorem Ye (t:ax Slot)(f:lq)(h:t.length<=10^9):Af t f=some (Au f t 0):=by
 unfold Af;have D5:=eS;have key:∀n i,i<=t.length->t.length-i<n->bl (xC (λ(y3:Int)=>some (-1)) (λ(y4:Int) (y5:Int)=>some y4) 0 t ((List.length t:Int)) f) n (i:Int)=some (Au f (t.drop i) i):=by
  intro n;induction n with
  |zero=>intro i _ h;omega
  |succ n ih=>
   intro i hi hn;rw[bl];simp only[xC];rcases cr i t.length with gH|Cg;rw[jI,br gH,cc gH,Au,ak];simp only[ah,ab,Ok,bM];have e:(bif t[i].1==1 then decide (t[i].2.1=f) else false)=qV t[i] f:=by unfold qV;cases (t[i].1==1)<;>rfl
   rw[e];cases qV t[i] f with|true=>rfl|false=>exact ih (i+1) (by omega) (by omega)
   have:i=t.length:=by omega
   subst this;rw[cC,gO];rfl
 exact key fuel 0 (by omega) (by omega)
theorem al3 (f:lq):EZ f=some ((range 8).map λk=>(mK f k:Int)):=by unfold EZ;have D5:=eS;have key:=Kr (R:=bW) (T:=uU (λ(y2:bW) (y3:Int)=>some y2) f) 8 (λ(_:Unit) i=>((range i).map (λk=>(mK f k:Int)),(i:Int))) (λ_ s k=>k s) (λ_=>some ((range 8).map λk=>(mK f k:Int))) (λi s nx hi=>by simp only[uU,ajo];rw[jI,ak (n:=(i:Int)+1)];simp only[ah,ab,Z6 f i hi];rw[nU,aR (by simp;omega),gZ,dF];rfl) (λs nx=>by simp only[uU];rfl) fuel 0 () (by omega) (by omega);exact key
def clear (t:ax Slot)(f:lq)(i:Nat):Nat->Nat->Bool
 |0,_=>true
 |n+1,k=>if mK f k=i then true else if(gT t (mK f k)).1=0 then false else clear t f i n (k+1)
theorem afE (k0:Int->az R)(k1:Bool->Int->az R)(hit fin:az R)(h0:∀x,k0 x=fin)(h1:∀x,k1 false x=hit)(v2:Bool)(i:Nat)(T9:ax Slot)(Ua Z3:Int)(t:ax Slot)(f:lq)(ht:t.length=8): bl (lU k0 k1 v2 (i:Int) T9 Ua Z3 ((range 8).map λk=>(mK f k:Int)) (((range 8).map λk=>(mK f k:Int)).length:Int) t) fuel 0=cond (clear t f i 8 0) fin hit:=by
 have D5:=eS;have hl:((range 8).map λk=>(mK f k:Int)).length=8:=by simp
 have key:=Kr (R:=R) (T:=lU k0 k1 v2 (i:Int) T9 Ua Z3 ((range 8).map λk=>(mK f k:Int)) (((range 8).map λk=>(mK f k:Int)).length:Int) t) 8 (λ(_:Unit) i=>(i:Int))
  (λk s c=>if mK f k=i then fin else if(gT t (mK f k)).1=0 then hit else c s) (λ_=>fin)
  (λk s nx hk=>by
   have hw:mK f k<t.length:=by have:=Lg f k;omega
   simp only[lU];rw[jI,br (show k<((range 8).map λk=>(mK f k:Int)).length by omega),ak (n:=(k:Int)+1)];simp only[ah,ab,List.getElem_map,List.getElem_range,br hw,yG hw,h0,h1];by_cases e1:mK f k=i;subst e1;simp;have:((mK f k:Int)==(i:Int))=false:=by simp;omega
   rw[this,aG e1];by_cases e2:t[mK f k].1=0;simp[e2];have:(t[mK f k].1==0)=false:=by simp[e2]
   rw[this,aG e2];rfl)
  (λs nx=>by simp only[lU];rw[cC];exact h0 _)
  fuel 0 () (by omega) (by omega)
 refine key.trans ?_;have main:∀n k,upK (R:=R) (λk (s:Unit) c=>if mK f k=i then fin else if(gT t (mK f k)).1=0 then hit else c s) (λ_=>fin) 8 n k ()=cond (clear t f i n k) fin hit:=by intro n;induction n with|zero=>intro k;rfl|succ n ih=>intro k;rw[upK,clear];split;rfl;split;rfl;exact ih (k+1)
 exact main 8 0
def Xm:lq:=(0,0,0,0,0)
theorem Xn (p:lq):((p.1==0)&&((p.2.1==0)&&((p.2.2.1==0)&&((p.2.2.2.1==0)&&((p.2.2.2.2==0)&&true)))))=decide (p=Xm):=Ok p Xm
def TO (s:Slot):Bool:=db s.1 0 2&&db s.2.2 0 3&&((s.1==1)||(s.2.2==0)&&decide (s.2.1=Xm))
def po (t:ax Slot)(i:Nat):Bool:=TO (gT t i)&&(!((gT t i).1==1)||(walk t (gT t i).2.1 8 0==(i:Int)))
def wz (t:ax Slot)(i:Nat):Bool:=TO (gT t i)&&(!((gT t i).1==1)||(Au (gT t i).2.1 t 0==(i:Int))&&clear t (gT t i).2.1 i 8 0)
def uz (t:ax Slot):Bool:=(t.length==8)&&(range 8).all (po t)
theorem ahg (t:ax Slot):Br t=some (uz t):=by
 unfold Br uz;by_cases ht:t.length=8
 ·have e:((t.length:Int) !=8)=false:=by rw[ht];rfl
  have e2:(t.length==8)=true:=by rw[ht];rfl
  rw[e,e2];simp only[af,bn];rw[jr (hit:=some false) (fin:=some true) (po t) 8 (by omega) (λi nx hi=>?hs) (λnx=>?hf)]
  case hs=>
   have hl:i<t.length:=by omega
   simp only[vP]
   rw[jI,br hl,ak]
   simp only[ah,ab,dQ,bM,Xn,aky t _ ht,po,yG hl,TO,bne]
   cases db t[i].1 0 2<;>cases db t[i].2.2 0 3<;>cases (t[i].1==1)<;>cases (t[i].2.2==0)<;>cases decide (t[i].2.1=Xm)<;>first|rfl|(cases (walk t t[i].2.1 8 0==(i:Int))<;>rfl)
  case hf=>
   simp only[vP]
   rw[cC];rfl
  cases (range 8).all (po t)<;>rfl
 have e:((t.length:Int) !=8)=true:=by simp;omega
 have e2:(t.length==8)=false:=by simp[ht]
 rw[e,e2];rfl
theorem abT (t:ax Slot):tH t=some ((t.length==8)&&(range 8).all (wz t)):=by
 unfold tH;by_cases ht:t.length=8
 ·have e:((t.length:Int) !=8)=false:=by rw[ht];rfl
  have e2:(t.length==8)=true:=by rw[ht];rfl
  rw[e,e2];simp only[af,bn];rw[jr (hit:=some false) (fin:=some true) (wz t) 8 (by omega) (λi nx hi=>?hs) (λnx=>?hf)]
  case hs=>
   have hl:i<t.length:=by omega
   simp only[vA]
   rw[jI,br hl,ak]
   simp only[ah,ab,cm,bM,Xn,Ye t _ (show t.length<=10^9 by omega),al3,wz,yG hl,TO,bne]
   rw[afE (λ_=>nx ((i:Int)+1)) (λ(y:Bool) (_:Int)=>some y) (some false) (nx ((i:Int)+1)) (λ_=>rfl) (λ_=>rfl) _ _ _ _ _ _ _ ht]
   cases db t[i].1 0 2<;>cases db t[i].2.2 0 3<;>cases (t[i].1==1)<;>cases (t[i].2.2==0)<;>cases decide (t[i].2.1=Xm)<;>first|rfl|(cases (Au t[i].2.1 t 0==(i:Int))<;>first|rfl|(cases clear t t[i].2.1 i 8 0<;>rfl))
  case hf=>
   simp only[vA]
   rw[cC];rfl
  cases (range 8).all (wz t)<;>rfl
 have e:((t.length:Int) !=8)=true:=by simp;omega
 have e2:(t.length==8)=false:=by simp[ht]
 rw[e,e2];rfl
theorem Ud (t:ax Slot)(f:lq)(i:Nat):∀n k,walk t f n k=(i:Int)->qV (gT t i) f=true/\clear t f i n k=true/\∃j,j<n/\mK f (k+j)=i
 |0,k,h=>by unfold walk at h;omega
 |n+1,k,h=>by
  unfold walk at h;unfold clear;by_cases h0:(gT t (mK f k)).1=0;rw[aI h0]at h;omega;rw[aG h0]at h;by_cases h1:qV (gT t (mK f k)) f=true;rw[aI h1]at h;have:mK f k=i:=by omega
  subst this;exact⟨h1,by simp,0,by omega,rfl⟩;rw[aG h1]at h;obtain⟨a,b,j,hj,e⟩:=Ud t f i n (k+1) h;refine⟨a,?_,j+1,by omega,by rw[<-e];congr 1;omega⟩;rw[aG h0,b];split<;>rfl
theorem aeL (t:ax Slot)(f:lq)(i:Nat)(hu:qV (gT t i) f=true)(ank:∀j,j<8->qV (gT t j) f=true->j=i):∀n k,clear t f i n k=true->(∃j,j<n/\mK f (k+j)=i)->walk t f n k=(i:Int)
 |0,k,_,h=>by obtain⟨j,hj,_⟩:=h;omega
 |n+1,k,hc,⟨j,hj,e⟩=>by unfold walk;unfold clear at hc;by_cases h1:mK f k=i;rw[h1,aG,aI hu];intro h0;unfold qV at hu;rw[h0]at hu;simp at hu;rw[aG h1]at hc;by_cases h0:(gT t (mK f k)).1=0;rw[aI h0]at hc;cases hc;rw[aG h0]at hc;rw[aG h0,aG (λVp=>h1 (ank _ (Lg f k) Vp))];refine aeL t f i hu ank n (k+1) hc ?_;cases j with|zero=>exact absurd e h1|succ j=>exact⟨j,by omega,by rw[<-e];congr 1;omega⟩
theorem amL (f:lq)(i:Nat)(hi:i<8):∃j,j<8/\mK f (0+j)=i:=by have:=XR f;refine⟨(i+8-(H4 f).toNat)%8,by omega,?_⟩;unfold mK;omega
theorem Gb (f:lq):∀(t:ax Slot)(m:Nat),(∃j,j<t.length/\qV (gT t j) f=true)->∃j,j<t.length/\qV (gT t j) f=true/\Au f t m=((m+j:Nat):Int)
 |[],_,h=>by obtain⟨j,hj,_⟩:=h;simp at hj
 |s::r,m,⟨j,hj,e⟩=>by
  unfold Au;by_cases hs:qV s f=true;rw[aI hs];exact⟨0,by simp,by simpa[gT]using hs,by simp⟩;rw[aG hs];cases j with
  |zero=>exact absurd (by simpa[gT]using e) hs
  |succ j=>
   obtain⟨j',h1,h2,h3⟩:=Gb f r (m+1) ⟨j,by simpa using hj,by simpa[gT]using e⟩;refine⟨j'+1,by simpa using h1,by simpa[gT]using h2,?_⟩;have:((m:Int)+1)=((m+1:Nat):Int):=by omega
   rw[this,h3];congr 1;omega
theorem acX (t:ax Slot)(ht:t.length=8):(range 8).all (wz t)=(range 8).all (po t):=by
 rw[cH,aF,aF];simp only[bB];constructor;intro h i hi;have hI:=h i hi;unfold wz at hI;unfold po;simp only[ae,cY,aN,bg]at hI⊢;refine⟨hI.1,?_⟩;rcases hI.2 with h1|⟨h1,h2⟩;exact .inl h1;by_cases hu:((gT t i).1==1)=true;right;have Vp:qV (gT t i) (gT t i).2.1=true:=by unfold qV;rw[hu];simp
 refine aeL t _ i Vp (λj hj huj=>?_) 8 0 h2 (amL _ i hi);have hJ:=h j hj;unfold wz at hJ;unfold qV at huj;simp only[ae,aE]at huj;simp only[ae,cY,aN,bg]at hJ;rcases hJ.2 with h3|⟨h3,_⟩;rw[huj.1]at h3;cases h3;rw[huj.2]at h3;omega;exact .inl (by simpa using hu);intro h i hi;have hI:=h i hi;unfold po at hI;unfold wz;simp only[ae,cY,aN,bg]at hI⊢;refine⟨hI.1,?_⟩;rcases hI.2 with h1|h1;exact .inl h1;right;obtain⟨hu,hc,_⟩:=Ud t _ i 8 0 h1;refine⟨?_,hc⟩;obtain⟨j,hj,huj,e⟩:=Gb (gT t i).2.1 t 0 ⟨i,by omega,hu⟩;have hJ:=h j (by omega);unfold po at hJ;unfold qV at huj;simp only[ae,aE]at huj;simp only[ae,cY,aN,bg]at hJ;rcases hJ.2 with h3|h3;rw[huj.1]at h3;cases h3;rw[huj.2,h1]at h3;have e':Au (gT t i).2.1 t 0=((0+j:Nat):Int):=e;rw[e'];omega
theorem Tg (t:ax Slot):tH t=some (uz t):=by
 rw[abT,uz];by_cases ht:t.length=8;rw[acX t ht];have e2:(t.length==8)=false:=by simp[ht]
 rw[e2];rfl
def aep (n:Int):Bool:=(n==1)||(n==2)||(n==4)||(n==8)||(n==16)
theorem ab3 (n:Int):Bu n=some (aep n):=by simp only[Bu,bM,ab,aep];cases (n==1)<;>cases (n==2)<;>cases (n==4)<;>cases (n==8)<;>rfl
def ue (s:ur)(q:Int):Bool:=db q 1 4&&((s.1.length:Int)==16)&&aep s.2.length&&s.2.all λx=>db x 0 (q-1)
theorem Q1 (s:ur)(q:Int)(h:s.2.length<=10^9):zL s q=some (ue s q):=by
 unfold zL ue;simp only[dQ,ab3,ab,bM,bne];by_cases hq:db q 1 4=true
 ·rw[td (hit:=some false) (fin:=some true) (λx=>db x 0 (q-1)) s.2 (by omega) (λi hi nx=>?hs) (λnx=>?hf)]
  case hs=>
   rw[aS]at hq
   simp only[tY]
   rw[jI,br hi,ak (n:=(i:Int)+1),ak (n:=q-1)]
   simp only[ah,ab,dQ];rfl
  case hf=>
   simp only[tY]
   rw[cC];rfl
  rw[hq];cases ((s.1.length:Int)==16)<;>cases aep s.2.length<;>cases s.2.all (λx=>db x 0 (q-1))<;>rfl
 have hq':db q 1 4=false:=by simpa using hq
 rw[hq'];rfl
theorem P7 (s:ur)(q:Int)(h:s.2.length<=10^9):zn s q=some (ue s q):=by rw[<-Q1 s q h];rfl
def fE (s:dT)(q:Int):Bool:=AD s.1&&uz s.2.1&&ue s.2.2 q&&s.1.all (λr=> !(decide (r.2.2.2.2.2.2.2.2>=q)))&&s.2.1.all (λx=> !(decide (x.2.2>=q)))
theorem KX (s:dT)(q:Int)(h1:s.1.length<=10^9)(h2:s.2.1.length<=10^9)(h3:s.2.2.2.length<=10^9):vO s q=some (fE s q):=by
 unfold vO fE;simp only[TS _ h1,ahg,Q1 _ _ h3,ab,bM];rw[td (hit:=some false) (fin:=cond (s.2.1.all (λx=> !(decide (x.2.2>=q)))) (some true) (some false)) (λr:nK=> !(decide (r.2.2.2.2.2.2.2.2>=q))) s.1 (by omega) (λi hi nx=>?hs) (λnx=>?hf)]
 case hs=>
  simp only[qq]
  rw[jI,br hi,ak]
  simp only[ah,ab,gu];rfl
 case hf=>
  simp only[qq]
  rw[cC]
  simp only[af]
  rw[td (hit:=some false) (fin:=some true) (λx:Slot=> !(decide (x.2.2>=q))) s.2.1 (by omega) (λi hi nx=>?hs) (λnx=>?hf)]
  case hs=>
   simp only[qs]
   rw[jI,br hi,ak]
   simp only[ah,ab,gu];rfl
  case hf=>
   simp only[qs]
   rw[cC];rfl
 cases AD s.1<;>cases uz s.2.1<;>cases ue s.2.2 q<;>cases s.1.all (λr=> !(decide (r.2.2.2.2.2.2.2.2>=q)))<;>cases s.2.1.all (λx=> !(decide (x.2.2>=q)))<;>rfl
theorem Ke (s:dT)(q:Int)(h1:s.1.length<=10^9)(h2:s.2.1.length<=10^9)(h3:s.2.2.2.length<=10^9):qI s q=some (fE s q):=by
 unfold qI fE;simp only[Tc _ h1,Tg,P7 _ _ h3,ab,bM];rw[td (hit:=some false) (fin:=cond (s.2.1.all (λx=> !((x.1==1)&&decide (x.2.2>=q)))) (some true) (some false)) (λr:nK=> !((r.2.2.2.2.2.2.2.1==0)&&decide (r.2.2.2.2.2.2.2.2>=q))) s.1 (by omega) (λi hi nx=>?hs) (λnx=>?hf)]
 case hs=>
  simp only[qe]
  rw[jI,br hi,ak]
  simp only[ah,ab,gu,bM]
  cases (s.1[i].2.2.2.2.2.2.2.1==0)<;>rfl
 case hf=>
  simp only[qe]
  rw[cC]
  simp only[af]
  rw[td (hit:=some false) (fin:=some true) (λx:Slot=> !((x.1==1)&&decide (x.2.2>=q))) s.2.1 (by omega) (λi hi nx=>?hs) (λnx=>?hf)]
  case hs=>
   simp only[ot]
   rw[jI,br hi,ak]
   simp only[ah,ab,gu,bM]
   cases (s.2.1[i].1==1)<;>rfl
  case hf=>
   simp only[ot]
   rw[cC];rfl
 cases hr:AD s.1 with
 |false=>rfl
 |true=>
  cases ht:uz s.2.1 with
  |false=>rfl
  |true=>
   cases hs:ue s.2.2 q with
   |false=>rfl
   |true=>
    have hq:1<=q:=by unfold ue at hs;simp only[ae,aS]at hs;exact hs.1.1.1.1
    have e1:s.1.all (λr=> !((r.2.2.2.2.2.2.2.1==0)&&decide (r.2.2.2.2.2.2.2.2>=q)))=s.1.all (λr=> !(decide (r.2.2.2.2.2.2.2.2>=q))):=by unfold AD at hr;simp only[ae,aF]at hr;rw[cH,aF,aF];refine forall_congr' λr=>forall_congr' λhm=>?_;rcases Zs (hr.1 r hm)with h0|h0;rw[h0];simp;rw[h0];simp only[aq (show¬(0:Int)>=q by omega),fG]
    have e2:s.2.1.all (λx=> !((x.1==1)&&decide (x.2.2>=q)))=s.2.1.all (λx=> !(decide (x.2.2>=q))):=by unfold uz at ht;simp only[ae,aF,bB,bg]at ht;rw[cH,aF,aF];refine forall_congr' λx=>forall_congr' λhm=>?_;obtain⟨i,hi,rfl⟩:=List.mem_iff_getElem.1 hm;have hsl:=ht.2 i (by omega);unfold po TO at hsl;rw[yG hi]at hsl;simp only[ae,cY,bg]at hsl;rcases hsl.1.2 with h0|⟨h0,_⟩;rw[h0];simp;rw[h0];simp only[aq (show¬(0:Int)>=q by omega),fG]
    rw[e1,e2];cases s.1.all (λr=> !(decide (r.2.2.2.2.2.2.2.2>=q)))<;>cases s.2.1.all (λx=> !(decide (x.2.2>=q)))<;>rfl
theorem iV (h:n<9223372036854775808:=by omega):au (n:Int)=(n:Int):=ak
theorem Lh (h:n<4294967296:=by omega):IntKind.wrap .u32 (n:Int)=(n:Int):=by simp only[au,gF,IntKind.wrap,IntKind.bits,IntKind.signed];simp;omega
theorem oe (b:UInt8):b.toNat<256:=b.toNat_lt
def aW (v:Int):Bytes:=(dA v).getD []
theorem nQ (v:Int):dA v=some (aW v):=by
 unfold aW;have:∃x,dA v=some x:=by simp only[dA,dQ,ab];cases db v 0 65535<;>exact⟨_,rfl⟩
 obtain⟨x,hx⟩:=this;rw[hx];rfl
theorem mh (v:Int):cx v=some (aW v):=nQ v
theorem Fm (v:Int):(aW v).length=bif db v 0 65535 then 2 else 0:=by have h:=nQ v;simp only[dA,dQ,ab]at h;cases hb:db v 0 65535<;>rw[hb]at h<;>(rw[<-bN h];rfl)
theorem bT (v:Int):(aW v).length<=2:=by rw[Fm];cases db v 0 65535<;>simp
def dh (v:Int):Bytes:=(fP v).getD []
theorem mA (v:Int):fP v=some (dh v):=by
 unfold dh;have:∃x,fP v=some x:=by simp only[fP,dQ,ab];cases db v 0 4294967295<;>exact⟨_,rfl⟩
 obtain⟨x,hx⟩:=this;rw[hx];rfl
theorem wa (v:Int):gq v=some (dh v):=mA v
theorem Jm (v:Int):(dh v).length=bif db v 0 4294967295 then 4 else 0:=by have h:=mA v;simp only[fP,dQ,ab]at h;cases hb:db v 0 4294967295<;>rw[hb]at h<;>(rw[<-bN h];rfl)
theorem dS (v:Int):(dh v).length<=4:=by rw[Jm];cases db v 0 4294967295<;>simp
def bO (s:Bytes)(i:Nat):Nat:=(s.getD i 0).toNat
theorem eO (s:Bytes)(i:Nat):bO s i<256:=oe _
theorem ni (h:i<s.length:=by omega):∃x,idx s (i:Int)=some x/\x.toNat=bO s i:=⟨s[i],br h,by rw[bO,cu h]⟩
def fi (s:Bytes)(a n:Int):Bool:=decide (0<=a/\a+n<=(s.length:Int))
theorem GS (s:Bytes)(a n:Int)(h:s.length<=10^9)(hn:0<=n:=by omega):pB s a n=some (fi s a n):=by
 unfold pB fi;by_cases h0:0<=a;by_cases h1:a<=(s.length:Int)
 rw[ar (show a>=0 from h0),ar h1,ak];simp only[ah,ab];congr 1;rw[decide_eq_decide];omega;rw[ar (show a>=0 from h0),aq h1,aq (show¬(0<=a/\a+n<=(s.length:Int)) by omega)];rfl;rw[aq (show¬a>=0 from h0),aq (show¬(0<=a/\a+n<=(s.length:Int)) by omega)];rfl
def cp (s:Bytes)(a:Int):Int:=bif fi s a 2 then((bO s a.toNat*256+bO s (a.toNat+1):Nat):Int) else-1
def dU (s:Bytes)(a:Int):Int:=bif fi s a 4 then(((bO s a.toNat*256+bO s (a.toNat+1))*65536+(bO s (a.toNat+2)*256+bO s (a.toNat+3)):Nat):Int) else-1
theorem Ew (s:Bytes)(a:Int)(h:s.length<=10^9):iY s a=some (cp s a):=by unfold iY cp;rw[GS s a 2 h,ab];cases hw:fi s a 2 with|false=>rfl|true=>simp only[fi,aE]at hw;obtain⟨n,rfl⟩:=aD hw.1;obtain⟨x,hx,ex⟩:=ni (s:=s) (i:=n);obtain⟨y,hy,ey⟩:=ni (s:=s) (i:=n+1);have hxl:=eO s n;have hyl:=eO s (n+1);rw[ak (n:=(n:Int)+1),hx,show(n:Int)+1=((n+1:Nat):Int) by omega,hy];simp only[aj,af,ab,aw,ah];rw[nU,ex,ey,iV,iV];have e8:nZ 8=8:=rfl;rw[e8,ak (n:=((bO s n:Nat):Int)*2^8),ak];congr 1;all_goals omega
theorem HH (s:Bytes)(a:Int)(h:s.length<=10^9):kW s a=some (dU s a):=by
 unfold kW dU;rw[GS s a 4 h,ab];cases hw:fi s a 4 with
 |false=>rfl
 |true=>
  simp only[fi,aE]at hw;obtain⟨n,rfl⟩:=aD hw.1;have w1:fi s (n:Int) 2=true:=by simp only[fi,aE];omega
  have w2:fi s ((n:Int)+2) 2=true:=by simp only[fi,aE];omega
  have b0:=eO s n;have b1:=eO s (n+1);have b2:=eO s (n+2);have b3:=eO s (n+3);rw[ak (n:=(n:Int)+2),Ew s _ h,Ew s _ h];simp only[aj,af,ab,ah,cp,w1,w2,aw];rw[nU,show((n:Int)+2).toNat=n+2 by omega,show n+2+1=n+3 by omega];have e8:nZ 16=16:=rfl;rw[e8,ak (n:=((bO s n*256+bO s (n+1):Nat):Int)*2^16),ak];congr 1;all_goals omega
theorem awb (a b:Nat)(ha:a<9223372036854775808)(hb:b<9223372036854775808):toNat (ir (a:Int)|||ir (b:Int))=a|||b:=by show(BitVec.ofInt 64 (a:Int)|||BitVec.ofInt 64 (b:Int)).toNat=_;rw[dX,dX,BitVec.toNat_or,eI,eI,eQ (by omega),eQ (by omega)]
theorem ahN (a b:Nat)(ha:a<9223372036854775808:=by omega)(hb:b<9223372036854775808:=by omega):toNat (ir (a:Int)&&&ir (b:Int))=a&&&b:=by show(BitVec.ofInt 64 (a:Int)&&&BitVec.ofInt 64 (b:Int)).toNat=_;rw[dX,dX,BitVec.toNat_and,eI,eI,eQ (by omega),eQ (by omega)]
theorem aln (a b:Nat)(ha:a<9223372036854775808)(hb:b<9223372036854775808):toNat (ir (a:Int)^^^ir (b:Int))=a^^^b:=by show(BitVec.ofInt 64 (a:Int)^^^BitVec.ofInt 64 (b:Int)).toNat=_;rw[dX,dX,BitVec.toNat_xor,eI,eI,eQ (by omega),eQ (by omega)]
theorem aqd (a b:Nat)(ha:a<4294967296)(hb:b<4294967296):toNat (BitVec.ofInt (IntKind.bits .u32) (a:Int)&&&BitVec.ofInt (IntKind.bits .u32) (b:Int))=a&&&b:=by show(BitVec.ofInt 32 (a:Int)&&&BitVec.ofInt 32 (b:Int)).toNat=_;rw[dX,dX,BitVec.toNat_and,eI,eI,eQ (by omega),eQ (by omega)]
theorem anF (a b:Nat)(ha:a<4294967296)(hb:b<4294967296):toNat (BitVec.ofInt (IntKind.bits .u32) (a:Int)^^^BitVec.ofInt (IntKind.bits .u32) (b:Int))=a^^^b:=by show(BitVec.ofInt 32 (a:Int)^^^BitVec.ofInt 32 (b:Int)).toNat=_;rw[dX,dX,BitVec.toNat_xor,eI,eI,eQ (by omega),eQ (by omega)]
theorem I9 (x k y:Nat)(hy:y<2^k:=by omega)(h:2^k*x+y<9223372036854775808:=by omega):au (toNat (ir ((2^k*x:Nat):Int)|||ir (y:Int)):Int)=((2^k*x+y:Nat):Int):=by rw[awb _ _ (by omega) (by omega),<-Nat.two_pow_add_eq_or_of_lt hy];exact iV h
theorem NM (s:Bytes)(a n:Int):(cond (decide (a<0)) (some true) (some (decide (a>(s.length:Int)-n))))=some (!fi s a n):=by cases hw:fi s a n with|true=>simp only[fi,aE]at hw;rw[aq (show¬a<0 by omega),aq (show¬a>(s.length:Int)-n by omega)];rfl|false=>simp only[fi,cL]at hw;by_cases h0:a<0;rw[ar h0];rfl;rw[aq h0,ar (show a>(s.length:Int)-n by omega)];rfl
theorem yx (s:Bytes)(a:Int)(h:s.length<=10^9):fV s a=some (cp s a):=by unfold fV cp;rw[ak (n:=(s.length:Int)-2)];rw[NM,ab];cases hw:fi s a 2 with|false=>rfl|true=>simp only[fi,aE]at hw;obtain⟨n,rfl⟩:=aD hw.1;obtain⟨x,hx,ex⟩:=ni (s:=s) (i:=n);obtain⟨y,hy,ey⟩:=ni (s:=s) (i:=n+1);have hxl:=eO s n;have hyl:=eO s (n+1);rw[ak (n:=(n:Int)+1),hx,show(n:Int)+1=((n+1:Nat):Int) by omega,hy];simp only[aj,af,ah,ab,aw];rw[nU,ex,ey,iV (n:=bO s n),iV (n:=bO s (n+1))];have e8:nZ 8=8:=rfl;rw[e8,show((bO s n:Nat):Int)*2^8=((2^8*bO s n:Nat):Int) by omega,iV (n:=2^8*bO s n),I9 (bO s n) 8 (bO s (n+1))];congr 1;all_goals omega
theorem yy (s:Bytes)(a:Int)(h:s.length<=10^9):iB s a=some (dU s a):=by
 unfold iB dU;rw[ak (n:=(s.length:Int)-4)];rw[NM,ab];cases hw:fi s a 4 with
 |false=>rfl
 |true=>
  simp only[fi,aE]at hw;obtain⟨n,rfl⟩:=aD hw.1;obtain⟨x0,h0,e0⟩:=ni (s:=s) (i:=n);obtain⟨x1,h1,e1⟩:=ni (s:=s) (i:=n+1);obtain⟨x2,h2,e2⟩:=ni (s:=s) (i:=n+2);obtain⟨x3,h3,e3⟩:=ni (s:=s) (i:=n+3);have b0:=eO s n;have b1:=eO s (n+1);have b2:=eO s (n+2);have b3:=eO s (n+3)
  rw[ak (n:=(n:Int)+1),ak (n:=(n:Int)+2),ak (n:=(n:Int)+3),h0,show(n:Int)+1=((n+1:Nat):Int) by omega,h1,
   show(n:Int)+2=((n+2:Nat):Int) by omega,h2,show(n:Int)+3=((n+3:Nat):Int) by omega,h3]
  simp only[aj,af,ah,ab,aw];rw[nU,nU,nU,e0,e1,e2,e3];generalize bO s n=p0 at*;generalize bO s (n+1)=p1 at*;generalize bO s (n+2)=p2 at*;generalize bO s (n+3)=p3 at*;have f24:nZ 24=24:=rfl;have f16:nZ 16=16:=rfl;have f8:nZ 8=8:=rfl
  rw[iV (n:=p0),iV (n:=p1),iV (n:=p2),iV (n:=p3),f24,f16,f8,
   show((p0:Nat):Int)*2^24=((2^24*p0:Nat):Int) by omega,show((p1:Nat):Int)*2^16=((2^16*p1:Nat):Int) by omega,show((p2:Nat):Int)*2^8=((2^8*p2:Nat):Int) by omega,
   iV (n:=2^24*p0),iV (n:=2^16*p1),iV (n:=2^8*p2),I9 p0 24 (2^16*p1),
   show 2^24*p0+2^16*p1=2^16*(2^8*p0+p1) by omega,I9 _ 16 (2^8*p2),
   show 2^16*(2^8*p0+p1)+2^8*p2=2^8*(2^8*(2^8*p0+p1)+p2) by omega,I9 _ 8 p3]
  congr 1;all_goals omega
def II (c:Nat):Nat:=if c%2=1 then(c/2)^^^3988292384 else c/2
def wK:Nat->Nat->Nat
 |0,c=>c
 |n+1,c=>II (wK n c)
def au5 (c:Nat)(s:Bytes):Nat:=s.foldl (λc b=>wK 8 (c^^^b.toNat)) c
def ME (s:Bytes):Int:=4294967295-(au5 4294967295 s:Int)
theorem Fq {a b:Nat}(ha:a<4294967296:=by omega)(hb:b<4294967296:=by omega):a^^^b<4294967296:=Nat.xor_lt_two_pow (n:=32) ha hb
theorem ae6 {c:Nat}(h:c<4294967296):II c<4294967296:=by unfold II;split;exact Fq;omega
theorem JE {c:Nat}(h:c<4294967296):∀n,wK n c<4294967296
 |0=>h
 |n+1=>ae6 (JE h n)
theorem akt (k0:Int->Int->az R)(k:Int->az R)(hk:∀x y,k0 x y=k x)(v0:Bytes)(v4:Int)(c:Nat)(h:c<4294967296):bl (rj k0 v0 v4) fuel ((c:Int),0)=k (wK 8 c:Int):=by
 have D5:=eS
 have key:=Kr (T:=rj k0 v0 v4) 8 (λ(_:Unit) i=>((wK i c:Int),(i:Int))) (λ_ s nx=>nx s) (λ_=>k (wK 8 c:Int))
  (λi s nx hi=>by
   have hc:=JE h i;simp only[rj];have a1:=ahN (wK i c) 1;have x1:=aln (wK i c/2) 3988292384 (by omega) (by omega);simp only[Int.natCast_one]at a1
   rw[jI,ah,a1,Nat.and_one_is_mod,
    show nZ 1=1 from rfl,show fdiv ((wK i c:Nat):Int) (2^1)=((wK i c/2:Nat):Int) from by rw[Int.fdiv_eq_ediv_of_nonneg _ (by omega)];rfl,
    show(3988292384:Int)=((3988292384:Nat):Int) from rfl,x1,
    iV (n:=wK i c%2),iV (n:=(wK i c/2)^^^3988292384) (by have:=Fq (a:=wK i c/2) (b:=3988292384);omega),nU,nU,ak (n:=(i:Int)+1)]
   show _=nx ((II (wK i c):Int),((i+1:Nat):Int));unfold II;by_cases hp:wK i c%2=1;rw[hp,aI rfl];rfl;have h0:wK i c%2=0:=by omega
   rw[h0,nU];rfl)
  (λs nx=>by simp only[rj];rw[cC,af,hk])
  fuel 0 () (by omega) (by omega)
 refine key.trans ?_;rfl
theorem ajl (k0:Int->Int->az R)(k:Int->az R)(hk:∀x y,k0 x y=k x)(v0:Bytes)(v4:Int)(c:Nat)(h:c<4294967296):bl (rb k0 v0 v4) fuel ((c:Int),0)=k (wK 8 c:Int):=by
 have D5:=eS
 have key:=Kr (T:=rb k0 v0 v4) 8 (λ(_:Unit) i=>((wK i c:Int),(i:Int))) (λ_ s nx=>nx s) (λ_=>k (wK 8 c:Int))
  (λi s nx hi=>by
   have hc:=JE h i;simp only[rb];have a1:=aqd (wK i c) 1 (by omega) (by omega);have x1:=anF (wK i c/2) 3988292384 (by omega) (by omega);simp only[Int.natCast_one]at a1
   rw[jI,ah,a1,Nat.and_one_is_mod,
    show min (Int.toNat 1) (IntKind.bits .u32)=1 from rfl,show fdiv ((wK i c:Nat):Int) (2^1)=((wK i c/2:Nat):Int) from by rw[Int.fdiv_eq_ediv_of_nonneg _ (by omega)];rfl,
    show(3988292384:Int)=((3988292384:Nat):Int) from rfl,x1,
    Lh (n:=wK i c%2),Lh (n:=(wK i c/2)^^^3988292384) (Fq),nU,ak (n:=(i:Int)+1)]
   show _=nx ((II (wK i c):Int),((i+1:Nat):Int));unfold II;by_cases hp:wK i c%2=1;rw[hp,aI rfl];rfl;have h0:wK i c%2=0:=by omega
   rw[h0,nU];rfl)
  (λs nx=>by simp only[rb];rw[cC,af,hk])
  fuel 0 () (by omega) (by omega)
 refine key.trans ?_;rfl
theorem aer (s:Bytes)(h:s.length<=10^9):CB s=some (ME s):=by
 unfold CB;have:=uY (T:=uZ (λ(y4:Int) (_:Int)=>some (au (4294967295-y4))) s) s (λ(c:Nat) i=>((c:Int),(i:Int))) (λ_ c=>c<4294967296) (λb c=> .ok (wK 8 (c^^^b.toNat))) (λc=>some (4294967295-(c:Int))) (by omega) (λi hi c nx hI=>?hs) (λi hi c c' hI hg=>?hn) (λc nx hI=>?hf) 4294967295 (by omega)
 case hs=>
  have hb:=oe s[i]
  simp only[uZ]
  rw[jI,br hi,ah,ab,iV (n:=s[i].toNat),aln c s[i].toNat (by omega) (by omega)]
  have hx:=Fq hI (show s[i].toNat<4294967296 by omega)
  rw[iV,akt _ (λy=>nx (y,(i:Int)+1)) (λx y=>by rw[ak]) _ _ _ hx];rfl
 case hn=>
  cases hg
  exact JE (Fq hI (by have:=oe s[i];omega)) 8
 case hf=>
  simp only[uZ]
  rw[cC,af,ak]
 rw[HE]at this;exact this
theorem not_xor (c:Nat)(h:c<4294967296):toNat (BitVec.ofInt (IntKind.bits .u32) (IntKind.max .u32)^^^BitVec.ofInt (IntKind.bits .u32) (c:Int))=4294967295-c:=by show(BitVec.ofInt 32 4294967295^^^BitVec.ofInt 32 (c:Int)).toNat=_;rw[show BitVec.ofInt 32 4294967295=BitVec.allOnes 32 by decide,dX,BitVec.allOnes_xor,BitVec.toNat_not,eI,eQ (show c<2^32 by omega)]
theorem adS (s:Bytes)(h:s.length<=10^9):Cl s=some (ME s):=by
 unfold Cl;have:=uY (T:=uJ (λ(y4:Int) (_:Int)=>some (au (IntKind.wrap .u32 (toNat (BitVec.ofInt (IntKind.bits .u32) (IntKind.max .u32)^^^BitVec.ofInt (IntKind.bits .u32) y4))))) s) s (λ(c:Nat) i=>((c:Int),(i:Int))) (λ_ c=>c<4294967296) (λb c=> .ok (wK 8 (c^^^b.toNat))) (λc=>some (4294967295-(c:Int))) (by omega) (λi hi c nx hI=>?hs) (λi hi c c' hI hg=>?hn) (λc nx hI=>?hf) 4294967295 (by omega)
 case hs=>
  have hb:=oe s[i]
  simp only[uJ]
  rw[jI,br hi,ah,ab,Lh (n:=s[i].toNat),anF c s[i].toNat (by omega) (by omega)]
  have hx:=Fq hI (show s[i].toNat<4294967296 by omega)
  rw[Lh hx,ajl _ (λy=>nx (y,(i:Int)+1)) (λx y=>by rw[ak]) _ _ _ hx];rfl
 case hn=>
  cases hg
  exact JE (Fq hI (by have:=oe s[i];omega)) 8
 case hf=>
  simp only[uJ]
  rw[cC,af,not_xor c hI,Lh,iV]
  congr 1
  all_goals omega
 rw[HE]at this;exact this
def hasB (l:bW)(v:Int):Bool:=l.any (·==v)
theorem PJ:hasB l v=true↔v∈l:=by simp only[hasB,List.any_eq_true,bg];constructor;rintro⟨x,hx,rfl⟩;exact hx;intro h;exact⟨v,h,rfl⟩
theorem aet (l:bW)(v:Int)(h:l.length<=10^9):Ao l v=some (hasB l v):=by
 unfold Ao hasB;rw[FP (hit:=some true) (fin:=some false) (λx:Int=>x==v) l (by omega) (λi hi nx=>?hs) (λnx=>?hf)]
 case hs=>
  simp only[yb]
  rw[jI,br hi,ak];rfl
 case hf=>
  simp only[yb]
  rw[cC];rfl
 cases l.any (λx=>x==v)<;>rfl
theorem AX (l:bW)(v:Int)(h:l.length<=10^9):gR l v=some (hasB l v):=by
 unfold gR hasB;rw[FP (hit:=some true) (fin:=some false) (λx:Int=>x==v) l (by omega) (λi hi nx=>?hs) (λnx=>?hf)]
 case hs=>
  simp only[xy]
  rw[jI,br hi,ak];rfl
 case hf=>
  simp only[xy]
  rw[cC];rfl
 cases l.any (λx=>x==v)<;>rfl
def ins (v:Int):bW->bW
 |[]=>[v]
 |x::l=>bif decide (v<x) then v::x::l else x::ins v l
theorem VF (v:Int):∀l,(ins v l).length=l.length+1
 |[]=>rfl
 |x::l=>by rw[ins];cases decide (v<x)with|true=>rfl|false=>simp only[af,aU,VF v l]
theorem ad7 (v x:Int):∀l,x∈ins v l↔x=v\/x∈l
 |[]=>by simp[ins]
 |y::l=>by rw[ins];cases decide (v<y)with|true=>simp|false=>simp only[af,bS,ad7 v x l];constructor<;>(rintro(h|h|h)<;>simp[h])
theorem ajB (v:Int):∀l:bW,v∉l->l.take (l.findIdx (λx=> !decide (x<v)))++[v]++l.drop (l.findIdx (λx=> !decide (x<v)))=ins v l
 |[],_=>rfl
 |x::l,h=>by rw[ins,List.findIdx_cons];have hx:v≠x:=λe=>h (by simp[e]);have hl:v∉l:=λe=>h (by simp[e]);by_cases c:x<v;rw[ar c,aq (show¬v<x by omega)];have:=ajB v l hl;simpa using this;rw[aq c,ar (show v<x by omega)];rfl
def yt (l:bW)(v:Int):bW:=bif hasB l v then l else ins v l
theorem Jw (l:bW)(v:Int):(yt l v).length<=l.length+1:=by unfold yt;cases hasB l v with|true=>simp|false=>simp only[af,VF];omega
theorem ajP {x:Int}(h:x∈l):x∈yt l v:=by unfold yt;cases hasB l v with|true=>exact h|false=>exact(ad7 v x l).2 (.inr h)
theorem aeV (h:v∈l):yt l v=l:=by unfold yt;rw[PJ.2 h];rfl
theorem EC:∀(vs l:bW),(vs.foldl yt l).length<=l.length+vs.length
 |[],l=>by simp
 |v::vs,l=>by have:=EC vs (yt l v);have:=Jw l v;simp only[du,aU];omega
theorem L0:∀(vs:bW){l:bW}{x:Int},x∈l->x∈vs.foldl yt l
 |[],_,_,h=>h
 |v::vs,l,x,h=>L0 vs (l:=yt l v) (ajP h)
theorem aiR (p:α->Bool)(k:Int->az R)(l:ax α):(match l.findIdx? p with|some i=>k (i:Int)|none=>k (l.length:Int))=k (l.findIdx p:Int):=by cases h:l.findIdx? p with|none=>rw[List.findIdx?_eq_none_iff_findIdx_eq]at h;rw[h]|some i=>rw[List.findIdx?_eq_some_iff_findIdx_eq]at h;rw[h.2]
theorem ZS (l:ax α)(j:Nat)(h:j<=l.length):sub l 0 (j:Int)=some (l.take j):=by unfold sub;rw[zip];simp
theorem K4 (l:ax α)(j:Nat)(h:j<=l.length):sub l (j:Int) (l.length:Int)=some (l.drop j):=by unfold sub;rw[zip];simp
theorem TU (a vs:bW)(h:a.length+vs.length<=10^9):vk a vs=some (vs.foldl yt a):=by
 unfold vk;rw[aR (by simp only[dg];omega)];rw[cd];have:=uY (T:=pG (λ(DW:bW) (_:Int)=>some DW) vs) vs (λ(s:bW) i=>(s,(i:Int))) (λi s=>s.length<=a.length+i) (λv s=> .ok (yt s v)) (λs=>some s) (by omega) (λi hi s nx hI=>?hs) (λi hi s s' hI hg=>?hn) (λs nx hI=>?hf) a (by simp)
 case hs=>
  simp only[pG]
  rw[jI,br hi,ak (n:=(i:Int)+1)]
  simp only[ah,ab,aet s vs[i] (by omega)]
  unfold yt
  cases hh:hasB s vs[i]with
  |true=>rfl
  |false=>
   have hm:vs[i]∉s:=λe=>by rw[PJ.2 e]at hh;cases hh
   simp only[af]
   rw[Hj (hit:=λy6=>aa (sub s 0 y6) λx7=>room (List.length ([]:bW)+List.length x7) (room (List.length (([]:bW)++x7)+List.length ([vs[i]])) (aa (sub s y6 (s.length:Int)) λx9=>room (List.length ((([]:bW)++x7)++([vs[i]]))+List.length x9) (nx (((([]:bW)++x7)++([vs[i]]))++x9,(i:Int)+1)))))
    (fin:=aa (sub s 0 (s.length:Int)) λx7=>room (List.length ([]:bW)+List.length x7) (room (List.length (([]:bW)++x7)+List.length ([vs[i]])) (aa (sub s (s.length:Int) (s.length:Int)) λx9=>room (List.length ((([]:bW)++x7)++([vs[i]]))+List.length x9) (nx (((([]:bW)++x7)++([vs[i]]))++x9,(i:Int)+1)))))
    (λx=> !decide (x<vs[i])) s (by omega) (λj hj nx'=>?hs2) (λnx'=>?CN)]
   case hs2=>
    simp only[ud]
    rw[jI,br hj,br hi,ak (n:=(j:Int)+1)]
    simp only[ah,ab]
    cases decide (s[j]<vs[i])<;>rfl
   case CN=>
    simp only[ud]
    rw[cC];rfl
   refine Eq.trans (aiR (λx=> !decide (x<vs[i])) (λy6=>aa (sub s 0 y6) λx7=>room (List.length ([]:bW)+List.length x7) (room (List.length (([]:bW)++x7)+List.length ([vs[i]])) (aa (sub s y6 (s.length:Int)) λx9=>room (List.length ((([]:bW)++x7)++([vs[i]]))+List.length x9) (nx (((([]:bW)++x7)++([vs[i]]))++x9,(i:Int)+1))))) s) ?_
   have hle:s.findIdx (λx=> !decide (x<vs[i]))<=s.length:=List.findIdx_le_length
   have e:=ajB vs[i] s hm
   generalize s.findIdx (λx=> !decide (x<vs[i]))=j at*
   rw[ZS s j hle,K4 s j hle]
   simp only[ab,cd]
   rw[aR (by simp;omega),aR (by simp;omega),aR (by simp;omega),e];rfl
 case hn=>
  cases hg
  have:=Jw s vs[i]
  omega
 case hf=>
  simp only[pG]
  rw[cC];rfl
 rw[HE]at this;exact this
theorem Vu (l:bW)(v:Int)(h:l.length<=10^9):kT l v=some (ins v l):=by
 unfold kT
 have hgo:∀(l:bW)(acc:bW)(d:Bool),acc.length+l.length+(bif d then 0 else 1)<=1073741824->
  Ca (λ(x:Int) (s:bW×Bool) (k:bW×Bool->az bW)=>cond (cond (!s.2) (decide (v<x)) false) (room (List.length s.1+List.length ([v])) (room (List.length (s.1++([v]))+List.length ([x])) (k ((s.1++([v]))++([x]),true)))) (room (List.length s.1+List.length ([x])) (k (s.1++([x]),s.2))))
   (λs=>cond (!s.2) (room (List.length s.1+List.length ([v])) (some (s.1++([v])))) (some s.1)) l (acc,d)=some (acc++bif d then l else ins v l):=by
  intro l
  induction l with
  |nil=>
   intro acc d hl
   rw[Ca]
   simp only[dg]at hl
   cases d with
   |true=>simp
   |false=>
    simp only[bt,ah,af]at hl⊢
    rw[aR (by simp;omega)];rfl
  |cons x l ih=>
   intro acc d hl
   simp only[aU]at hl
   rw[Ca]
   cases d with
   |true=>
    simp only[aj,af,ah]at hl⊢
    rw[aR (by simp;omega),ih _ _ (by simp;omega)]
    simp
   |false=>
    simp only[bt,ah,af]at hl⊢
    rw[ins]
    cases decide (v<x)with
    |true=>
     simp only[ah]
     rw[aR (by simp;omega),aR (by simp;omega)]
     rw[ih _ _ (by simp;omega)];simp
    |false=>
     simp only[af]
     rw[aR (by simp;omega),ih _ _ (by simp;omega)]
     simp
 have D5:=eS;have key:=Ee (T:=mr (λ(y3:bW) (y4:Bool) (_:Int)=>cond (!y4) (room (List.length y3+List.length ([v])) (some (y3++([v])))) (some y3)) v l (l.length:Int)) l (λ(s:bW×Bool) i=>(s.1,s.2,(i:Int))) (λ(x:Int) (s:bW×Bool) (k:bW×Bool->az bW)=>cond (cond (!s.2) (decide (v<x)) false) (room (List.length s.1+List.length ([v])) (room (List.length (s.1++([v]))+List.length ([x])) (k ((s.1++([v]))++([x]),true)))) (room (List.length s.1+List.length ([x])) (k (s.1++([x]),s.2)))) (λs=>cond (!s.2) (room (List.length s.1+List.length ([v])) (some (s.1++([v])))) (some s.1)) (λi hi s nx=>by simp only[mr];rw[jI,br hi,ak (n:=(i:Int)+1)];simp only[ah,ab,bM];rfl) (λs nx=>by simp only[mr];rw[cC];rfl) fuel 0 (([]:bW),false) (by omega) (by omega);rw[eL,hgo l [] false (by simp;omega)]at key;exact key
def jA:Port:=(0,[],0,false)
def KH (p:Port):Bool:=fj (p.1,false,p.2.1)&&hasB p.2.1 p.2.2.1
def Im (l:ax Port)(i:Nat):Bool:=KH (l.getD i jA)&&(range i).all (λj=> !((j !=0)&&((l.getD j jA).1==(l.getD i jA).1)))
def hY (l:ax Port):Bool:=db (l.length:Int) 1 8&&(range l.length).all (Im l)
theorem acL (i:Nat)(q:Nat->Bool):(range (i-1)).all (λj=> !(q (j+1)))=(range i).all (λj=> !((j !=0)&&q j)):=by
 rw[cH,aF,aF];simp only[bB];constructor;intro h j hj;cases j with|zero=>rfl|succ j=>have:=h j (by omega);simpa using this
 intro h j hj;have:=h (j+1) (by omega);simpa using this
theorem ahc (l:ax Port)(h:l.length<=10^9)(hv:∀p∈l,p.2.1.length<=10^9):xU l=some (hY l):=by
 unfold xU hY;rw[jr (hit:=some false) (fin:=some true) (Im l) l.length (by omega) (λi nx hi=>?hs) (λnx=>?hf)]
 case hs=>
  have hvi:=hv _ (aM hi)
  simp only[vL]
  rw[jI,br hi,ak]
  simp only[ah,ab,Fb (l[i].1,false,l[i].2.1) hvi,aet _ _ hvi]
  have e1:(1:Int)=(((0:Nat)+1:Nat):Int):=rfl
  rw[e1,Lo (hit:=some false) (fin:=nx ((i:Int)+1)) (λj=>((j+1:Nat):Int)) (λj=> !((l.getD (j+1) jA).1==l[i].1)) (i-1) (by omega) (λj nx' hj hp=>?hs2) (λhp nx'=>?CN)]
  case hs2=>
   have hjl:j+1<l.length:=by omega
   simp only[vM]
   rw[jI,br hjl,br hi,ak]
   simp only[ah,ab,cu hjl,gu];rfl
  case CN=>
   simp only[vM]
   rw[cC];rfl
  rw[acL i (λj=>(l.getD j jA).1==l[i].1)]
  simp only[Im,KH,cu hi]
  cases fj (l[i].1,false,l[i].2.1)<;>cases hasB l[i].2.1 l[i].2.2.1<;>cases (range i).all (λj=> !((j !=0)&&((l.getD j jA).1==l[i].1)))<;>rfl
 case hf=>
  simp only[vL]
  rw[cC];rfl
 simp only[dQ,ab];cases db (l.length:Int) 1 8<;>cases (range l.length).all (Im l)<;>rfl
def EK (p:Nat->Bool):fK->Int
 |[]=> -1
 |j::r=>bif p j then(j:Int) else EK p r
theorem Xi (p:Nat->Bool):∀n s i,s<=i->i<s+n->p i=true->(EK p (List.range' s n)==(i:Int))=(List.range' s (i-s)).all (λj=> !(p j))
 |0,s,i,h1,h2,_=>by omega
 |n+1,s,i,h1,h2,hp=>by
  rw[List.range'_succ,EK];rcases cr s i with gH|Cg;obtain⟨k,hk⟩:∃k,i-s=k+1:=⟨i-s-1,by omega⟩
  rw[hk,List.range'_succ,cj];cases hps:p s with
  |true=>
   simp only[ah,aj,dJ];have:¬(s:Int)=(i:Int):=by omega
   simpa using this
  |false=>simp only[af,bt,bn];rw[Xi p n (s+1) i (by omega) (by omega) hp,show i-(s+1)=k by omega]
  have:s=i:=by omega
  subst this;rw[hp,jv];simp
theorem QK (p:Nat->Bool)(hit:Nat->az R)(fin:az R)(k:Int->az R)(h1:∀j:Nat,hit j=k (j:Int))(h2:fin=k (-1)):∀l:fK,DR (λ(j:Nat) (s:Unit)=>bif p j then .error (hit j) else .ok ()) (λ_=>fin) l ()=k (EK p l)
 |[]=>h2
 |j::l=>by rw[DR,EK];cases p j with|true=>exact h1 j|false=>exact QK p hit fin k h1 h2 l
theorem Yh (l:ax Port)(a:Int)(h:l.length<=10^9):uS l a=some (EK (λj=>(j !=0)&&((l.getD j jA).1==a)) (List.range' 0 l.length)):=by
 unfold uS;have:=uY (T:=oW (λ(_:Int)=>some (-1)) (λ(y4:Int) (_:Int)=>some y4) a 0 l (l.length:Int)) (List.range' 0 l.length) (λ(_:Unit) i=>(i:Int)) (λ_ _=>True) (λ(j:Nat) (s:Unit)=>bif (j !=0)&&((l.getD j jA).1==a) then .error (some (j:Int)) else .ok ()) (λ_=>some (-1)) (by simp;omega) (λi hi s nx _=>?hs) (λ_ _ _ _ _ _=>trivial) (λs nx _=>?hf) () trivial
 case hs=>
  have Oo:i<l.length:=by simpa using hi
  have e:(List.range' 0 l.length)[i]=i:=by simp
  rw[e]
  simp only[oW]
  rw[jI,br Oo,ak]
  simp only[ah,ab,cu Oo,bM,cF]
  have e2:((i:Int) !=0)=(i !=0):=by rw[cH];simp
  rw[e2]
  cases (i !=0)&&(l[i].1==a)<;>rfl
 case hf=>
  simp only[oW]
  rw[aq (by simp)];rfl
 rw[QK (λj=>(j !=0)&&((l.getD j jA).1==a)) _ _ (λx=>some x) (λ_=>rfl) rfl]at this;exact this
theorem Hx (l:ax Port)(h:l.length<=10^9)(hv:∀p∈l,p.2.1.length<=10^9):nr l=some (hY l):=by
 unfold nr hY;rw[jr (hit:=some false) (fin:=some true) (Im l) l.length (by omega) (λi nx hi=>?hs) (λnx=>?hf)]
 case hs=>
  have hvi:=hv _ (aM hi)
  simp only[vx]
  rw[jI,br hi,ak]
  simp only[ah,ab,DG,sC (l[i].1,false,l[i].2.1) hvi,AX _ _ hvi,Yh l _ h,bM,bne]
  have e2:((i:Int)==0)=(i==0):=by rw[cH];simp
  rw[e2]
  simp only[Im,KH,cu hi]
  cases h0:i==0 with
  |true=>
   have:i=0:=by simpa using h0
   subst this
   cases fj (l[0].1,false,l[0].2.1)<;>cases hasB l[0].2.1 l[0].2.2.1<;>rfl
  |false=>
   have D9:(i !=0)=true:=by simp only[bne,h0,bt]
   have fa:=Xi (λj=>(j !=0)&&((l.getD j jA).1==l[i].1)) l.length 0 i (by omega) (by omega) (by simp only[D9,cu hi,bn,fS])
   rw[Nat.sub_zero,<-List.range_eq_range' (n:=i)]at fa
   simp only[bne]at fa⊢
   rw[fa]
   cases fj (l[i].1,false,l[i].2.1)<;>cases hasB l[i].2.1 l[i].2.2.1<;>cases (range i).all (λj=> !((!(j==0))&&((l.getD j jA).1==l[i].1)))<;>rfl
 case hf=>
  simp only[vx]
  rw[cC];rfl
 simp only[cm,ab];cases db (l.length:Int) 1 8<;>cases (range l.length).all (Im l)<;>rfl
def jV (m:bE):Bool:=fj m.1&&(db m.2.1 0 1000000000000&&db m.2.2.2 0 1000000000000)
theorem akB (m:bE)(h:m.1.2.2.length<=10^9):xQ m=some (jV m):=by simp only[xQ,Fb _ h,dQ,ab,bM,cF,jV]
theorem X7 (m:bE)(h:m.1.2.2.length<=10^9):sF m=some (jV m):=by simp only[sF,sC _ h,cm,ab,bM,cF,jV]
theorem Co (h:jV m=true):m.1.2.2.length<=8:=by unfold jV fj at h;simp only[ae,aE]at h;omega
def Jb (m:bE):Port:=(m.1.1,m.1.2.2.foldl yt [0],0,true)
def Ey (s:bW×ax Port)(m:bE):bW×ax Port:=(m.1.2.2.foldl yt s.1,s.2++[Jb m])
def lC (ms:ax bE):ax Port:=(0,(ms.foldl Ey ([0],[])).1,0,false)::(ms.foldl Ey ([0],[])).2
def cV (ms:ax bE):ax Port×Bool:=bif db (ms.length:Int) 1 3&&(ms.all jV&&hY (lC ms)) then(lC ms,true) else([],false)
theorem QJ (p:α->Bool)(f:σ->α->σ)(r:az R)(fin:σ->az R):∀(l:ax α)(s:σ),DR (λx s=>bif p x then .ok (f s x) else .error r) fin l s=bif l.all p then fin (l.foldl f s) else r
 |[],s=>rfl
 |x::l,s=>by rw[DR,cj,du];cases p x with|false=>rfl|true=>simp only[ah,bn];exact QJ p f r fin l (f s x)
def WA (i:Nat)(s:bW×ax Port):Prop:=s.1.length<=1+9*i/\s.2.length=i/\∀p∈s.2,p.2.1.length<=9
theorem WA.port {s:bW×ax Port}(h:WA i s)(hm:jV m=true)(U:bW)(hU:U.length<=s.1.length+9:=by omega):WA (i+1) (U,s.2++[Jb m]):=by have hl:=Co hm;have:=EC m.1.2.2 [0];refine⟨?_,?_,?_⟩;have:=h.1;simp only;omega;have:=h.2.1;simp;omega;intro p hp;rcases ay.1 hp with hp|hp;exact h.2.2 p hp;simp only[bz]at hp;subst hp;simp only[Jb,ba]at this⊢;omega
theorem GF {s:bW×ax Port}(h:WA i s)(hi:i<=3:=by omega):((0,s.1,0,false)::s.2:ax Port).length<=10^9/\∀p∈((0,s.1,0,false)::s.2:ax Port),p.2.1.length<=10^9:=by have h1:=h.1;have h2:=h.2.1;refine⟨by simp only[aU];omega,λp hp=>?_⟩;rcases bS.1 hp with rfl|hp;simp only;omega;have:=h.2.2 p hp;omega
theorem ZJ (ms:ax bE)(h:∀m∈ms,m.1.2.2.length<=10^9):Bo ms=some (cV ms):=by
 unfold Bo cV;simp only[dQ,ab];cases hn:db (ms.length:Int) 1 3 with
 |false=>rfl
 |true=>
  have D7:=aS.1 hn;simp only[aj,af,bn];have:=uY (T:=qO (λ(CL:ax Port) (_:Int)=>aa (xU CL) λRA=>cond (!RA) (some (([]:ax Port),false)) (some (CL,true))) (λ(FL:ax Port) (HM:Bool) (_:ax Port) (_:Int)=>some (FL,HM)) ms ([]:ax Port) false) ms (λ(s:bW×ax Port) i=>((0,s.1,0,false)::s.2,(i:Int))) WA (λm s=>bif jV m then .ok (Ey s m) else .error (some (([]:ax Port),false))) (λs=>some (bif hY ((0,s.1,0,false)::s.2) then((0,s.1,0,false)::s.2,true) else([],false))) (by omega) (λi hi s nx hI=>?hs) (λi hi s s' hI hg=>?hn) (λs nx hI=>?hf) ([0],[]) ⟨by simp,rfl,by simp⟩
  case hs=>
   simp only[qO]
   have hm:=h _ (aM hi)
   rw[jI,br hi,ak (n:=(i:Int)+1)]
   simp only[ah,ab,akB _ hm]
   cases Jr:jV ms[i]with
   |false=>rfl
   |true=>
    have hl:=Co Jr
    have hU:=hI.1
    have hP:=hI.2.1
    have e0:idx ((0,s.1,0,false)::s.2:ax Port) 0=some (0,s.1,0,false):=rfl
    simp only[aj,af,ah,e0,ab]
    rw[TU s.1 _ (by omega),TU [0] _ (by simp;omega)]
    simp only[ab]
    rw[aR (by simp;omega)]
    rfl
  case hn=>
   cases Jr:jV ms[i]with
   |false=>rw[Jr]at hg;cases hg
   |true=>
    rw[Jr]at hg
    cases hg
    have:=EC ms[i].1.2.2 s.1
    have:=Co Jr
    exact hI.port Jr _
  case hf=>
   simp only[qO]
   rw[cC]
   have hb:=GF hI
   simp only[af,ahc _ hb.1 hb.2,ab]
   cases hY ((0,s.1,0,false)::s.2)<;>rfl
  rw[QJ]at this;refine Eq.trans this ?_;unfold lC;cases ms.all jV<;>rfl
def TY (s:bW×ax Port)(m:bE):bW×ax Port:=(([0]++m.1.2.2).foldl yt s.1,s.2++[Jb m])
theorem akF {s:bW×ax Port}(h:(0:Int)∈s.1):TY s m=Ey s m:=by unfold TY Ey;rw[List.foldl_append];simp only[du,List.foldl_nil,aeV h]
theorem Q9:∀(ms:ax bE)(s:bW×ax Port),(0:Int)∈s.1->ms.foldl TY s=ms.foldl Ey s
 |[],_,_=>rfl
 |m::ms,s,h=>by rw[du,du,akF h];exact Q9 ms _ (L0 _ h)
theorem ZP (ms:ax bE)(h:ms≠[]):ms.foldl TY ([],[])=ms.foldl Ey ([0],[]):=by cases ms with|nil=>exact absurd rfl h|cons m ms=>rw[du,du];have e:TY ([],[]) m=Ey ([0],[]) m:=rfl;rw[e];exact Q9 ms _ (L0 _ (by simp))
theorem afJ (k0:bW->bW->Int->az R)(k:bW->bW->az R)(hk:∀a b i,k0 a b i=k a b)(v2:ax Port)(v3:Bool)(v4:ax Port)(v18:ax bE)(v19 v20:Int)(b7:bE)(vs all:bW)(h:all.length+vs.length<=10^9): bl (lT k0 v2 v3 v4 v18 v19 v20 vs (vs.length:Int) b7) fuel (all,([]:bW),0)=k (vs.foldl yt all) (vs.foldl yt []):=by
 have:=uY (T:=lT k0 v2 v3 v4 v18 v19 v20 vs (vs.length:Int) b7) vs (λ(s:bW×bW) i=>(s.1,s.2,(i:Int))) (λi s=>s.1.length<=all.length+i/\s.2.length<=i) (λv s=> .ok (yt s.1 v,yt s.2 v)) (λs=>k s.1 s.2) (by omega) (λi hi s nx hI=>?hs) (λi hi s s' hI hg=>?hn) (λs nx hI=>?hf) (all,[]) ⟨by simp,by simp⟩
 case hs=>
  simp only[lT]
  rw[jI,br hi,ak (n:=(i:Int)+1)]
  simp only[ah,ab,AX s.2 vs[i] (by omega),AX s.1 vs[i] (by omega),Vu s.2 vs[i] (by omega),Vu s.1 vs[i] (by omega),yt]
  cases hasB s.2 vs[i]<;>cases hasB s.1 vs[i]<;>rfl
 case hn=>
  cases hg
  have:=Jw s.1 vs[i]
  have:=Jw s.2 vs[i]
  have h1:=hI.1
  have h2:=hI.2
  exact⟨by simp only;omega,by simp only;omega⟩
 case hf=>
  simp only[lT]
  rw[cC]
  simp only[af,hk]
 rw[HE]at this;refine Eq.trans this ?_;have e:∀(l:bW)(s:bW×bW),l.foldl (λs v=>(yt s.1 v,yt s.2 v)) s=(l.foldl yt s.1,l.foldl yt s.2):=by intro l;induction l with|nil=>intro s;rfl|cons x l ih=>intro s;rw[du,ih];rfl
 rw[e]
theorem C9 (ms:ax bE)(h:∀m∈ms,m.1.2.2.length<=10^9):qa ms=some (cV ms):=by
 unfold qa cV;simp only[cm,ab];cases hn:db (ms.length:Int) 1 3 with
 |false=>rfl
 |true=>
  have D7:=aS.1 hn;simp only[aj,af,bn];have:=uY (T:=qG (λ(BT:ax Port) (FL:bW) (_:Int)=>aa (idx BT 0) λx17=>aa (idx BT 0) λUf=>aa (nr (List.set BT (Int.toNat 0) (Uf.1,FL,Uf.2.2))) λr19=>cond (!r19) (some (([]:ax Port),false)) (some (List.set BT (Int.toNat 0) (Uf.1,FL,Uf.2.2),true))) (λ(y20:ax Port) (y21:Bool) (_:ax Port) (_:bW) (_:Int)=>some (y20,y21)) ([]:ax Port) false ms (ms.length:Int)) ms (λ(s:bW×ax Port) i=>((0,[],0,false)::s.2,s.1,(i:Int))) WA (λm s=>bif jV m then .ok (TY s m) else .error (some (([]:ax Port),false))) (λs=>some (bif hY ((0,s.1,0,false)::s.2) then((0,s.1,0,false)::s.2,true) else([],false))) (by omega) (λi hi s nx hI=>?hs) (λi hi s s' hI hg=>?hn) (λs nx hI=>?hf) ([],[]) ⟨by simp,rfl,by simp⟩
  case hs=>
   simp only[qG]
   have hm:=h _ (aM hi)
   rw[jI,br hi,ak (n:=(i:Int)+1)]
   simp only[ah,ab,X7 _ hm]
   cases Jr:jV ms[i]with
   |false=>rfl
   |true=>
    have hl:=Co Jr
    have hU:=hI.1
    have hP:=hI.2.1
    simp only[aj,af,ah]
    rw[aR (by simp;omega)]
    refine(afJ _ (λa b=>room (List.length ((0,[],0,false)::s.2:ax Port)+List.length ([(ms[i].1.1,b,0,true)]:ax Port)) (nx (((0,[],0,false)::s.2)++([(ms[i].1.1,b,0,true)]),a,(i:Int)+1))) (λ_ _ _=>rfl) _ _ _ _ _ _ _ ([0]++ms[i].1.2.2) s.1 (by simp only[ai,ba];omega)).trans ?_
    rw[aR (by simp;omega)]
    rfl
  case hn=>
   cases Jr:jV ms[i]with
   |false=>rw[Jr]at hg;cases hg
   |true=>
    rw[Jr]at hg
    cases hg
    have hu:=EC ([0]++ms[i].1.2.2) s.1
    have hl:=Co Jr
    simp only[ai,ba]at hu
    exact hI.port Jr _
  case hf=>
   simp only[qG]
   rw[cC]
   have hb:=GF hI
   have e0:idx ((0,[],0,false)::s.2:ax Port) 0=some (0,[],0,false):=rfl
   have e1:List.set ((0,[],0,false)::s.2:ax Port) (Int.toNat 0) (0,s.1,0,false)=(0,s.1,0,false)::s.2:=rfl
   simp only[af,e0,ab,e1,Hx _ hb.1 hb.2]
   cases hY ((0,s.1,0,false)::s.2)<;>rfl
  rw[QJ,ZP ms (by rintro rfl;simp at D7)]at this;refine Eq.trans this ?_;unfold lC;cases ms.all jV<;>rfl
def Rt (a b:α):Bool:= @decide (a=b) (Classical.propDecidable _)
theorem Hg {a b:α}:Rt a b=true↔a=b:=by unfold Rt;exact @decide_eq_true_iff _ (Classical.propDecidable _)
theorem U1 {a b:α}{x:Bool}(h:x=true↔a=b):x=Rt a b:=by rw[cH,Hg];exact h
theorem au4 [BEq α][LawfulBEq α](a b:α):(a==b)=Rt a b:=U1 bg
theorem aiF {β:Type}(a b:α)(c d:β):Rt (a,c) (b,d)=(Rt a b&&Rt c d):=by rw[cH];simp only[ae,Hg,Prod.mk.injEq]
theorem W7 {β:Type}(a b:α×β):Rt a b=(Rt a.1 b.1&&Rt a.2 b.2):=aiF a.1 b.1 a.2 b.2
theorem W8 {a b:α}(h:a=b):Rt a b=true:=Hg.2 h
theorem afc {a b:α}(h:¬a=b):Rt a b=false:=by rw[Bool.eq_false_iff,ne_eq,Hg];exact h
theorem aiG {T:(Int->az R)->Int->az R}{fin hit:az R}(p:α->α->Bool)(hp:∀x y,p x y=true↔x=y)(a b:ax α)(hl:a.length=b.length)(h:a.length<=10^9)(hs:∀i (hi:i<a.length) nx,T nx (i:Int)=cond (!(p a[i] (b[i]'(hl▸hi)))) hit (nx ((i+1:Nat):Int)))(hf:∀nx,T nx (a.length:Int)=fin): bl T fuel 0=cond (Rt a b) fin hit:=by
 have hq:∀i,i<a.length->i<b.length:=λi hi=>hl▸hi;rw[jr (fin:=fin) (hit:=hit) (λi=>Rt a[i]? b[i]?) a.length (by omega) ?hs hf]
 case hs=>
  intro i nx hi
  rw[hs i hi,al hi,al (hq i hi)]
  have:p a[i] (b[i]'(hq i hi))=Rt (some a[i]) (some (b[i]'(hq i hi))):=U1 (by rw[hp,bq])
  rw[this]
 congr 1;apply U1;rw[aF];constructor;intro k;apply cS;intro i;by_cases hi:i<a.length;exact Hg.1 (k i (bB.2 hi));rw[bI (by omega),bI (by omega)];rintro rfl i _;exact W8 rfl
theorem alJ {T:(Int->az Bool)->Int->az Bool}(p:α->α->Bool)(hp:∀x y,p x y=true↔x=y)(a b:ax α)(h:a.length<=10^9)(hs:a.length=b.length->∀i (hi:i<a.length)(wL:i<b.length) nx,T nx (i:Int)=cond (!(p a[i] b[i])) (some false) (nx ((i+1:Nat):Int)))(hf:∀nx,T nx (a.length:Int)=some true): cond ((a.length:Int) !=(b.length:Int)) (some false) (bl T fuel 0)=some (Rt a b):=by by_cases hl:a.length=b.length;rw[aiG p hp a b hl h (λi hi nx=>hs hl i hi (hl▸hi) nx) hf];rw[show((a.length:Int) !=(b.length:Int))=false by simp[hl]];cases Rt a b<;>rfl;rw[afc (λe=>hl (by rw[e]))];rw[show((a.length:Int) !=(b.length:Int))=true by simp;omega];rfl
theorem ajp (a b:bW)(h:a.length<=10^9):tS a b=some (Rt a b):=by unfold tS;refine alJ (λx y=>x==y) (λx y=>bg) a b h (λhl i hi wL nx=>?_) (λnx=>?_);simp only[oz];rw[jI,br hi,br wL,ak];rfl;simp only[oz];rw[cC];rfl
theorem Vz (a b:Filter)(h:a.2.2.length<=10^9):vD a b=some (Rt a b):=by simp only[vD,ajp _ _ h,ab,bM,cF,W7 a b,W7 a.2 b.2,au4]
def HR:aX:=(0,0,(0,0,0),false,0,0)
def iQ (b:uA):Bool:=db b.1 0 10000&&(db b.2.1 0 100000&&db b.2.2 0 b.2.1)
def FB (n:Int)(f:aX):Bool:=db f.1 0 7&&(db f.2.1 1 (au (n-1))&&(iQ f.2.2.1&&(db f.2.2.2.2.1 0 1000000000000&&db f.2.2.2.2.2 0 1000000000000)))
def afn (f g:aX):Bool:=(g.1==f.1)||(g.2.1==f.2.1)
def fnB (l:ax aX)(n:Int)(i:Nat):Bool:=FB n (l.getD i HR)&&(range i).all (λj=> !(afn (l.getD i HR) (l.getD j HR)))
def iy (l:ax aX)(ps:ax Port):Bool:=hY ps&&(range l.length).all (fnB l (ps.length:Int))
theorem QU (b:uA):zD b=some (iQ b):=by simp only[zD,dQ,ab,bM,cF,iQ]
theorem IX (b:uA):uI b=some (iQ b):=QU b
theorem Ib (l:ax aX)(ps:ax Port)(h:l.length<=10^9)(h1:ps.length<=10^9)(h2:∀p∈ps,p.2.1.length<=10^9):oO l ps=some (iy l ps):=by
 unfold oO iy;rw[jr (hit:=some false) (fin:=some true) (fnB l (ps.length:Int)) l.length (by omega) (λi nx hi=>?hs) (λnx=>?hf)]
 case hs=>
  simp only[oh]
  rw[jI,br hi,ak (n:=(i:Int)+1),ZS l i (by omega)]
  simp only[ah,ab,cm,IX,bM,cT]
  have hti:(l.take i).length=i:=by simp;omega
  rw[hti,jr (hit:=some false) (fin:=nx ((i:Int)+1)) (λj=> !(afn l[i] (l.getD j HR))) i (by omega) (λj nx' hj=>?hs2) (λnx'=>?CN)]
  case hs2=>
   have hjl:j<l.length:=by omega
   have hjt:j<(l.take i).length:=by omega
   simp only[om]
   rw[jI,br hjt,ak (n:=(j:Int)+1),List.getElem_take]
   simp only[ah,ab,bM,cT,cu hjl,gu];rfl
  case CN=>
   simp only[om]
   rw[cC];rfl
  simp only[fnB,cu hi]
  rw[show(!db l[i].1 0 7||(!db l[i].2.1 1 (au ((ps.length:Int)-1))||(!iQ l[i].2.2.1||(!db l[i].2.2.2.2.1 0 1000000000000|| !db l[i].2.2.2.2.2 0 1000000000000))))= !FB (ps.length:Int) l[i] by unfold FB;simp only[Bool.not_and]]
  cases FB (ps.length:Int) l[i]<;>cases (range i).all (λj=> !(afn l[i] (l.getD j HR)))<;>rfl
 case hf=>
  simp only[oh]
  rw[cC];rfl
 simp only[Hx ps h1 h2,ab];cases hY ps<;>cases (range l.length).all (fnB l (ps.length:Int))<;>rfl
def AB (l:ax aX)(i:Nat):Bool:=((l.getD i HR).1==(i:Int))&&((l.getD i HR).2.1==(i:Int)+1)
theorem abP (l:ax aX)(h:l.length<=10^9):xz l=some ((range l.length).all (AB l)):=by
 unfold xz;rw[jr (hit:=some false) (fin:=some true) (AB l) l.length (by omega) (λi nx hi=>?hs) (λnx=>?hf)]
 case hs=>
  simp only[rV]
  rw[jI,br hi,ak (n:=(i:Int)+1)]
  simp only[ah,ab,bM,cT,bne,AB,cu hi]
  cases l[i].1==(i:Int)<;>cases l[i].2.1==(i:Int)+1<;>rfl
 case hf=>
  simp only[rV]
  rw[cC];rfl
 cases (range l.length).all (AB l)<;>rfl
theorem JO:∀(ms:ax bE)(i:Nat)(s:bW×ax Port),WA i s->ms.all jV=true->WA (i+ms.length) (ms.foldl Ey s)
 |[],i,s,h,_=>h
 |m::ms,i,s,h,hm=>by rw[cj,ae]at hm;have hu:=EC m.1.2.2 s.1;have hl:=Co hm.1;have:=JO ms (i+1) (Ey s m) (h.port hm.1 _) hm.2;rw[du,aU,show i+(ms.length+1)=i+1+ms.length by omega];exact this
theorem Nh {ms:ax bE}(h:(cV ms).2=true):ms.length<=3:=by unfold cV at h;cases hq:db (ms.length:Int) 1 3&&(ms.all jV&&hY (lC ms))with|false=>rw[hq]at h;cases h|true=>simp only[ae]at hq;have:=aS.1 hq.1;omega
theorem Ma (ms:ax bE):(cV ms).1.length<=10^9/\∀p∈(cV ms).1,p.2.1.length<=10^9:=by unfold cV;cases hc:db (ms.length:Int) 1 3&&(ms.all jV&&hY (lC ms))with|false=>exact⟨by simp,by simp⟩|true=>simp only[ae,aS]at hc;have:=JO ms 0 ([0],[]) ⟨by simp,rfl,by simp⟩ hc.2.1;rw[cy]at this;exact GF this
theorem agN (ms:ax bE):(cV ms).1.length<=4/\∀p∈(cV ms).1,p.2.1.length<=28:=by unfold cV;cases hc:db (ms.length:Int) 1 3&&(ms.all jV&&hY (lC ms))with|false=>exact⟨by simp,by simp⟩|true=>simp only[ae,aS]at hc;have h:=JO ms 0 ([0],[]) ⟨by simp,rfl,by simp⟩ hc.2.1;rw[cy]at h;have h1:=h.1;have h2:=h.2.1;simp only[ah,lC];refine⟨by simp only[aU];omega,λp hp=>?_⟩;rcases bS.1 hp with rfl|hp;simp only;omega;have:=h.2.2 p hp;omega
def de (m:bP):Bool:=m.all (λx=>(x.length:Int)==128)&&decide ((m.length:Int)<=64)
theorem Jd (m:bP)(h:m.length<=10^9):vd m=some (de m):=by
 unfold vd de;rw[td (hit:=some false) (fin:=some (decide ((m.length:Int)<=64))) (λx:Bytes=>(x.length:Int)==128) m (by omega) (λi hi nx=>?hs) (λnx=>?hf)]
 case hs=>
  simp only[tU]
  rw[jI,br hi,ak];rfl
 case hf=>
  simp only[tU]
  rw[cC];rfl
 cases m.all (λx=>(x.length:Int)==128)<;>rfl
theorem I0 (m:bP)(h:m.length<=10^9):uM m=some (de m):=Jd m h
def N3:aH:=(0,0,0,false)
def LU (m:aH):Bool:=db m.1 0 7&&(db m.2.1 0 1023&&db m.2.2.1 0 63)
def sO (d p:Int)(m:aH):Bool:=(m.1==d)&&(m.2.1==p)
def Qm (l:ax aH)(i:Nat):Bool:=LU (l.getD i N3)&&(range i).all (λj=> !(sO (l.getD i N3).1 (l.getD i N3).2.1 (l.getD j N3)))
def gz (l:ax aH):Bool:=decide ((l.length:Int)<=96)&&(range l.length).all (Qm l)
theorem V8 (l:ax aH)(h:l.length<=10^9):vJ l=some (gz l):=by
 unfold vJ gz;rw[jr (hit:=some false) (fin:=some true) (Qm l) l.length (by omega) (λi nx hi=>?hs) (λnx=>?hf)]
 case hs=>
  simp only[qp]
  rw[jI,br hi,ak]
  simp only[ah,ab,dQ,bM]
  rw[jr (hit:=some false) (fin:=nx ((i:Int)+1)) (λj=> !(sO l[i].1 l[i].2.1 (l.getD j N3))) i (by omega) (λj nx hj=>?hs2) (λnx=>?CN)]
  case hs2=>
   have hjl:j<l.length:=by omega
   simp only[oA]
   rw[jI,br hjl,ak]
   simp only[ah,ab,bM,cu hjl,sO,cF,gu];rfl
  case CN=>
   simp only[oA]
   rw[cC];rfl
  simp only[Qm,LU,cu hi,cT]
  cases db l[i].1 0 7<;>cases db l[i].2.1 0 1023<;>cases db l[i].2.2.1 0 63<;>cases (range i).all (λj=> !(sO l[i].1 l[i].2.1 (l.getD j N3)))<;>rfl
 case hf=>
  simp only[qp]
  rw[cC];rfl
 have e:decide ((l.length:Int)>96)= !decide ((l.length:Int)<=96):=by rw[cH];simp
 rw[e];cases decide ((l.length:Int)<=96)<;>cases (range l.length).all (Qm l)<;>rfl
def YY (l:ax aH)(d p:Int):Int:=match l.findIdx? (sO d p)with|some i=>(i:Int)|none=> -1
theorem X8 (l:ax aH)(d p:Int)(h:l.length<=10^9):oV l d p=some (YY l d p):=by
 unfold oV YY;rw[Hj (hit:=λi=>some i) (fin:=some (-1)) (sO d p) l (by omega) (λi hi nx=>?hs) (λnx=>?hf)]
 case hs=>
  simp only[ox]
  rw[jI,br hi,ak]
  simp only[ah,ab,bM,cF,sO];rfl
 case hf=>
  simp only[ox]
  rw[cC];rfl
 cases l.findIdx? (sO d p)<;>rfl
theorem acz (l:ax aH)(i:Nat)(hi:i<l.length):(YY l l[i].1 l[i].2.1==(i:Int))=(range i).all (λj=> !(sO l[i].1 l[i].2.1 (l.getD j N3))):=by
 have C7:sO l[i].1 l[i].2.1 l[i]=true:=by simp[sO]
 unfold YY;cases hq:l.findIdx? (sO l[i].1 l[i].2.1)with
 |none=>rw[List.findIdx?_eq_none_iff]at hq;rw[hq l[i] (aM hi)]at C7;cases C7
 |some k=>
  rw[List.findIdx?_eq_some_iff_getElem]at hq;obtain⟨hk,hpk,gH⟩:=hq;rw[cH,aF];simp only[bB,bg,aN];constructor;intro e j hj;have hjl:j<l.length:=by omega
  rw[cu hjl];have:=gH j (by omega);simpa using this;intro IT;rcases Nat.lt_trichotomy k i with hki|hki|hki;have:=IT k hki;rw[cu hk,hpk]at this;cases this;omega;have:=gH i hki;rw[C7]at this;simp at this
theorem J8 (l:ax aH)(h:l.length<=10^9):qF l=some (gz l):=by
 unfold qF gz;rw[jr (hit:=some false) (fin:=some (decide ((l.length:Int)<=96))) (Qm l) l.length (by omega) (λi nx hi=>?hs) (λnx=>?hf)]
 case hs=>
  simp only[pY]
  rw[jI,br hi,ak]
  simp only[ah,ab,cm,bM,X8 _ _ _ h,bne,acz l i hi,Qm,LU,cu hi]
  cases db l[i].1 0 7<;>cases db l[i].2.1 0 1023<;>cases db l[i].2.2.1 0 63<;>cases (range i).all (λj=> !(sO l[i].1 l[i].2.1 (l.getD j N3)))<;>rfl
 case hf=>
  simp only[pY]
  rw[cC];rfl
 cases decide ((l.length:Int)<=96)<;>cases (range l.length).all (Qm l)<;>rfl
def Ge (n:Int)(l:bW)(i:Nat):Bool:=db (l.getD i 0) 0 (n-1)&& !((l.take i).contains (l.getD i 0))
def ee (p:dB):Bool:=db p.1 0 130944&&(db p.2.1 1 512&&(db p.2.2.1 0 16&&(range p.2.2.2.length).all (Ge p.2.2.1 p.2.2.2)))
def FH (n:Int)(l:bW):ax Bool:=(range n.toNat).map λk:Nat=>l.contains (k:Int)
theorem TL (n:Int)(l:bW):(FH n l).length=n.toNat:=by simp[FH]
theorem HF (n:Int)(l:bW)(k:Nat)(h:k<(FH n l).length):(FH n l)[k]=l.contains (k:Int):=by simp[FH]
theorem agX (n:Int)(l:bW)(k:Nat)(h:k<n.toNat):(FH n l).set k true=FH n (l++[(k:Int)]):=by
 apply List.ext_getElem;simp[FH];intro j h1 h2;rw[List.getElem_set];split;rename_i e;subst e;rw[HF];simp;rename_i e;rw[HF,HF];simp only[List.contains_append];have:([(k:Int)].contains (j:Int))=false:=by simp;omega
 rw[this];simp
theorem Zd {T:(ax Bool×Int->az Bool)->ax Bool×Int->az Bool}(n:Int)(l:bW)(hl:l.length<=10^9)
 (hs:∀i (hi:i<l.length)(s:ax Bool) nx,T nx (s,(i:Int))=aa (cond (!(db l[i] 0 (n-1))) (some true) (aa (idx s l[i]) λx=>some x)) λq=>
  cond q (some false) (aa (idx s l[i]) λ_=>aa (idx s l[i]) λ_=>nx (s.set l[i].toNat true,((i+1:Nat):Int)))) (hf:∀s nx,T nx (s,(l.length:Int))=some true):
 bl T fuel (List.replicate n.toNat false,0)=some ((range l.length).all (Ge n l)):=by
 have e0:(List.replicate n.toNat false,(0:Int))=(FH n (l.take 0),((0:Nat):Int)):=by congr 1;simp only[FH,List.take_zero,List.contains_nil,List.map_const',List.length_range]
 rw[e0,Lo (hit:=some false) (fin:=some true) (λi=>(FH n (l.take i),(i:Int))) (Ge n l) l.length (by omega) (λi nx hi hp=>?hs) (λ_ nx=>hf _ nx)]
 case hs=>
  rw[hs i hi]
  unfold Ge
  rw[cu hi]
  by_cases uB:db l[i] 0 (n-1)=true
  ·have hb:=uB
   rw[aS]at hb
   obtain⟨k,hk⟩:∃k:Nat,l[i]=(k:Int):=⟨l[i].toNat,by omega⟩
   have hkn:k<(FH n (l.take i)).length:=by rw[TL];omega
   rw[uB,hk,br hkn,HF]
   simp only[aj,af,ab,bn,gu,aw]
   rw[agX _ _ _ (by rw[TL]at hkn;exact hkn),<-hk,<-bc hi]
  ·have aok:db l[i] 0 (n-1)=false:=by simpa using uB
   rw[aok];rfl
 cases (range l.length).all (Ge n l)<;>rfl
theorem KV (p:dB)(h:p.2.2.2.length<=10^9):wG p=some (ee p):=by
 unfold wG ee;simp only[dQ,ab,bM];by_cases hn:db p.2.2.1 0 16=true
 ·have hb:=hn;rw[aS]at hb;rw[zip,aR,Zd p.2.2.1 p.2.2.2 h (λi hi s nx=>?hs) (λs nx=>?hf)]
  case hs=>
   simp only[xT]
   rw[jI,br hi,ak (n:=(i:Int)+1),ak (n:=p.2.2.1-1)]
   simp only[ah,ab,dQ];rfl
  case hf=>
   simp only[xT]
   rw[cC];rfl
  rw[hn];cases db p.1 0 130944<;>cases db p.2.1 1 512<;>rfl
 have D7:db p.2.2.1 0 16=false:=by simpa using hn
 rw[D7];cases db p.1 0 130944<;>cases db p.2.1 1 512<;>rfl
theorem xa (p:dB)(h:p.2.2.2.length<=10^9):jy p=some (ee p):=by
 unfold jy ee;simp only[cm,ab,bM];by_cases hn:db p.2.2.1 0 16=true
 ·have hb:=hn;rw[aS]at hb;rw[zip,aR,Zd p.2.2.1 p.2.2.2 h (λi hi s nx=>?hs) (λs nx=>?hf)]
  case hs=>
   simp only[xo]
   rw[jI,br hi,ak (n:=(i:Int)+1),ak (n:=p.2.2.1-1)]
   simp only[ah,ab,cm];rfl
  case hf=>
   simp only[xo]
   rw[cC];rfl
  rw[hn];cases db p.1 0 130944<;>cases db p.2.1 1 512<;>rfl
 have D7:db p.2.2.1 0 16=false:=by simpa using hn
 rw[D7];cases db p.1 0 130944<;>cases db p.2.1 1 512<;>rfl
def jP (n:Int):Bool:=(n==2)||((n==4)||((n==8)||(n==16)))
theorem I3 (n:Int):xY n=some (jP n):=by simp only[xY,bM,ab,jP,cT]
theorem GM (n:Int):uT n=some (jP n):=I3 n
theorem iM {n:Int}:jP n=true↔n=2\/n=4\/n=8\/n=16:=by simp[jP]
theorem EE (x:Int)(k:Nat)(hk:k<=64:=by omega):au x%(2^k:Int)=x%(2^k:Int):=by
 obtain⟨c,hc⟩:∃c:Int,(18446744073709551616:Int)=2^k*c:=⟨2^(64-k),by rw[<-Int.pow_add,show k+(64-k)=64 by omega];rfl⟩
 have:au x=x\/∃q:Int,au x=x+18446744073709551616*q:=by
  right;simp only[au,gF,IntKind.wrap,IntKind.bits,IntKind.signed];simp;have h1:x=x%18446744073709551616+18446744073709551616*(x/18446744073709551616):=by omega
  split;exact⟨-(x/18446744073709551616)-1,by omega⟩;exact⟨-(x/18446744073709551616),by omega⟩
 rcases this with h|⟨q,h⟩;rw[h];rw[h,hc,Int.mul_assoc,Int.add_mul_emod_self_left]
theorem FO (x:Int)(k:Nat)(hk:k<63:=by omega):((ir x&&&ir (2^k-1)).toNat:Int)=x%2^k:=by
 have h2:(2:Int)^k<=2^62:=by have:(2:Nat)^k<=2^62:=Nat.pow_le_pow_right (by omega) (by omega);exact_mod_cast this
 have h0:(1:Int)<=2^k:=by have:1<=(2:Nat)^k:=Nat.one_le_two_pow;exact_mod_cast this
 have hm:(ir (2^k-1)).toNat=2^k-1:=by
  show(BitVec.ofInt 64 (2^k-1)).toNat=2^k-1;rw[BitVec.toNat_ofInt,Int.emod_eq_of_lt (by omega) (by omega)];have:((2:Int)^k-1)=((2^k-1:Nat):Int):=by have:1<=(2:Nat)^k:=Nat.one_le_two_pow;push_cast [this];rfl
  rw[this];rfl
 rw[BitVec.toNat_and,hm,Nat.and_two_pow_sub_one_eq_mod];show(((BitVec.ofInt 64 x).toNat%2^k:Nat):Int)=x%2^k;rw[BitVec.toNat_ofInt];have hx:0<=x%18446744073709551616:=by omega
 have e:(((x%18446744073709551616).toNat%2^k:Nat):Int)=(x%18446744073709551616)%2^k:=by push_cast;rw[Int.toNat_of_nonneg hx]
 refine e.trans ?_;exact Int.emod_emod_of_dvd x ⟨2^(64-k),by rw[<-Int.pow_add,show k+(64-k)=64 by omega];rfl⟩
theorem L1 (x n:Int)(h0:0<n:=by omega)(h1:n<=4611686018427387904:=by omega):jz x n=some (x%n):=by
 unfold jz;have:=fJ x (show n≠0 by omega);have:=fL x h0;have hn:(n.natAbs:Int)=n:=by omega
 rw[nU,Int.tmod_eq_emod];split;rw[cC];simp;rw[jI,ak];simp only[ah,hn];congr 1;omega
def bV (r:kY):Int:=if jP r.2.1 then(r.2.2.2-r.2.2.1)%(2*r.2.1) else 0
theorem ZM (r:kY):vi r=some (bV r):=by
 unfold vi bV;rw[I3,ab];cases hs:jP r.2.1 with
 |false=>rfl
 |true=>
  simp only[aj,af,ch];congr 1;rcases iM.1 hs with h|h|h|h<;>rw[h];have e:au (au (2*2)-1)=2^2-1:=by decide
  rw[e,FO _ 2,EE _ 2,ak];rfl;have e:au (au (2*4)-1)=2^3-1:=by decide
  rw[e,FO _ 3,EE _ 3,ak];rfl;have e:au (au (2*8)-1)=2^4-1:=by decide
  rw[e,FO _ 4,EE _ 4,ak];rfl;have e:au (au (2*16)-1)=2^5-1:=by decide
  rw[e,FO _ 5,EE _ 5,ak];rfl
theorem Ci (r:kY):ki r=some (bV r):=by unfold ki bV;rw[GM,ab];cases hs:jP r.2.1 with|false=>rfl|true=>simp only[aj,af,ch];have hb:=iM.1 hs;rw[ak (n:=2*r.2.1)];have a1:=fJ r.2.2.2 (show 2*r.2.1≠0 by omega);have a2:=fL r.2.2.2 (show 0<2*r.2.1 by omega);have a3:=fJ r.2.2.1 (show 2*r.2.1≠0 by omega);have a4:=fL r.2.2.1 (show 0<2*r.2.1 by omega);simp only[L1 _ (2*r.2.1) (show 0<2*r.2.1 by omega),ab];rw[ak,<-Int.sub_emod]
def dz (r:kY):Bool:=db r.1 0 130944&&(jP r.2.1&&(db r.2.2.1 0 (2*r.2.1-1)&&(db r.2.2.2 0 (2*r.2.1-1)&&decide (bV r<=r.2.1))))
theorem BS {n:Int}(h:jP n=true):au (au (2*n)-1)=2*n-1:=by have:=iM.1 h;rw[ak (n:=2*n),ak]
theorem Q0 (r:kY):wH r=some (dz r):=by unfold wH dz;simp only[dQ,I3,ZM,ab,bM,cF];cases hs:jP r.2.1 with|false=>rfl|true=>rw[BS hs]
theorem zZ (r:kY):kA r=some (dz r):=by unfold kA dz;simp only[cm,GM,Ci,ab,bM,cF];cases hs:jP r.2.1 with|false=>rfl|true=>rw[BS hs]
theorem ab4 (p:dB)(h:p.2.2.2.length<=10^9):BA p=some p:=by unfold BA;rw[aR (by simp;omega)];rfl
theorem lL (l:bW)(h:l.length<=10^9):gC l=some l:=by unfold gC;rw[aR (by simp;omega)];rfl
theorem wo (p:dB)(h:p.2.2.2.length<=10^9):jg p=some p:=by unfold jg;rw[lL _ h];rfl
def im (p:dB)(l:bW):dB:=(p.1,p.2.1,p.2.2.1,p.2.2.2++l)
def D2 (p:dB)(l:bW):Bool:=ee p&&ee (im p l)
def IS (p:dB)(l:bW):dB×Bool:=bif D2 p l then(im p l,true) else(p,false)
theorem P3 (p:dB)(l:bW)(h:p.2.2.2.length+l.length<=10^9):gN p l=some (IS p l):=by unfold gN;rw[wo p (by omega),ab,aR,xa p (by omega)];rw[xa (p.1,p.2.1,p.2.2.1,p.2.2.2++l) (by simp;omega)];simp only[ab,bM,IS,D2];show _=some (bif ee p&&ee (p.1,p.2.1,p.2.2.1,p.2.2.2++l) then _ else _);cases ee p<;>cases ee (p.1,p.2.1,p.2.2.1,p.2.2.2++l)<;>rfl
theorem aoa (p:dB)(l:bW):(IS p l).2=D2 p l:=by unfold IS;cases D2 p l<;>rfl
def qn (n:Int)(s:pQ):Bool:=db s.2.1 1 n&&db s.1 0 65535
def bL (l:ax pQ):bW:=l.flatMap (·.2.2)
def eF (l:ax pQ):Int:=(l.map (·.2.1)).sum
def Rm (t:eD):Bool:=dz t.1&&(ee t.2.1&&(db t.2.2.2 0 65535&&(t.2.2.1.all (qn t.1.2.1)&&(D2 t.2.1 (bL t.2.2.1)&&decide (eF t.2.2.1<=t.1.2.1)))))
theorem AP (n:Int):∀l:ax pQ,l.all (qn n)=true->0<=eF l
 |[],_=>by simp[eF]
 |x::l,h=>by simp only[cj,ae]at h;have:=AP n l h.2;have hx:=h.1;unfold qn at hx;simp only[ae,aS]at hx;simp only[eF,dk,fW]at this⊢;omega
theorem Td (p:dB)(n:Int)(hn:n<=16)(fin:Int×bW->az Bool)(si:∀s:Int×bW,p.2.2.2.length+s.2.length<=10^9->fin s=some (D2 p s.2)):
 ∀(l:ax pQ)(left:Int)(acc:bW),0<=left->left<=n->p.2.2.2.length+(acc.length+(bL l).length)<=10^9->
 Ca (λx (s:Int×bW) k=>cond (decide (x.2.1<1)||(decide (x.2.1>s.1)|| !(db x.1 0 65535))) (some false) (room (s.2.length+x.2.2.length) (k (au (s.1-x.2.1),s.2++x.2.2)))) fin l (left,acc)
  =some (l.all (qn n)&&(D2 p (acc++bL l)&&decide (eF l<=left)))
 |[],left,acc,h0,h1,h2=>by rw[Ca,si _ (by simp[bL]at h2;exact h2)];simp[bL,eF,h0]
 |x::l,left,acc,h0,h1,h2=>by
  have hb:bL (x::l)=x.2.2++bL l:=by simp[bL]
  have hc:eF (x::l)=x.2.1+eF l:=by simp only[eF,dk,fW]
  rw[hb,ai]at h2;rw[Ca,cj,hb,hc];by_cases c1:x.2.1<1;have e:qn n x=false:=by unfold qn db;rw[aq (show¬1<=x.2.1 by omega)];rfl
  rw[e,ar c1];rfl;rw[aq c1];by_cases c2:x.2.1>left;rw[ar c2];simp only[hZ,cJ,iO,ah];cases ha:l.all (qn n)with|false=>simp|true=>have:=AP n l ha;rw[aq (show¬x.2.1+eF l<=left by omega)];simp
  rw[aq c2];have e:qn n x=db x.1 0 65535:=by have:db x.2.1 1 n=true:=aS.2 ⟨by omega,by omega⟩;unfold qn;rw[this];rfl
  rw[e];cases db x.1 0 65535 with
  |false=>rfl
  |true=>
   simp only[cJ,aj,af,bn];rw[aR,ak,Td p n hn fin si l _ _ (by omega) (by omega) (by rw[ai];omega),aL];have e:decide (eF l<=left-x.2.1)=decide (x.2.1+eF l<=left):=by rw[cH];simp;omega
   rw[e]
theorem abU (t:eD)(h1:t.2.2.1.length<=10^9)(h2:t.2.1.2.2.2.length+(bL t.2.2.1).length<=10^9):BN t=some (Rm t):=by
 unfold BN Rm;simp only[zZ,xa _ (show t.2.1.2.2.2.length<=10^9 by omega),cm,ab,bM];cases hr:dz t.1 with
 |false=>rfl
 |true=>
  have hn:0<=t.1.2.1/\t.1.2.1<=16:=by unfold dz at hr;simp only[ae]at hr;have:=iM.1 hr.2.1;omega
  have D5:=eS;have key:=Ee (R:=Bool) (T:=xu (λ(_:Int) (y9:bW) (_:Int)=>aa (gN t.2.1 y9) λzy=>some zy.2) (λ(CL:Bool) (_:Int) (_:bW) (_:Int)=>some CL) false t.2.2.1 ((List.length t.2.2.1:Int)) t) t.2.2.1 (λ(s:Int×bW) i=>(s.1,s.2,(i:Int))) (λx (s:Int×bW) k=>cond (decide (x.2.1<1)||(decide (x.2.1>s.1)|| !(db x.1 0 65535))) (some false) (room (s.2.length+x.2.2.length) (k (au (s.1-x.2.1),s.2++x.2.2)))) (λs=>aa (gN t.2.1 s.2) λwD=>some wD.2) (λi hi s nx=>by simp only[xu];rw[jI,br hi,ak (n:=(i:Int)+1)];simp only[ah,ab,cm,bM,cT];rfl) (λs nx=>by simp only[xu];rw[cC];rfl) fuel 0 (t.1.2.1,([]:bW)) (by omega) (by omega);rw[eL,Td t.2.1 t.1.2.1 (by omega) _ (λs hs=>by rw[P3 _ _ hs,ab,aoa]) _ _ _ (by omega) (by omega) (by simpa using h2)]at key;cases ee t.2.1 with|false=>rfl|true=>cases db t.2.2.2 0 65535 with|false=>rfl|true=>refine key.trans ?_;simp
def sT (s:eX):Bool:=db s.2.1 0 65535&&(db s.2.2.1 0 65535&&(!decide ((List.length s.2.2.2.2.2.2.2:Int)>320)&&
 (bif s.1==17 then(s.2.2.2.1==0)&&((s.2.2.2.2.1==0)&&((s.2.2.2.2.2.1==0)&&(s.2.2.2.2.2.2.1==0)))
  else(s.1==6)&&(db s.2.2.2.1 0 4294967295&&(db s.2.2.2.2.1 0 4294967295&&(db s.2.2.2.2.2.1 0 31&&db s.2.2.2.2.2.2.1 0 65535))))))
theorem aeu (s:eX):sW s=some (sT s):=by simp only[sW,dQ,ab,bM,cF,cT,cN,Bool.not_or,gu,Bool.and_assoc,sT]
theorem adV (s:eX):sG s=some (sT s):=by simp only[sG,cm,ab,bM,cF,cT,cN,Bool.not_or,gu,Bool.and_assoc,sT];by_cases h:s.1=17;rw[h];rfl;rw[show(s.1==17)=false from by simpa using h];cases s.1==6<;>rfl
def EL (f:Int):Bool:=(f==16)||(f==17)||(f==24)||(f==25)
theorem Pp (f:Int)(h:db f 0 31=true):(au (toNat (ir f&&&~~~ ir 9))==16)=EL f:=by
 have key:∀k:Fin 32,(au (toNat (ir (k.val:Int)&&&~~~ ir 9))==16)=EL (k.val:Int):=by decide
 rw[aS]at h;have:=key ⟨f.toNat,by omega⟩;rwa[show((f.toNat:Nat):Int)=f by omega]at this
theorem Po (f:Int)(h:db f 0 31=true):sL f=some (EL f):=by
 have key:∀k:Fin 32,((au (toNat (ir (k.val:Int)&&&ir 16)) !=0)&&(au (toNat (ir (k.val:Int)&&&~~~ ir 25))==0))=EL (k.val:Int):=by decide
 rw[aS]at h;have:=key ⟨f.toNat,by omega⟩;rw[show((f.toNat:Nat):Int)=f by omega]at this;simp only[sL,bM,ab,cF];rw[this]
theorem HG {s:eX}(h:sT s=true)(h6:(s.1==6)=true):db s.2.2.2.2.2.1 0 31=true:=by
 have:s.1=6:=by simpa using h6
 unfold sT at h;rw[this]at h;simp only[ae]at h;have h:=h.2.2.2;simp at h;exact h.2.2.1
def oI (p:aK):Bool:=db p.1 0 281474976710655&&(db p.2.1 0 281474976710655&&(db p.2.2.1 (-1) 4095&&(db p.2.2.2.1 0 255&&(db p.2.2.2.2.2.1 0 255&&(db p.2.2.2.2.1 0 65535&&(db p.2.2.2.2.2.2.1 0 4294967295&&(db p.2.2.2.2.2.2.2.1 0 4294967295&&sT p.2.2.2.2.2.2.2.2)))))))
def dv (p:aK):Bool:=oI p&&(decide ((List.length p.2.2.2.2.2.2.2.2.2.2.2.2.2.2.2:Int)<=128)||(p.2.2.2.2.2.2.2.2.1==6)&&EL p.2.2.2.2.2.2.2.2.2.2.2.2.2.1)
theorem zY (h:oI p=true):sT p.2.2.2.2.2.2.2.2=true:=by unfold oI at h;simp only[ae]at h;exact h.2.2.2.2.2.2.2.2
theorem Mt (p:aK):ua p=some (dv p):=by unfold ua dv;simp only[dQ,aeu,ab,bM,cF,cT,cN,Bool.not_or,gu];rw[show(db p.1 0 281474976710655&&(db p.2.1 0 281474976710655&&(db p.2.2.1 (-1) 4095&&(db p.2.2.2.1 0 255&&(db p.2.2.2.2.2.1 0 255&&(db p.2.2.2.2.1 0 65535&&(db p.2.2.2.2.2.2.1 0 4294967295&&(db p.2.2.2.2.2.2.2.1 0 4294967295&&sT p.2.2.2.2.2.2.2.2))))))))=oI p from rfl];cases hh:oI p with|false=>rfl|true=>cases h6:p.2.2.2.2.2.2.2.2.1==6 with|false=>simp|true=>rw[Pp _ (HG (zY hh) h6)];simp[Bool.or_comm]
theorem mS (p:aK):gJ p=some (dv p):=by
 unfold gJ dv;simp only[cm,adV,ab];have e:∀X:az Bool,(cond (db p.1 0 281474976710655) (cond (db p.2.1 0 281474976710655) (cond (db p.2.2.1 (-1) 4095) (cond (db p.2.2.2.1 0 255) (cond (db p.2.2.2.2.2.1 0 255) (cond (db p.2.2.2.2.1 0 65535) (cond (db p.2.2.2.2.2.2.1 0 4294967295) (cond (db p.2.2.2.2.2.2.2.1 0 4294967295) (cond (sT p.2.2.2.2.2.2.2.2) X (some false)) (some false)) (some false)) (some false)) (some false)) (some false)) (some false)) (some false)) (some false))=cond (oI p) X (some false):=by intro X;unfold oI;cases db p.1 0 281474976710655;rfl;cases db p.2.1 0 281474976710655;rfl;cases db p.2.2.1 (-1) 4095;rfl;cases db p.2.2.2.1 0 255;rfl;cases db p.2.2.2.2.2.1 0 255;rfl;cases db p.2.2.2.2.1 0 65535;rfl;cases db p.2.2.2.2.2.2.1 0 4294967295;rfl;cases db p.2.2.2.2.2.2.2.1 0 4294967295<;>rfl
 rw[e];cases hh:oI p with|false=>rfl|true=>cases h6:p.2.2.2.2.2.2.2.2.1==6 with|false=>simp[bM]|true=>rw[Po _ (HG (zY hh) h6)];simp only[ah,ab,bM,cT,bn]
def gE (q:uA):Bool:=db q.1 0 130944&&(jP q.2.1&&db q.2.2 0 (au ((au (2*q.2.1))-1)))
theorem LJ (q:uA):qc q=some (gE q):=by simp only[qc,cm,GM,ab,bM,cF,gE]
def ahp:ug:=((0,0,0,0,0,0,0,0,0,0,0,0,0,0,0,([]:Bytes)),0,0)
def aez (p:ug):Bool:=(p.1.1==0)&&((p.1.2.1==0)&&((p.1.2.2.1==0)&&((p.1.2.2.2.1==0)&&((p.1.2.2.2.2.1==0)&&((p.1.2.2.2.2.2.1==0)&&((p.1.2.2.2.2.2.2.1==0)&&((p.1.2.2.2.2.2.2.2.1==0)&&((p.1.2.2.2.2.2.2.2.2.1==0)&&((p.1.2.2.2.2.2.2.2.2.2.1==0)&&((p.1.2.2.2.2.2.2.2.2.2.2.1==0)&&((p.1.2.2.2.2.2.2.2.2.2.2.2.1==0)&&((p.1.2.2.2.2.2.2.2.2.2.2.2.2.1==0)&&((p.1.2.2.2.2.2.2.2.2.2.2.2.2.2.1==0)&&((p.1.2.2.2.2.2.2.2.2.2.2.2.2.2.2.1==0)&&((p.1.2.2.2.2.2.2.2.2.2.2.2.2.2.2.2==([]:Bytes))&&((p.2.1==0)&&((p.2.2==0)&&true)))))))))))))))))
def Ju (r:cA):Bool:=(dz r.1&&(gE r.2.1&&(gE r.2.2.1&&((r.2.1.1==r.2.2.1.1)&&((r.2.1.2.1==r.2.2.1.2.1)&&db r.2.2.2.2.2 0 1000000000000)))))&&
 (bif r.2.2.2.2.1 then dv r.2.2.2.1.1&&(db r.2.2.2.1.2.1 0 320&&db r.2.2.2.1.2.2 1 320) else aez r.2.2.2.1)
theorem akI (p:ug):aez p=true↔p=ahp:=by obtain⟨⟨a,b,c,d,e,f,g,h,i,j,k,l,m,n,o,q⟩,r,s⟩:=p;simp only[aez,ahp,gw,ae,bg,Prod.mk.injEq,and_assoc]
theorem VE (r:cA):yA r=some (Ju r):=by unfold yA Ju aez;simp only[zZ,LJ,cm,mS,ab,bM,cF,cT,cN,Bool.not_or,gu,bne];cases r.2.2.2.2.1<;>rfl
def fB (v:Vector):Bool:=(nR v).getD false
theorem Jf (v:Vector):nR v=some (fB v):=by
 have:∃b,nR v=some b:=by simp only[nR,wI,dQ,ab,bM];exact⟨_,rfl⟩
 obtain⟨b,hb⟩:=this;rw[fB,hb];rfl
theorem Cj (v:Vector):nN v=some (fB v):=Jf v
theorem Mg (l:ax α)(p:α->Bool):(range l.length).all (λi=>l[i]?.all p)=l.all p:=by rw[cH,aF,aF];constructor;intro h x hx;obtain⟨i,hi,rfl⟩:=List.getElem_of_mem hx;have:=h i (bB.2 hi);rwa[al hi]at this;intro h i hi;rw[al (bB.1 hi)];exact h _ (aM _)
theorem adl (l:ax α)(p q:α->Bool):l.all (λx=>p x&&q x)=(l.all p&&l.all q):=by induction l with|nil=>rfl|cons x l ih=>simp only[cj,ih];cases p x<;>cases q x<;>cases l.all p<;>rfl
def jk (h:Host):bW:=[h.2.2.2.2.2.2.2.2.2.2.2.2.2.2.1,h.2.2.2.2.2.2.2.2.2.2.2.2.2.2.2.1,h.2.2.2.2.2.2.2.2.2.2.2.2.2.2.2.2.1,h.2.2.2.2.2.2.2.2.2.2.2.2.2.2.2.2.2.1,h.2.2.2.2.2.2.2.2.2.2.2.2.2.2.2.2.2.2]
def uh (h:Host):Bool:=db (h.2.2.2.1.length:Int) 1 2&&(((h.2.2.2.2.1.length:Int)==(h.2.2.2.1.length:Int))&&(((h.2.2.2.2.2.1.length:Int)==(h.2.2.2.1.length:Int))&&((h.2.2.2.2.2.2.1.length:Int)==(h.2.2.2.1.length:Int))))
def Zr (h:Host):Bool:=h.2.2.2.1.all Ju&&(h.2.2.2.2.1.all ee&&h.2.2.2.2.2.1.all fB)
def dZ (h:Host):Bool:=de h.1&&(gz h.2.1&&(Rm h.2.2.1&&(fj h.2.2.2.2.2.2.2.1&&(uh h&&(fE h.2.2.2.2.2.2.2.2.1 (h.2.2.2.1.length:Int)&&(Zr h&&(jk h).all (λx=>db x 0 1000000000000)))))))
structure OH (h:Host):Prop where
 a1:h.1.length<=10^9
 a2:h.2.1.length<=10^9
 t1:h.2.2.1.2.2.1.length<=10^9
 t2:h.2.2.1.2.1.2.2.2.length+(bL h.2.2.1.2.2.1).length<=10^9
 f1:h.2.2.2.2.2.2.2.1.2.2.length<=10^9
 s1:h.2.2.2.2.2.2.2.2.1.1.length<=10^9
 s2:h.2.2.2.2.2.2.2.2.1.2.1.length<=10^9
 s3:h.2.2.2.2.2.2.2.2.1.2.2.2.length<=10^9
 p1:∀p∈h.2.2.2.2.1,p.2.2.2.length<=10^9
theorem tQ (l:uh h=true):h.2.2.2.1.length<=2/\h.2.2.2.2.1.length=h.2.2.2.1.length/\h.2.2.2.2.2.1.length=h.2.2.2.1.length/\h.2.2.2.2.2.2.1.length=h.2.2.2.1.length:=by unfold uh at l;simp only[ae,aS,bg]at l;omega
theorem agU {T:(Int->az R)->Int->az R}{fin hit:az R}(l:uh h=true)(hs:∀i (hi:i<h.2.2.2.1.length) nx,T nx (i:Int)=cond (!(Ju h.2.2.2.1[i]&&(ee (h.2.2.2.2.1[i]'((tQ l).2.1▸hi))&&fB (h.2.2.2.2.2.1[i]'((tQ l).2.2.1▸hi))))) hit (nx ((i+1:Nat):Int)))(hf:∀nx,T nx (h.2.2.2.1.length:Int)=fin):bl T fuel 0=cond (Zr h) fin hit:=by
 have hl:=tQ l;rw[jr (fin:=fin) (hit:=hit) (λi=>h.2.2.2.1[i]?.all Ju&&(h.2.2.2.2.1[i]?.all ee&&h.2.2.2.2.2.1[i]?.all fB)) h.2.2.2.1.length (by omega) ?hs hf]
 case hs=>
  intro i nx hi
  rw[hs i hi,al hi,al (hl.2.1▸hi),al (hl.2.2.1▸hi)]
  rfl
 rw[adl,adl,Mg];have e1:=Mg h.2.2.2.2.1 ee;have e2:=Mg h.2.2.2.2.2.1 fB;rw[hl.2.1]at e1;rw[hl.2.2.1]at e2;rw[e1,e2];rfl
theorem WX {T:(Int->az R)->Int->az R}{fin hit:az R}(h:Host)(hs:∀i (hi:i<(jk h).length) nx,T nx (i:Int)=cond (!(db (jk h)[i] 0 1000000000000)) hit (nx ((i+1:Nat):Int)))(hf:∀nx,T nx ((jk h).length:Int)=fin):bl T fuel 0=cond ((jk h).all (λx=>db x 0 1000000000000)) fin hit:=td (λx=>db x 0 1000000000000) (jk h) (by simp[jk]) hs hf
theorem wZ (h:Host)(z:OH h):jx h=some (dZ h):=by
 unfold jx dZ;simp only[I0 _ z.a1,J8 _ z.a2,abU _ z.t1 z.t2,sC _ z.f1,Ke _ _ z.s1 z.s2 z.s3,cm,ab,bM];cases de h.1;rfl;cases gz h.2.1;rfl;cases Rm h.2.2.1;rfl;cases fj h.2.2.2.2.2.2.2.1;rfl;simp only[aj,af,cT,bne];rw[show(!db (h.2.2.2.1.length:Int) 1 2||(!((h.2.2.2.2.1.length:Int)==(h.2.2.2.1.length:Int))||(!((h.2.2.2.2.2.1.length:Int)==(h.2.2.2.1.length:Int))|| !((h.2.2.2.2.2.2.1.length:Int)==(h.2.2.2.1.length:Int)))))= !(uh h) by unfold uh;simp only[Bool.not_and]];cases hl:uh h;rfl;have hL:=tQ hl;simp only[aj,af,bn];rw[agU (h:=h) (hit:=some false) (fin:=some ((jk h).all (λx=>db x 0 1000000000000)&&fE h.2.2.2.2.2.2.2.2.1 (h.2.2.2.1.length:Int))) hl ?hs ?hf]
 case hs=>
  intro i hi nx
  simp only[xj]
  rw[jI,br hi,br (hL.2.1▸hi),br (hL.2.2.1▸hi),ak (n:=(i:Int)+1)]
  simp only[ah,ab,VE,Cj,xa _ (z.p1 _ (aM _)),bM,cT,Bool.not_and]
  rfl
 case hf=>
  intro nx
  simp only[xj]
  rw[cC]
  simp only[af]
  refine(WX (fin:=some (fE h.2.2.2.2.2.2.2.2.1 (h.2.2.2.1.length:Int))) (hit:=some false) h ?_ ?_).trans ?_
  ·intro i hi nx
   simp only[vu]
   have wL:i<5:=hi
   change (bif decide ((i:Int)<5) then aa (idx (jk h) (i:Int)) _ else _)=_
   rw[jI,br hi,ak (n:=(i:Int)+1),ab,cm]
   rfl
  ·intro nx
   simp only[vu]
   rw[aq (by simp[jk])];rfl
  ·cases (jk h).all (λx=>db x 0 1000000000000)<;>rfl
 cases Zr h<;>cases fE h.2.2.2.2.2.2.2.2.1 (h.2.2.2.1.length:Int)<;>cases (jk h).all (λx=>db x 0 1000000000000)<;>rfl
def Vs (v:Int)(b:Bytes):Bytes:=((dh v++dh (b.length:Int))++b)++dh (ME ((dh v++dh (b.length:Int))++b))
def eC (v:Int)(b:Bytes):Bytes×Bool:=bif db v 0 1000000&&decide (b.length<=84) then(Vs v b,true) else([],false)
theorem QW (v:Int)(b:Bytes)(h:b.length<=10^9):px v b=some (eC v b):=by have l1:=dS v;have l2:=dS (b.length:Int);unfold px eC;rw[ak];simp only[dQ,ab];cases db v 0 1000000 with|false=>rfl|true=>by_cases hb:b.length<=84;have l3:=dS (ME ((dh v++dh (b.length:Int))++b));rw[aq (show¬((b.length:Int)+12>96) by omega),ar hb];simp only[aj,af,ab,bR,ah,mA];rw[aR,aR (by simp only[ai];omega),aer _ (by simp only[ai];omega)];simp only[ab,mA];rw[aR (by simp only[ai];omega)];rfl;rw[ar (show((b.length:Int)+12>96) by omega),aq hb];rfl
theorem ajt (v:Int)(b:Bytes)(h:b.length<=10^9):xl v b=some (eC v b):=by have l1:=dS v;have l2:=dS (b.length:Int);unfold xl eC;rw[ak];simp only[cm,ab];cases db v 0 1000000 with|false=>rfl|true=>by_cases hb:b.length<=84;have l3:=dS (ME ((dh v++dh (b.length:Int))++b));rw[aq (show¬(12+(b.length:Int)>96) by omega),ar hb];simp only[aj,af,ab,bR,ah,wa];rw[aR,aR (by simp only[ai];omega),adS _ (by simp only[ai];omega)];simp only[ab,wa];rw[aR (by simp only[ai];omega)];rfl;rw[ar (show(12+(b.length:Int)>96) by omega),aq hb];rfl
def ahu (s:Bytes)(n:Nat):Int:=bif (eC (dU s 0) ((s.take (8+n)).drop 8)).2&&((eC (dU s 0) ((s.take (8+n)).drop 8)).1==s.take (12+n)) then dU s 0 else-1
def iU (s:Bytes):Int:=if 0<=dU s 4/\dU s 4<=(s.length:Int)-12 then ahu s (dU s 4).toNat else-1
theorem Xv (s:Bytes)(a:Int): -1<=dU s a/\dU s a<=4294967295:=by unfold dU;cases fi s a 4 with|false=>simp only[af];omega|true=>have b0:=eO s a.toNat;have b1:=eO s (a.toNat+1);have b2:=eO s (a.toNat+2);have b3:=eO s (a.toNat+3);simp only[ah];omega
theorem ahv (h:¬n<=84)(hs:n+12<=s.length):ahu s n= -1:=by
 have:(eC (dU s 0) ((s.take (8+n)).drop 8)).2=false:=by unfold eC;rw[aq (by simp only[aJ,aV];omega),fG];rfl
 unfold ahu;rw[this];rfl
theorem aev (s:Bytes)(h:s.length<=10^9:=by omega):nE s=some (iU s):=by
 unfold nE iU;have hg:=Xv s 4;simp only[HH s _ h,dQ,ab];rw[ak (n:=dU s 4+12),ak (n:=8+dU s 4)];generalize dU s 4=n at hg;by_cases hc:0<=n/\n<=(s.length:Int)-12;rw[aI hc];obtain⟨m,rfl⟩:=aD hc.1;by_cases h84:m<=84;have e1:db (m:Int) 0 84=true:=aS.2 (by omega);have e2:sub s 8 (8+(m:Int))=some ((s.take (8+m)).drop 8):=by unfold sub;rw[zip];rfl
 have e3:sub s 0 ((m:Int)+12)=some (s.take (12+m)):=by unfold sub;rw[zip,show((m:Int)+12).toNat=12+m by omega];rfl
 rw[e1,aq (show¬((m:Int)+12>(s.length:Int)) by omega),e2,e3];simp only[aj,af,ab,aw];rw[QW _ _ (by simp only[aJ,aV];omega)];unfold ahu;simp only[ab];cases (eC (dU s 0) ((s.take (8+m)).drop 8)).2<;>cases ((eC (dU s 0) ((s.take (8+m)).drop 8)).1==s.take (12+m))<;>rfl;have e1:db (m:Int) 0 84=false:=by rw[Bool.eq_false_iff,ne_eq,aS];omega
 rw[e1,aw,ahv h84 (by omega)];rfl;rw[aG hc];by_cases hb:db n 0 84=true;have:=aS.1 hb;rw[hb,ar (show n+12>(s.length:Int) by omega)];rfl;have iI:db n 0 84=false:=by simpa using hb
 rw[iI];rfl
theorem Ki (s:Bytes)(h:s.length<=10^9:=by omega):jl s=some (iU s):=by
 unfold jl iU;have hg:=Xv s 4;simp only[yy s _ h,ab];rw[ak (n:=12+dU s 4),ak (n:=8+dU s 4),ak (n:=(s.length:Int)-12)];generalize dU s 4=n at hg;by_cases hc:0<=n/\n<=(s.length:Int)-12;rw[aI hc];obtain⟨m,rfl⟩:=aD hc.1;have e2:sub s 8 (8+(m:Int))=some ((s.take (8+m)).drop 8):=by unfold sub;rw[zip];rfl
 have e3:sub s 0 (12+(m:Int))=some (s.take (12+m)):=by unfold sub;rw[zip,show(12+(m:Int)).toNat=12+m by omega];rfl
 rw[aq (show¬((m:Int)<0) by omega),aq (show¬((m:Int)>(s.length:Int)-12) by omega),e2,e3];simp only[af,ab,aw];rw[ajt _ _ (by simp only[aJ,aV];omega)];unfold ahu;simp only[ab];cases (eC (dU s 0) ((s.take (8+m)).drop 8)).2<;>cases ((eC (dU s 0) ((s.take (8+m)).drop 8)).1==s.take (12+m))<;>rfl;rw[aG hc];by_cases h0:n<0;rw[ar h0];rfl;rw[aq h0,ar (show n>(s.length:Int)-12 by omega)];rfl
def lv (f:bP):Bool:=((f.length:Int)==2)&&((((f.getD 0 []).length:Int)==96)&&(((f.getD 1 []).length:Int)==96))
theorem yw {f:bP}(h:lv f=true):f=[f.getD 0 [],f.getD 1 []]/\(f.getD 0 []).length=96/\(f.getD 1 []).length=96:=by simp only[lv,ae,bg]at h;match f,h with|[a,b],h=>have h1:(a.length:Int)=96:=h.2.1;have h2:(b.length:Int)=96:=h.2.2;exact⟨rfl,by show a.length=96;omega,by show b.length=96;omega⟩
theorem TQ (f:bP):Bl f=some (lv f):=by
 unfold Bl lv;match f with
 |[]=>rfl
 |[a]=>rfl
 |[a,b]=>have i0:idx [a,b] 0=some a:=rfl;have i1:idx [a,b] 1=some b:=rfl;rw[i0,i1];simp only[ab,bM,cF];rfl
 |a::b::c::r=>
  have:(((a::b::c::r).length:Int)==2)=false:=by simp only[aU,cv];omega
  rw[this];rfl
theorem LH (f:bP):xf f=some (lv f):=TQ f
def iH (f:bP):Int:=bif lv f then(if iU (f.getD 0 [])<0/\iU (f.getD 1 [])<0 then-1 else if iU (f.getD 1 [])>iU (f.getD 0 []) then 1 else 0) else-1
theorem aku (f:bP):zC f=some (iH f):=by unfold zC iH;rw[TQ,ab];cases hf:lv f with|false=>rfl|true=>obtain⟨e,l0,l1⟩:=yw hf;generalize f.getD 0 []=a at*;generalize f.getD 1 []=b at*;subst e;have i0:idx [a,b] 0=some a:=rfl;have i1:idx [a,b] 1=some b:=rfl;simp only[aj,af,ah,i0,i1,ab,aev a,aev b];by_cases p:iU a<0<;>by_cases q:iU b<0<;>by_cases r:iU b>iU a<;>simp[p,q,r]
theorem PZ (f:bP):ra f=some (iH f):=by
 unfold ra iH;rw[LH,ab];cases hf:lv f with
 |false=>rfl
 |true=>
  obtain⟨e,l0,l1⟩:=yw hf;generalize f.getD 0 []=a at*;generalize f.getD 1 []=b at*;subst e;have i0:idx [a,b] 0=some a:=rfl;have i1:idx [a,b] 1=some b:=rfl;simp only[aj,af,ah,i0,i1,ab,Ki a,Ki b];by_cases r:iU b>iU a;have r':¬iU a>=iU b:=by omega
  by_cases p:iU a<0<;>by_cases q:iU b<0<;>simp[p,q,r,r'];have r':iU a>=iU b:=by omega
  by_cases p:iU a<0<;>by_cases q:iU b<0<;>simp[p,q,r,r']
def so (c:kY):Bool:=db c.1 0 1125899906842624&&(db c.2.1 0 1048575&&(db c.2.2.1 0 67108864&&db c.2.2.2 0 1099511627776))
theorem TP (c:kY):Bk c=some (so c):=by simp only[Bk,dQ,ab,bM,cF,so]
theorem LF (c:kY):xe c=some (so c):=TP c
def JB (c:cP)(i:Nat):Bool:=(c.1[i]?.all dZ)&&Rt (c.1[i]?.map (·.2.2.2.2.2.2.2.1)) (c.2.2.1[i]?.map (·.1))
def Qj (c:cP):Bool:=((c.1.length:Int)==(c.2.2.1.length:Int))&&((c.2.1.length:Int)==(c.2.2.1.length:Int))
def lK (c:cP):Bool:=(cV c.2.2.1).2&&(Qj c&&(iy c.2.1 (cV c.2.2.1).1&&((!decide (iH c.2.2.2.1<0)&&so c.2.2.2.2.1)&&((range c.1.length).all (JB c)&&(range c.1.length).all (AB c.2.1)))))
structure aaa (c:cP):Prop where
 h0:c.1.length<=10^9
 f0:c.2.1.length<=10^9
 m:∀m∈c.2.2.1,m.1.2.2.length<=10^9
 h1:∀h∈c.1,OH h
theorem HA {c:cP}(h:Qj c=true):c.1.length=c.2.2.1.length/\c.2.1.length=c.2.2.1.length:=by unfold Qj at h;simp only[ae,bg]at h;omega
theorem OY {c:cP}(i:Nat)(hi:i<c.1.length)(hj:i<c.2.2.1.length):JB c i=(dZ c.1[i]&&Rt c.1[i].2.2.2.2.2.2.2.1 c.2.2.1[i].1):=by unfold JB;rw[al hi,al hj];congr 1;apply U1;rw[Hg];simp
theorem Ch (c:cP)(z:aaa c):nj c=some (lK c):=by
 have hp:=Ma c.2.2.1;unfold nj lK;simp only[C9 _ z.m,Ib _ _ z.f0 hp.1 hp.2,abP _ z.f0,PZ,LF,ab,bM,cT,cF,bne];rw[show((!((c.1.length:Int)==(c.2.2.1.length:Int)))|| !((c.2.1.length:Int)==(c.2.2.1.length:Int)))= !(Qj c) by unfold Qj;simp only[Bool.not_and]];cases (cV c.2.2.1).2;rfl;cases hl:Qj c;rfl;have hL:=HA hl;have h0:=z.h0;simp only[aj,cJ,af,bn];have hd:decide (iH c.2.2.2.1>=0)= !decide (iH c.2.2.2.1<0):=by by_cases h:iH c.2.2.2.1<0;rw[ar h,cC];rfl;rw[aq h,jI];rfl
 rw[hd,jr (hit:=some false) (fin:=some (iy c.2.1 (cV c.2.2.1).1&&((range c.2.1.length).all (AB c.2.1)&&(!decide (iH c.2.2.2.1<0)&&so c.2.2.2.2.1)))) (JB c) c.1.length (by omega) (λi nx hi=>?hs) (λnx=>?hf)]
 case hs=>
  have q1:i<c.2.2.1.length:=by omega
  have hm:=aM hi
  rw[OY i hi q1]
  simp only[xd]
  rw[jI,br hi,br q1,ak (n:=(i:Int)+1)]
  simp only[ah,ab,wZ _ (z.h1 _ hm),Vz _ _ (z.h1 _ hm).f1,bM,cT]
  cases dZ c.1[i]<;>cases Rt c.1[i].2.2.2.2.2.2.2.1 c.2.2.1[i].1<;>rfl
 case hf=>
  simp only[xd]
  rw[cC];rfl
 rw[hL.2,<-hL.1];cases (range c.1.length).all (JB c)<;>cases (range c.1.length).all (AB c.2.1)<;>cases iy c.2.1 (cV c.2.2.1).1<;>cases (!decide (iH c.2.2.2.1<0)&&so c.2.2.2.2.1)<;>rfl
def aal (s:Bytes)(i:Nat):Nat:=bO s (i/8)/2^(7-i%8)%2
theorem Up (s:Bytes)(i:Nat):aal s i<2:=Nat.mod_lt _ (by omega)
theorem ahS (b k:Nat)(hb:b<256)(hk:k<=7):au (toNat (ir (au (fdiv (b:Int) ((2^k:Nat):Int)))&&&ir 1))=((b/2^k%2:Nat):Int):=by have e:fdiv (b:Int) ((2^k:Nat):Int)=((b/2^k:Nat):Int):=(Int.ofNat_fdiv b (2^k)).symm;have h1:b/2^k<=b:=Nat.div_le_self _ _;rw[e,iV (n:=b/2^k)];have:=ahN (b/2^k) 1;rw[show((1:Nat):Int)=1 from rfl]at this;rw[this,Nat.and_one_is_mod];exact iV
theorem adQ (s:Bytes)(i:Nat)(hi:i/8<s.length:=by omega)(h:s.length<=10^9:=by omega):Ac s (i:Int)=some ((aal s i:Nat):Int):=by
 have e1:Int.tdiv (i:Int) 8=((i/8:Nat):Int):=(Int.ofNat_tdiv i 8).symm;have e2:tmod (i:Int) 8=((i%8:Nat):Int):=(Int.ofNat_tmod i 8).symm;unfold Ac;rw[nU,e1,ak (n:=((i/8:Nat):Int)),br hi,ab,nU,e2,ak (n:=7-((i%8:Nat):Int)),nU];have e3:(2:Int)^(min (Int.toNat (7-((i%8:Nat):Int))) (IntKind.bits .u8))=((2^(7-i%8):Nat):Int):=by rw[show min (Int.toNat (7-((i%8:Nat):Int))) (IntKind.bits .u8)=7-i%8 from by show min _ 8=_;omega];push_cast;rfl
 rw[e3,ahS _ _ (oe _) (by omega),aal,bO,cu hi]
def win (s:Bytes)(a:Nat):Nat->Nat
 |0=>0
 |j+1=>2*win s a j+aal s (a+j)
theorem ali (s:Bytes)(a:Nat):∀j,win s a j<2^j
 |0=>by simp[win]
 |j+1=>by have:=ali s a j;have:=Up s (a+j);rw[win,Nat.pow_succ];omega
theorem adi (s:Bytes)(a j:Nat)(hj:j<=32:=by omega):win s a j<4294967296:=Nat.lt_of_lt_of_le (ali s a j) (Nat.pow_le_pow_right (n:=2) (by omega) hj)
def amM (s:Bytes)(a:Int):Int:=bif ((s.length:Int) !=16)|| !db a 0 96 then-1 else((win s a.toNat 32:Nat):Int)
theorem al4 (s:Bytes)(a:Int):xk s a=some (amM s a):=by
 unfold xk amM;rw[cm];cases hs:(s.length:Int) !=16;case true=>rfl
 cases ha:db a 0 96;rfl;have h1:=aS.1 ha;have h2:s.length=16:=by simp at hs;omega
 obtain⟨a,rfl⟩:=aD h1.1;simp only[af,ab,aj,cl,aw];refine dE (λi=>(((win s a i:Nat):Int),((a+i:Nat):Int))) 32 (by omega) (λi nx hi=>?_) (λnx=>?_);have hw:=adi s a i;have hb:=Up s (a+i);simp only[rL];rw[ak (n:=(a:Int)+32),jI,ah,nU,adQ s (a+i),ab,ak (n:=((a+i:Nat):Int)+1)];have e1:au (((win s a i:Nat):Int)*2^(nZ 1))=((2^1*win s a i:Nat):Int):=by have:(2:Int)^(nZ 1)=2:=rfl;rw[this,ak];omega
 rw[e1,I9 _ _ _];rw[show(((a+i:Nat):Int)+1)=((a+(i+1):Nat):Int) by omega];rfl;simp only[rL];rw[ak (n:=(a:Int)+32),cC];rfl
def MS (s v:Bytes):Nat->Nat
 |0=>0
 |i+1=>if aal v i=1 then MS s v i^^^win s i 32 else MS s v i
theorem XI (s v:Bytes):∀i,MS s v i<4294967296
 |0=>by simp[MS]
 |i+1=>by have:=XI s v i;rw[MS];split;exact Fq this (adi s i 32);exact this
def Cc (s v:Bytes):Int:=bif ((s.length:Int) !=16)||decide ((v.length:Int)>12) then-1 else((MS s v (8*v.length):Nat):Int)
theorem ajn (s v:Bytes):xg s v=some (Cc s v):=by
 unfold xg Cc;cases hs:(s.length:Int) !=16;case true=>rfl
 cases hv:decide ((v.length:Int)>12);case true=>rfl
 have h2:s.length=16:=by simp at hs;omega
 have h3:v.length<=12:=by simp at hv;omega
 simp only[af,ab,cl];refine dE (λi=>(((MS s v i:Nat):Int),(i:Int))) (8*v.length) (by omega) (λi nx hi=>?_) (λnx=>?_);have hw:=adi s i 32;have hh:=XI s v i;have hb:=Up v i;have eW:amM s (i:Int)=((win s i 32:Nat):Int):=by unfold amM;rw[hs,aS.2 (show(0:Int)<=(i:Int)/\(i:Int)<=96 by omega)];rfl
 simp only[rH];rw[ak (n:=8*(v.length:Int)),jI,ah,adQ v i,ab,al4,ab,eW,aln _ _ (by omega) (by omega),ak (n:=(i:Int)+1),iV (Nat.lt_trans (Fq hh hw) (by omega)),MS];by_cases h1:aal v i=1;rw[h1,aI rfl];rfl;rw[aG h1,show(((aal v i:Nat):Int)==1)=false from by simp;omega];rfl;simp only[rH];rw[ak (n:=8*(v.length:Int)),cC];rfl
def wW (f:Jn):Bytes:=((dh f.2.1++dh f.2.2.1)++aW f.2.2.2.1)++aW f.2.2.2.2
theorem abM (f:Jn):xh f=some (wW f):=by have:=dS f.2.1;have:=dS f.2.2.1;have:=bT f.2.2.2.1;have:=bT f.2.2.2.2;simp only[xh,wa,mh,ab];rw[aR,aR (by simp only[ai];omega),aR (by simp only[ai];omega)];rfl
theorem J7 (s:Bytes)(f:Jn):uK s f=some (Cc s (wW f)):=by simp only[uK,abM,ajn,ab]
def EJ (s:ur)(f:Jn):Int:=bif ((s.2.length:Int)==0)||decide (Cc s.1 (wW f)<0) then-1 else tmod (Cc s.1 (wW f)) (s.2.length:Int)
theorem afF (s:ur)(f:Jn):Bc s f=some (EJ s f):=by
 unfold Bc EJ;rw[J7,ab];cases h0:(s.2.length:Int)==0;case true=>rfl
 cases decide (Cc s.1 (wW f)<0);case true=>rfl
 simp only[af,ab,cl];rw[aG (by simpa using h0)]
theorem SF (s:ur)(f:Jn)(h:¬EJ s f<0):∃n:Nat,EJ s f=(n:Int)/\n<s.2.length:=by
 unfold EJ at h⊢;cases hc:((s.2.length:Int)==0)||decide (Cc s.1 (wW f)<0)with
 |true=>rw[hc]at h;simp at h
 |false=>
  rw[hc]at h;simp only[cn,cv,cL]at hc;simp only[af]at h⊢;have h1:0<=Cc s.1 (wW f):=by omega
  rw[dK h1]at h⊢;have:=fL (Cc s.1 (wW f)) (show(0:Int)<s.2.length by omega);obtain⟨n,hn⟩:=aD (show 0<=Cc s.1 (wW f)%(s.2.length:Int) by omega);exact⟨n,hn,by omega⟩
def Oy (s:ur)(q:Int)(f:Jn):Int:=bif !ue s q||decide (EJ s f<0) then-1 else s.2.getD (EJ s f).toNat 0
theorem Yf (s:ur)(q:Int)(f:Jn)(h:s.2.length<=10^9):tD s q f=some (Oy s q f):=by
 unfold tD Oy;rw[afF,ab,P7 s q h,ab];cases ue s q;rfl;have uB:=SF s f;cases hd:decide (EJ s f<0);case true=>rfl
 obtain⟨n,hn,hl⟩:=uB (dN hd);simp only[aj,af,ab,cl,hn,br hl,aw,cu hl]
theorem Uc (t:ax Slot)(f:Jn)(h:∀j,j<8->qV (gT t j) f=false):∀n k,walk t f n k= -1
 |0,_=>rfl
 |n+1,k=>by unfold walk;rw[h _ (Lg f k),Uc t f h n (k+1)];split<;>rfl
theorem MH (f:Jn):∀(t:ax Slot)(m:Int),(∀s∈t,qV s f=false)->Au f t m= -1
 |[],_,_=>rfl
 |s::r,m,h=>by unfold Au;rw[h s (by simp)];exact MH f r (m+1) (λx hx=>h x (by simp[hx]))
theorem abk (t:ax Slot)(f:Jn)(h:uz t=true):Au f t 0=walk t f 8 0:=by simp only[uz,ae,bg,aF,bB]at h;obtain⟨h8,hs⟩:=h;by_cases hex:∃j,j<t.length/\qV (gT t j) f=true;obtain⟨j,hj,hu,e⟩:=Gb f t 0 hex;have:=hs j (by omega);simp only[po,ae,cY,aN,bg]at this;simp only[qV,ae,bg,aE]at hu;rcases this.2 with g|g;rw[hu.1]at g;simp at g;rw[hu.2]at g;rw[show((0:Int))=((0:Nat):Int) from rfl,e,g];omega;have hn:∀j,j<t.length->qV (gT t j) f=false:=λj hj=>Bool.eq_false_iff.2 λhu=>hex ⟨j,hj,hu⟩;rw[Uc t f (λj hj=>hn j (by omega)),MH];intro s yp;obtain⟨j,hj,rfl⟩:=List.getElem_of_mem yp;have:=hn j hj;rwa[yG hj]at this
def findF (t:ax Slot)(f:Jn):Int:=bif uz t then walk t f 8 0 else-1
theorem VA (t:ax Slot)(f:Jn)(h:t.length<=10^9):yY t f=some (findF t f):=by unfold yY findF;rw[Tg,ab];cases ht:uz t;rfl;simp only[aj,af,ah,Ye t f h,ab,abk t f ht]
theorem aeK (t:ax Slot)(f:Jn):∀n k,walk t f n k= -1\/∃m:Nat,walk t f n k=(m:Int)/\m<8
 |0,_=> .inl rfl
 |n+1,k=>by unfold walk;split;exact .inl rfl;split;exact .inr ⟨_,rfl,Lg f k⟩;exact aeK t f n (k+1)
theorem Xg (t:ax Slot)(f:Jn)(h:findF t f>=0):∃m:Nat,findF t f=(m:Int)/\m<t.length:=by
 unfold findF at h⊢;cases ht:uz t with
 |false=>rw[ht]at h;simp at h
 |true=>
  rw[ht]at h;simp only[ah]at h⊢;have h8:t.length=8:=by simp only[uz,ae,bg]at ht;exact ht.1
  rcases aeK t f 8 0 with g|⟨m,g,hm⟩;omega;exact⟨m,g,by omega⟩
def wP (f:Filter)(p:aK):Bool:=fj f&&(((p.1==f.1)||((p.1==281474976710655)||f.2.1))&&((p.2.2.1== -1)||hasB f.2.2 p.2.2.1))
theorem XX (f:Filter)(p:aK)(h:f.2.2.length<=10^9):AY f p=some (wP f p):=by simp only[AY,sC f h,AX f.2.2 _ h,ab,wP];cases fj f<;>cases p.1==f.1<;>cases p.1==281474976710655<;>cases f.2.1<;>cases p.2.2.1== -1<;>rfl
def preB (a b n:Int):Bool:=fdiv a (2^(min (Int.toNat (au (32-n))) (IntKind.bits .i64)))==fdiv b (2^(min (Int.toNat (au (32-n))) (IntKind.bits .i64)))
theorem agV {r:nK}(h:Di r=true):0<=r.2.2.2.1/\r.2.2.2.1<=32:=by rw[<-aS];unfold Di at h;simp only[nH,dQ,ab,bM]at h;cases hp:db r.2.2.2.1 0 32 with|true=>rfl|false=>rw[hp]at h;revert h;cases db r.1 0 1000<;>cases r.2.1 !=0<;>cases r.2.1 !=6<;>cases r.2.1 !=17<;>cases db r.2.2.1 0 4294967295<;>simp
def amW (r:nK)(p:aK):Bool:=preB r.2.2.1 p.2.2.2.2.2.2.1 r.2.2.2.1&&(db p.2.2.2.2.2.2.2.2.2.2.1 r.2.2.2.2.1 r.2.2.2.2.2.1&&((r.2.2.2.2.2.2.1== -2)||(r.2.2.2.2.2.2.1==p.2.2.1)))
def LZ (r:nK)(p:aK):Bool:=Di r&&(dv p&&(((r.2.1==0)||(r.2.1==p.2.2.2.2.2.2.2.2.1))&&amW r p))
theorem al1 (a b n:Int)(h0:0<=n)(h1:n<=32):qJ a b n=some (preB a b n):=by unfold qJ preB;rw[aG (by rw[ak (n:=32-n)];omega),aG (by rw[ak (n:=32-n)];omega)]
theorem afL (r:nK)(p:aK):tB r p=some (LZ r p):=by unfold tB LZ;rw[ajy,ab];cases hr:Di r;rfl;have hp:=agV hr;simp only[mS,al1 _ _ _ hp.1 hp.2,cm,ab,amW];cases dv p<;>cases r.2.1==0<;>cases r.2.1==p.2.2.2.2.2.2.2.2.1<;>cases preB r.2.2.1 p.2.2.2.2.2.2.1 r.2.2.2.1<;>cases db p.2.2.2.2.2.2.2.2.2.2.1 r.2.2.2.2.1 r.2.2.2.2.2.1<;>cases r.2.2.2.2.2.2.1== -2<;>rfl
def Nm:nK:=(0,0,0,0,0,0,0,0,0)
def B0 (l:ax nK)(p:aK):Nat->Int
 |0=> -1
 |i+1=>bif LZ (l.getD i Nm) p&&(decide (B0 l p i<0)||decide ((l.getD i Nm).1<(l.getD (B0 l p i).toNat Nm).1)) then(i:Int) else B0 l p i
theorem OP (l:ax nK)(p:aK):∀i,B0 l p i= -1\/∃n:Nat,B0 l p i=(n:Int)/\n<i
 |0=> .inl rfl
 |i+1=>by rw[B0];cases LZ (l.getD i Nm) p&&(decide (B0 l p i<0)||decide ((l.getD i Nm).1<(l.getD (B0 l p i).toNat Nm).1))with|true=>exact .inr ⟨i,rfl,by omega⟩|false=>rcases OP l p i with h|⟨n,h,hn⟩;exact .inl h;exact .inr ⟨n,h,by omega⟩
theorem aeY (l:ax nK)(p:aK)(i:Nat)(hi:i<l.length)(nx:Int×Int->az R): (aa (cond (LZ l[i] p) (cond (decide (B0 l p i<0)) (some true) (aa (idx l (B0 l p i)) λx4=>some (decide (l[i].1<x4.1)))) (some false)) λq5=>cond q5 (nx ((i:Int),((i+1:Nat):Int))) (nx (B0 l p i,((i+1:Nat):Int))))=nx (B0 l p (i+1),((i+1:Nat):Int)):=by
 rw[B0,cu hi];cases LZ l[i] p;rfl;rcases OP l p i with h|⟨n,h,hn⟩;rw[h];rfl;have hl:n<l.length:=by omega
 rw[h,aq (show¬(n:Int)<0 by omega),br hl];simp only[ah,af,ab,aw,cu hl,bn,cJ];cases decide (l[i].1<l[n].1)<;>rfl
def HY (l:ax nK)(p:aK):Int:=bif AD l then B0 l p l.length else-1
theorem Xh (l:ax nK)(p:aK)(h:HY l p>=0):∃n:Nat,HY l p=(n:Int)/\n<l.length:=by unfold HY at h⊢;cases hr:AD l with|false=>rw[hr]at h;simp at h|true=>rw[hr]at h;simp only[ah]at h⊢;rcases OP l p l.length with g|g;omega;exact g
theorem afI (l:ax nK)(p:aK)(h:l.length<=10^9):yZ l p=some (HY l p):=by unfold yZ HY;rw[Tc l h,ab];cases AD l;rfl;simp only[aj,af,ah];refine dE (λi=>(B0 l p i,(i:Int))) l.length (by omega) (λi nx hi=>?_) (λnx=>?_);simp only[tr];rw[jI,br hi,ak (n:=(i:Int)+1)];simp only[ah,ab,afL];exact aeY l p i hi nx;simp only[tr];rw[cC];rfl
def nL (p:aK):Jn:=(p.2.2.2.2.2.2.2.2.1,p.2.2.2.2.2.2.1,p.2.2.2.2.2.2.2.1,p.2.2.2.2.2.2.2.2.2.1,p.2.2.2.2.2.2.2.2.2.2.1)
theorem P2 (p:aK):wA p=some (nL p):=rfl
def ark:Slot:=(0,(0,0,0,0,0),0)
def rr (s:dT)(q:Int)(p:aK):Int:=
 bif !fE s q|| !dv p then-1 else
 bif decide (HY s.1 p>=0) then(bif (s.1.getD (HY s.1 p).toNat Nm).2.2.2.2.2.2.2.1==1 then-1 else(s.1.getD (HY s.1 p).toNat Nm).2.2.2.2.2.2.2.2) else
 bif decide (findF s.2.1 (nL p)>=0) then(s.2.1.getD (findF s.2.1 (nL p)).toNat ark).2.2 else Oy s.2.2 q (nL p)
theorem afU (s:dT)(q:Int)(p:aK)(h1:s.1.length<=10^9)(h2:s.2.1.length<=10^9)(h3:s.2.2.2.length<=10^9):tE s q p=some (rr s q p):=by
 unfold tE rr;rw[Ke s q h1 h2 h3,ab,mS,ab];cases fE s q;rfl;cases dv p;rfl;simp only[aj,af,ab,cl,afI s.1 p h1,P2,VA s.2.1 _ h2,Yf s.2.2 q _ h3];cases hd:decide (HY s.1 p>=0)with
 |true=>obtain⟨n,hn,hl⟩:=Xh s.1 p (bu hd);simp only[ah,hn,br hl,ab,aw,cu hl];cases s.1[n].2.2.2.2.2.2.2.1==1<;>rfl
 |false=>
  simp only[af];cases Wv:decide (findF s.2.1 (nL p)>=0)with
  |true=>obtain⟨n,hn,hl⟩:=Xg s.2.1 (nL p) (bu Wv);simp only[ah,hn,br hl,ab,aw,cu hl]
  |false=>rfl
def aeU (a b:Int):Int:=(nD a b).getD 0
theorem Ow (a b:Int):nD a b=some (aeU a b):=by
 unfold aeU;have:∃x,nD a b=some x:=by simp only[nD,dQ,ab];cases db a 0 65535<;>cases db b 0 65535<;>cases decide (au (a+b)>65535)<;>exact⟨_,rfl⟩
 obtain⟨x,hx⟩:=this;rw[hx];rfl
theorem XY (a b:Int):AZ a b=some (aeU a b):=Ow a b
theorem alx {b:Int}(h:0<=a/\a<=65535)(k:0<=b/\b<=65535):0<=aeU a b/\aeU a b<=65535:=by have e:=Ow a b;simp only[nD,dQ,ab,aS.2 h,aS.2 k,aj,af]at e;rw[ak (n:=a+b)]at e;by_cases hc:a+b>65535;rw[ar hc,ah,ak]at e;rw[<-bN e];omega;rw[aq hc,af]at e;rw[<-bN e];omega
def sw (s:Bytes):Nat->Int
 |0=>0
 |j+1=>aeU (sw s j) ((bO s (2*j)*256+bO s (2*j+1):Nat):Int)
theorem aeA (s:Bytes):∀j,0<=sw s j/\sw s j<=65535
 |0=>by simp[sw]
 |j+1=>by have b0:=eO s (2*j);have b1:=eO s (2*j+1);exact alx (aeA s j) (by omega)
theorem IH (h:s.length<=i:=by omega):bO s i=0:=by unfold bO;rw[bG,bI h];rfl
theorem amz (s:Bytes)(h:s.length<=10^9):zM s=some (sw s ((s.length+1)/2)):=by
 unfold zM;refine dE (λj=>(sw s j,((2*j:Nat):Int))) ((s.length+1)/2) (by omega) (λj nx hj=>?_) (λnx=>?_);have b0:=eO s (2*j);have b1:=eO s (2*j+1);obtain⟨x,hx,ex⟩:=ni (s:=s) (i:=2*j);simp only[tZ];rw[jI,ah,hx,ab,nU,ak (n:=((2*j:Nat):Int)+1),ak (n:=((2*j:Nat):Int)+2),ex,iV];have e8:nZ 8=8:=rfl;have en:((2*j:Nat):Int)+2=((2*(j+1):Nat):Int):=by omega
 rw[e8,ak (n:=((bO s (2*j):Nat):Int)*2^8)];by_cases hc:2*j+1<s.length;obtain⟨y,hy,ey⟩:=ni (s:=s) (i:=2*j+1) hc;rw[jI,ah,show((2*j:Nat):Int)+1=((2*j+1:Nat):Int) by omega,hy,ab,ey,iV (n:=bO s (2*j+1)),ak,Ow,ab,en,show((bO s (2*j):Nat):Int)*2^8+((bO s (2*j+1):Nat):Int)=((bO s (2*j)*256+bO s (2*j+1):Nat):Int) by omega];rfl;have hz:=IH (s:=s) (i:=2*j+1);rw[cC,af,Ow,ab,en,show((bO s (2*j):Nat):Int)*2^8=((bO s (2*j)*256+bO s (2*j+1):Nat):Int) by rw[hz];omega];rfl;simp only[tZ];rw[cC];rfl
theorem al2 (s:Bytes)(h:s.length<=10^9):zv s=some (sw s ((s.length+1)/2)):=by
 unfold zv;refine dE (λj=>(sw s j,((2*j:Nat):Int))) ((s.length+1)/2) (by omega) (λj nx hj=>?_) (λnx=>?_);have b0:=eO s (2*j);have b1:=eO s (2*j+1);obtain⟨x,hx,ex⟩:=ni (s:=s) (i:=2*j);simp only[tG];rw[jI,ah,hx,ab,nU,ak (n:=((2*j:Nat):Int)+1),ak (n:=((2*j:Nat):Int)+2),ex,iV];have e8:nZ 8=8:=rfl;have en:((2*j:Nat):Int)+2=((2*(j+1):Nat):Int):=by omega
 rw[e8,show((bO s (2*j):Nat):Int)*2^8=((2^8*bO s (2*j):Nat):Int) by omega,iV (n:=2^8*bO s (2*j))];by_cases hc:2*j+1<s.length;obtain⟨y,hy,ey⟩:=ni (s:=s) (i:=2*j+1) hc;rw[jI,ah,show((2*j:Nat):Int)+1=((2*j+1:Nat):Int) by omega,hy,ab,ey,iV (n:=bO s (2*j+1)),I9 (bO s (2*j)) 8 (bO s (2*j+1)),XY,ab,en,show 2^8*bO s (2*j)+bO s (2*j+1)=bO s (2*j)*256+bO s (2*j+1) by omega];rfl;have hz:=IH (s:=s) (i:=2*j+1);rw[cC,af,XY,ab,en,show((2^8*bO s (2*j):Nat):Int)=((bO s (2*j)*256+bO s (2*j+1):Nat):Int) by rw[hz];omega];rfl;simp only[tG];rw[cC];rfl
def NT (s:Bytes):Int:=65535-sw s ((s.length+1)/2)
theorem V7 (s:Bytes)(h:s.length<=10^9):ri s=some (NT s):=by have:=aeA s ((s.length+1)/2);simp only[ri,amz s h,ab];rw[ak];rfl
theorem Oq (s:Bytes)(h:s.length<=10^9):kf s=some (NT s):=by have:=aeA s ((s.length+1)/2);simp only[kf,al2 s h,ab];rw[ak];rfl
def xK (s:Bytes)(a:Int)(p:Bytes):Bytes:=bif fi s a (p.length:Int) then(s.take a.toNat++p)++s.drop (a.toNat+p.length) else s
theorem Cw (s:Bytes)(a:Int)(p:Bytes):(xK s a p).length=s.length:=by unfold xK;cases hw:fi s a (p.length:Int)with|false=>rfl|true=>simp only[fi,aE]at hw;simp only[ah,ai,aV,aJ];omega
theorem Zm (s:Bytes)(a:Int)(p:Bytes)(h:s.length<=10^9)(hw:fi s a (p.length:Int)=true): (aa (sub s 0 a) λx2=>room (List.length x2+List.length p) (aa (sub s (au (a+((List.length p:Int)))) ((List.length s:Int))) λx3=>room (List.length (x2++p)+List.length x3) (some ((x2++p)++x3))))=some (xK s a p):=by
 have hw':=hw;simp only[fi,aE]at hw';obtain⟨n,rfl⟩:=aD hw'.1;have e1:sub s 0 (n:Int)=some (s.take n):=by unfold sub;rw[zip];rfl
 have e2:sub s (((n+p.length:Nat):Int)) (s.length:Int)=some (s.drop (n+p.length)):=by unfold sub;rw[zip,aw,aw,cE]
 rw[e1,ak,show(n:Int)+(p.length:Int)=((n+p.length:Nat):Int) by omega,e2,ab,aR (by simp only[aV];omega),ab,aR (by simp only[ai,aV,aJ];omega)];unfold xK;rw[hw];rfl
theorem Ox (s:Bytes)(a:Int)(p:Bytes)(h:s.length<=10^9:=by omega):km s a p=some (xK s a p):=by unfold km;rw[GS s a _ h,ab];cases hw:fi s a (p.length:Int)with|false=>simp only[bt,ah,xK,hw,af]|true=>exact Zm s a p h hw
theorem EU (s:Bytes)(a:Int)(p:Bytes)(h:s.length<=10^9:=by omega)(hp:p.length<=10^9:=by omega):gB s a p=some (xK s a p):=by
 unfold gB;rw[ak (n:=(s.length:Int)-(p.length:Int))];cases hw:fi s a (p.length:Int)with
 |true=>have hw':=hw;simp only[fi,aE]at hw';rw[aq (show¬a<0 by omega),aq (show¬a>(s.length:Int)-(p.length:Int) by omega)];exact Zm s a p h hw
 |false=>
  have hp:xK s a p=s:=by unfold xK;rw[hw];rfl
  rw[hp];simp only[fi,cL]at hw;by_cases h0:a<0;rw[ar h0];rfl;rw[aq h0,ar (show a>(s.length:Int)-(p.length:Int) by omega)];rfl
def bs2 (x y:Int):Bytes:=aO [x,y]
theorem Ur (x y:Int):(bs2 x y).length=2:=rfl
def zx (a b k n:Int):Bool:=db a 0 4294967295&&(db b 0 4294967295&&(db k 0 255&&db n 0 65535))
def xI (a b k n:Int):Bytes:=((dh a++dh b)++bs2 0 (gF k))++aW n
theorem Mc (a b k n:Int):(xI a b k n).length<=12:=by have:=dS a;have:=dS b;have:=bT n;simp only[xI,ai,Ur];omega
theorem Je (a b k n:Int):nG a b k n=some (bif zx a b k n then(xI a b k n,true) else([],false)):=by have:=dS a;have:=dS b;have:=bT n;unfold nG zx;simp only[dQ,ab,mA,nQ];cases db a 0 4294967295;rfl;cases db b 0 4294967295;rfl;cases db k 0 255;rfl;cases db n 0 65535;rfl;simp only[aj,af,bR,ah,ab];have e:(aO [0,gF k]).length=2:=rfl;rw[aR,aR (by simp only[ai,e];omega),aR (by simp only[ai,e];omega)];rfl
theorem P6 (a b k n:Int):rN a b k n=some (bif zx a b k n then(xI a b k n,true) else([],false)):=Je a b k n
def bare (g:eX):Bytes:=bif g.1==6 then
    (((((aW g.2.1++aW g.2.2.1)++dh g.2.2.2.1)++dh g.2.2.2.2.1)++bs2 80 (gF g.2.2.2.2.2.1))++aW g.2.2.2.2.2.2.1)++dh 0++g.2.2.2.2.2.2.2
 else(((aW g.2.1++aW g.2.2.1)++aW (8+(g.2.2.2.2.2.2.2.length:Int)))++aW 0)++g.2.2.2.2.2.2.2
theorem Oc (g:eX):(bare g).length<=20+g.2.2.2.2.2.2.2.length:=by have:=bT g.2.1;have:=bT g.2.2.1;have:=dS g.2.2.2.1;have:=dS g.2.2.2.2.1;have:=bT g.2.2.2.2.2.2.1;have:=dS 0;have:=bT 0;have:=bT (8+(g.2.2.2.2.2.2.2.length:Int));unfold bare;cases g.1==6<;>simp only[ah,af,ai,Ur]<;>omega
theorem Ue:aW 0++aW 0=dh 0:=by rfl
theorem ajk (g:eX)(h:g.2.2.2.2.2.2.2.length<=1000000):tM g=some (bare g):=by have:=bT g.2.1;have:=bT g.2.2.1;have:=dS g.2.2.2.1;have:=dS g.2.2.2.2.1;have:=bT g.2.2.2.2.2.2.1;have:=bT 0;have:=bT (8+(g.2.2.2.2.2.2.2.length:Int));have e:∀x,(aO [80,gF x]).length=2:=λ_=>rfl;unfold tM bare;rw[ak (n:=8+(g.2.2.2.2.2.2.2.length:Int))];simp only[mh,wa,ab];rw[aR];cases g.1==6 with|true=>simp only[ah];rw[aR (by simp only[ai,e];omega),aR (by simp only[ai,e];omega),aR (by simp only[ai,e];omega),aR (by simp only[ai,e];omega),aR (by simp only[ai,e];omega),aR (by simp only[ai,e];omega),aR (by simp only[ai,e];omega)];rw[<-Ue];simp only[bs2,aL]|false=>simp only[af];rw[aR (by simp only[ai];omega),aR (by simp only[ai];omega),aR (by simp only[ai];omega)]
def T4 (a b:Int)(g:eX):Int:=bif (NT (xI a b g.1 ((bare g).length:Int)++bare g)==0)&&(g.1==17) then 65535 else NT (xI a b g.1 ((bare g).length:Int)++bare g)
def Dj (a b:Int)(g:eX):Bytes:=xK (bare g) (bif g.1==6 then 16 else 6) (aW (T4 a b g))
def Fa (a b:Int)(g:eX):Bool:=sT g&&zx a b g.1 ((bare g).length:Int)
def AE (a b:Int)(g:eX):Bytes×Bool:=bif Fa a b g then(Dj a b g,true) else([],false)
theorem Eu {g:eX}(h:sT g=true):g.2.2.2.2.2.2.2.length<=320:=by simp only[sT,ae,aN,cL]at h;omega
theorem GR (a b:Int)(g:eX):kM a b g=some (AE a b g):=by
 unfold kM AE Fa;rw[aeu,ab];cases hg:sT g;rfl;have hb:=Eu hg;have hl:=Oc g;have hp:=Mc a b g.1 ((bare g).length:Int);have:=bT g.2.1;have:=bT g.2.2.1;have:=dS g.2.2.2.1;have:=dS g.2.2.2.2.1;have:=bT g.2.2.2.2.2.2.1;have:=dS 0;have:=bT 0;have:=bT (8+(g.2.2.2.2.2.2.2.length:Int));have e:∀x,(aO [80,gF x]).length=2:=λ_=>rfl;rw[ak (n:=8+(g.2.2.2.2.2.2.2.length:Int))];simp only[nQ,mA,ab,aj,af,bn];rw[aR];cases h6:g.1==6 with
 |true=>
  have ai0:bare g=(((((aW g.2.1++aW g.2.2.1)++dh g.2.2.2.1)++dh g.2.2.2.2.1)++aO [80,gF g.2.2.2.2.2.1])++aW g.2.2.2.2.2.2.1)++dh 0++g.2.2.2.2.2.2.2:=by unfold bare;rw[h6];rfl
  simp only[ah];rw[aR (by simp only[ai,e];omega),aR (by simp only[ai,e];omega),aR (by simp only[ai,e];omega),aR (by simp only[ai,e];omega),aR (by simp only[ai,e];omega),aR (by simp only[ai,e];omega),<-ai0,Je,ab];cases zx a b g.1 ((bare g).length:Int);rfl;simp only[ah,aj,af];rw[aR,V7 _ (by simp only[ai];omega)];simp only[ab,bM,Ox _ _ _ (show(bare g).length<=10^9 by omega),Dj,T4,h6,ah,cF];cases (NT (xI a b g.1 ((bare g).length:Int)++bare g)==0)&&(g.1==17)<;>rfl
 |false=>
  have ai0:bare g=(((aW g.2.1++aW g.2.2.1)++aW (8+(g.2.2.2.2.2.2.2.length:Int)))++aW 0)++g.2.2.2.2.2.2.2:=by unfold bare;rw[h6];rfl
  simp only[af];rw[aR (by simp only[ai];omega),aR (by simp only[ai];omega),aR (by simp only[ai];omega),<-ai0,Je,ab];cases zx a b g.1 ((bare g).length:Int);rfl;simp only[ah,aj,af];rw[aR,V7 _ (by simp only[ai];omega)];simp only[ab,bM,Ox _ _ _ (show(bare g).length<=10^9 by omega),Dj,T4,h6,af,cF];cases (NT (xI a b g.1 ((bare g).length:Int)++bare g)==0)&&(g.1==17)<;>rfl
theorem Gu (a b:Int)(g:eX):kF a b g=some (AE a b g):=by
 unfold kF AE Fa;rw[adV,ab];cases hg:sT g;rfl;have hb:=Eu hg;have hl:=Oc g;have hp:=Mc a b g.1 ((bare g).length:Int);have LB:gi g.1=some (bif g.1==6 then 16 else 6):=by unfold gi;rw[bM]
 have w1:=bT 65535;have w2:=bT (NT (xI a b g.1 ((bare g).length:Int)++bare g));simp only[ajk g (by omega),P6,ab,aj,af,bn];cases zx a b g.1 ((bare g).length:Int);rfl;simp only[ah,aj,af];rw[aR,Oq _ (by simp only[ai];omega)];simp only[ab,bM,LB,mh,EU _ _ _ (show(bare g).length<=10^9 by omega) (show(aW 65535).length<=10^9 by omega),EU _ _ _ (show(bare g).length<=10^9 by omega) (show(aW (NT (xI a b g.1 ((bare g).length:Int)++bare g))).length<=10^9 by omega),Dj,T4,cF];rw[Bool.and_comm];cases (NT (xI a b g.1 ((bare g).length:Int)++bare g)==0)&&(g.1==17)<;>rfl
theorem aem (a b:Int)(g:eX):(AE a b g).1.length<=340:=by unfold AE;cases h:Fa a b g with|false=>exact cg _|true=>simp only[Fa,ae]at h;have:=Eu h.1;have:=Oc g;show(xK _ _ _).length<=340;rw[Cw];omega
def VG (d:Ip):Bool:=db d.1 0 255&&(db d.2.2.1 0 255&&(db d.2.2.2.1 0 255&&(db d.2.1 0 65535&&(db d.2.2.2.2.1 0 4294967295&&(db d.2.2.2.2.2.1 0 4294967295&&decide ((d.2.2.2.2.2.2.length:Int)<=380))))))
theorem ZF (d:Ip):HI d=some (VG d):=by simp only[HI,dQ,ab,bM,cF,VG]
theorem ajr (d:Ip):LN d=some (VG d):=ZF d
def Ko (d:Ip):Bytes:=((((((bs2 69 (gF d.1)++aW (20+(d.2.2.2.2.2.2.length:Int)))++aW d.2.1)++aW 16384)++bs2 (gF d.2.2.1) (gF d.2.2.2.1))++aW 0)++dh d.2.2.2.2.1)++dh d.2.2.2.2.2.1
theorem Qb (d:Ip):(Ko d).length<=20:=by have:=bT (20+(d.2.2.2.2.2.2.length:Int));have:=bT d.2.1;have:=bT 16384;have:=bT 0;have:=dS d.2.2.2.2.1;have:=dS d.2.2.2.2.2.1;simp only[Ko,ai,Ur];omega
def AA (d:Ip):Bytes:=xK (Ko d) 10 (aW (NT (Ko d)))
theorem acZ (d:Ip):zJ d=some (bif VG d then(AA d,true) else([],false)):=by
 unfold zJ;rw[ZF,ab];cases hd:VG d;rfl;have hn:(d.2.2.2.2.2.2.length:Int)<=380:=by simp only[VG,ae,aE]at hd;omega
 have:=bT (20+(d.2.2.2.2.2.2.length:Int));have:=bT d.2.1;have:=bT 16384;have:=bT 0;have:=dS d.2.2.2.2.1;have:=dS d.2.2.2.2.2.1;have hl:=Qb d;have e:∀x y,(aO [x,y]).length=2:=λ_ _=>rfl;rw[ak (n:=20+(d.2.2.2.2.2.2.length:Int))];simp only[nQ,mA,ab,aj,af,ah];rw[aR (by simp only[ai,e];omega),aR (by simp only[ai,e];omega),aR (by simp only[ai,e];omega),aR (by simp only[ai,e];omega),aR (by simp only[ai,e];omega),aR (by simp only[ai,e];omega),aR (by simp only[ai,e];omega)];have hp:((((((aO [69,gF d.1]++aW (20+(d.2.2.2.2.2.2.length:Int)))++aW d.2.1)++aW 16384)++aO [gF d.2.2.1,gF d.2.2.2.1])++aW 0)++dh d.2.2.2.2.1)++dh d.2.2.2.2.2.1=Ko d:=rfl;rw[hp,V7 _ (by omega),ab,Ox _ _ _];rfl
theorem abN (d:Ip):ze d=some (bif VG d then(AA d,true) else([],false)):=by
 unfold ze;rw[ajr,ab];cases hd:VG d;rfl;have hn:(d.2.2.2.2.2.2.length:Int)<=380:=by simp only[VG,ae,aE]at hd;omega
 have:=bT (20+(d.2.2.2.2.2.2.length:Int));have:=bT d.2.1;have:=bT 16384;have:=bT 0;have:=dS d.2.2.2.2.1;have:=dS d.2.2.2.2.2.1;have hl:=Qb d;have hw:=bT (NT (Ko d));have e:∀x y,(aO [x,y]).length=2:=λ_ _=>rfl;rw[ak (n:=20+(d.2.2.2.2.2.2.length:Int))];simp only[mh,wa,ab,aj,af,ah];rw[aR (by simp only[ai,e];omega),aR (by simp only[ai,e];omega),aR (by simp only[ai,e];omega),aR (by simp only[ai,e];omega),aR (by simp only[ai,e];omega),aR (by simp only[ai,e];omega),aR (by simp only[ai,e];omega)];have hp:((((((aO [69,gF d.1]++aW (20+(d.2.2.2.2.2.2.length:Int)))++aW d.2.1)++aW 16384)++aO [gF d.2.2.1,gF d.2.2.2.1])++aW 0)++dh d.2.2.2.2.1)++dh d.2.2.2.2.2.1=Ko d:=rfl;rw[hp,Oq _ (by omega),ab,EU _ _ _];rfl
def R2 (d:Ip):Bytes×Bool:=bif VG d then(AA d++d.2.2.2.2.2.2,true) else([],false)
theorem LQ (d:Ip):(AA d).length<=20:=by unfold AA;rw[Cw];exact Qb d
theorem akA (d:Ip):xO d=some (R2 d):=by
 unfold xO R2;rw[acZ,ab];cases hd:VG d;rfl;have hn:(d.2.2.2.2.2.2.length:Int)<=380:=by simp only[VG,ae,aE]at hd;omega
 have:=LQ d;simp only[ah,aj,af];rw[aR]
theorem ajq (d:Ip):xb d=some (R2 d):=by
 unfold xb R2;rw[abN,ab];cases hd:VG d;rfl;have hn:(d.2.2.2.2.2.2.length:Int)<=380:=by simp only[VG,ae,aE]at hd;omega
 have:=LQ d;simp only[ah,aj,af];rw[aR]
def yr (n:Nat):Bytes:=aO (List.replicate n (0:Int))
theorem HN (n:Nat):(yr n).length=n:=by simp[yr,aO]
theorem QV (n:Nat)(h:n<=10^9:=by omega):gK (n:Int) 0=some (yr n):=by unfold gK;rw[zip,aR (by rw[aw];omega),aw];refine dE (λi=>(List.replicate n (0:Int),(i:Int))) n (by omega) (λi nx hi=>?_) (λnx=>?_);simp only[qP];rw[jI,br (by simpa using hi),ak];simp only[ah,ab,aw,List.set_replicate_self];rfl;simp only[qP];rw[cC];rfl
theorem adU (n:Nat)(h:n<=10^9:=by omega):pO 0 (n:Int)=some (yr n):=by unfold pO;rw[zip,aR (by rw[aw];omega),aw];refine dE (λi=>(List.replicate n (0:Int),(i:Int))) n (by omega) (λi nx hi=>?_) (λnx=>?_);simp only[xB];rw[ar (by simp;omega),br (by simpa using hi),ak];simp only[ah,ab,aw,List.set_replicate_self];rfl;simp only[xB];rw[aq (by simp)];rfl
def pad (s:Bytes):Bytes:=if s.length<46 then s++yr (46-s.length) else s
theorem Ou (s:Bytes):(pad s).length=max 46 s.length:=by unfold pad;split;simp only[ai,HN];omega;omega
theorem amy (s:Bytes)(h:s.length<=10^9):Bm s=some (pad s):=by unfold Bm pad;by_cases hc:s.length<46;rw[jI,aI hc,ak,show(46:Int)-(s.length:Int)=((46-s.length:Nat):Int) by omega,QV _];simp only[ah,ab];rw[aR (by rw[HN];omega)];rw[cC,aG hc];rfl
theorem al0 (s:Bytes)(h:s.length<=10^9):Bd s=some (pad s):=by unfold Bd pad;by_cases hc:s.length<46;rw[cC,aI hc,ak,show(46:Int)-(s.length:Int)=((46-s.length:Nat):Int) by omega,adU _];simp only[af,ab];rw[aR (by rw[HN];omega)];rw[jI,aG hc];rfl
def qz (e:OF):Bool:=db e.1 0 281474976710655&&(db e.2.1 0 281474976710655&&(db e.2.2.1 (-1) 4095&&(db e.2.2.2.1 1536 65535&&((e.2.2.2.1 !=33024)&&db (e.2.2.2.2.length:Int) 46 400))))
theorem Mr (e:OF):yH e=some (qz e):=by simp only[yH,dQ,ab,bM,cF,qz]
theorem S7 (e:OF):Cm e=some (qz e):=Mr e
def Ii (a:Int):Bytes:=(iT a).getD []
theorem Dk (a:Int):iT a=some (Ii a)/\(Ii a).length<=6:=by
 have h:∃x,iT a=some x/\x.length<=6:=by unfold iT;rw[nU];simp only[nQ,mA,ab];have h1:=bT (fdiv a (2^(nZ 32)));have h2:=dS (au (toNat (ir a&&&ir 4294967295)));rw[aR];exact⟨_,rfl,by simp only[ai];omega⟩
 obtain⟨x,hx,hl⟩:=h;unfold Ii;rw[hx];exact⟨rfl,hl⟩
theorem alZ (a:Int):zw a=some (Ii a):=(Dk a).1
def FA (e:OF):Bytes:=(bif decide (e.2.2.1>=0) then(((Ii e.1++Ii e.2.1)++aW 33024)++aW e.2.2.1) else Ii e.1++Ii e.2.1)++aW e.2.2.2.1++e.2.2.2.2
theorem aiI (e:OF):(FA e).length<=18+e.2.2.2.2.length:=by have:=(Dk e.1).2;have:=(Dk e.2.1).2;have:=bT 33024;have:=bT e.2.2.1;have:=bT e.2.2.2.1;unfold FA;cases decide (e.2.2.1>=0)<;>simp only[ah,af,ai]<;>omega
def U2 (e:OF):Bytes×Bool:=bif qz e then(FA e,true) else([],false)
theorem amx (e:OF):zE e=some (U2 e):=by
 unfold zE U2;rw[Mr,ab];cases he:qz e;rfl;have hn:(e.2.2.2.2.length:Int)<=400:=by simp only[qz,ae,aS]at he;omega
 have:=(Dk e.1).2;have:=(Dk e.2.1).2;have:=bT 33024;have:=bT e.2.2.1;have:=bT e.2.2.2.1;simp only[(Dk _).1,nQ,ab,aj,af,ah,FA];rw[aR];cases decide (e.2.2.1>=0)with|true=>simp only[ah];rw[aR (by simp only[ai];omega),aR (by simp only[ai];omega),aR (by simp only[ai];omega),aR (by simp only[ai];omega)]|false=>simp only[af];rw[aR (by simp only[ai];omega),aR (by simp only[ai];omega)]
theorem alY (e:OF):yU e=some (U2 e):=by
 unfold yU U2;rw[S7,ab];cases he:qz e;rfl;have hn:(e.2.2.2.2.length:Int)<=400:=by simp only[qz,ae,aS]at he;omega
 have:=(Dk e.1).2;have:=(Dk e.2.1).2;have:=bT 33024;have:=bT e.2.2.1;have:=bT e.2.2.2.1;simp only[alZ,mh,ab,aj,af,ah,FA];rw[aR];cases decide (e.2.2.1>=0)with|true=>simp only[ah];rw[aR,aR (by simp only[ai];omega),aR (by simp only[ai];omega),aR (by simp only[ai];omega)];simp only[aL]|false=>simp only[af];rw[aR (by simp only[ai];omega),aR (by simp only[ai];omega)]
def N7 (p:aK):Bytes×Bool:=AE p.2.2.2.2.2.2.1 p.2.2.2.2.2.2.2.1 p.2.2.2.2.2.2.2.2
def Ti (p:aK):Bytes×Bool:=R2 (p.2.2.2.1,p.2.2.2.2.1,p.2.2.2.2.2.1,p.2.2.2.2.2.2.2.2.1,p.2.2.2.2.2.2.1,p.2.2.2.2.2.2.2.1,(N7 p).1)
def aiJ (p:aK):Bytes×Bool:=U2 (p.1,p.2.1,p.2.2.1,2048,pad (Ti p).1)
def dC (p:aK):Bytes×Bool:=bif dv p then aiJ p else([],false)
theorem Qa (p:aK):(Ti p).1.length<=360:=by have h1:=aem p.2.2.2.2.2.2.1 p.2.2.2.2.2.2.2.1 p.2.2.2.2.2.2.2.2;unfold Ti R2;cases VG (p.2.2.2.1,p.2.2.2.2.1,p.2.2.2.2.2.1,p.2.2.2.2.2.2.2.2.1,p.2.2.2.2.2.2.1,p.2.2.2.2.2.2.2.1,(N7 p).1)with|false=>exact cg _|true=>have h2:=LQ (p.2.2.2.1,p.2.2.2.2.1,p.2.2.2.2.2.1,p.2.2.2.2.2.2.2.2.1,p.2.2.2.2.2.2.1,p.2.2.2.2.2.2.2.1,(N7 p).1);have h3:(N7 p).1.length<=340:=h1;simp only[ah,ai];omega
theorem aha (p:aK):vH p=some (dC p):=by have hl:=Qa p;unfold vH dC;simp only[Mt,GR,akA,ab];rw[show(R2 (p.2.2.2.1,p.2.2.2.2.1,p.2.2.2.2.2.1,p.2.2.2.2.2.2.2.2.1,p.2.2.2.2.2.2.1,p.2.2.2.2.2.2.2.1,(AE p.2.2.2.2.2.2.1 p.2.2.2.2.2.2.2.1 p.2.2.2.2.2.2.2.2).1))=Ti p from rfl,amy _ (by omega),ab,amx];cases dv p<;>rfl
theorem Ea (p:aK):ia p=some (dC p):=by have hl:=Qa p;unfold ia dC;simp only[mS,Gu,ajq,ab];rw[show(R2 (p.2.2.2.1,p.2.2.2.2.1,p.2.2.2.2.2.1,p.2.2.2.2.2.2.2.2.1,p.2.2.2.2.2.2.1,p.2.2.2.2.2.2.2.1,(AE p.2.2.2.2.2.2.1 p.2.2.2.2.2.2.2.1 p.2.2.2.2.2.2.2.2).1))=Ti p from rfl,al0 _ (by omega),ab,alY];cases dv p<;>rfl
theorem Hw (h:dv p=true):(dC p).2=true:=by
 have hl:=Qa p;have hh:oI p=true:=by simp only[dv,ae]at h;exact h.1
 have hp:=Ou (Ti p).1;unfold dC aiJ U2;rw[h,ah];have:qz (p.1,p.2.1,p.2.2.1,2048,pad (Ti p).1)=true:=by simp only[oI,ae]at hh;simp only[qz,ae];refine⟨hh.1,hh.2.1,hh.2.2.1,by decide,by decide,aS.2 ?_⟩;omega
 rw[this];rfl
theorem BM (p:aK):(dC p).1.length<=378:=by have hl:=Qa p;have hp:=Ou (Ti p).1;unfold dC aiJ U2;cases dv p with|false=>exact cg _|true=>cases qz (p.1,p.2.1,p.2.2.1,2048,pad (Ti p).1)with|false=>exact cg _|true=>have:=aiI (p.1,p.2.1,p.2.2.1,2048,pad (Ti p).1);simp only[ah]at this⊢;omega
def fcs (c:Int):Bytes:=aO [gF c,gF (fdiv c (2^(nZ 8))),gF (fdiv c (2^(nZ 16))),gF (fdiv c (2^(nZ 24)))]
def sf (s:Bytes):Bytes:=s++fcs (ME s)
theorem adJ (c:Int):(fcs c).length=4:=rfl
theorem aes (s:Bytes)(h:s.length<=10^9):xX s=some (sf s):=by unfold xX;rw[aer s h,ab,nU,nU,nU];exact aR (by show s.length+4<=_;omega)
theorem adT (s:Bytes)(h:s.length<=10^9):xv s=some (sf s):=by unfold xv;rw[adS s h,ab,nU,nU,nU];exact aR (by show s.length+4<=_;omega)
def dq (p:aK):Bool:=dv p&&decide ((p.2.2.2.2.2.2.2.2.2.2.2.2.2.2.2.length:Int)<=128)
theorem QZ (p:aK):vg p=some (dq p):=by simp only[vg,Mt,ab,bM,cF,dq]
theorem yz (p:aK):kh p=some (dq p):=by simp only[kh,mS,ab,bM,cF,dq]
def ly (p:aK):Bytes×Bool:=bif dq p then(sf (dC p).1,true) else([],false)
theorem ag9 (p:aK):vG p=some (ly p):=by have hl:=BM p;simp only[vG,QZ,aha,aes _ (show(dC p).1.length<=10^9 by omega),ab,ly];cases dq p<;>rfl
theorem S8 (p:aK):qC p=some (ly p):=by
 have hl:=BM p;simp only[qC,yz,Ea,adT _ (show(dC p).1.length<=10^9 by omega),ab,ly];cases hp:dq p with
 |false=>rfl
 |true=>
  have:dv p=true:=by simp only[dq,ae]at hp;exact hp.1
  rw[Hw this];rfl
theorem Hn (p:aK):(ly p).1.length<=382:=by have hl:=BM p;unfold ly;cases dq p with|false=>exact cg _|true=>simp only[ah,sf,ai,adJ];omega
def acB (p:aK)(z:Int)(k:Nat):aK:=
 (p.1,p.2.1,p.2.2.1,p.2.2.2.1,tmod (au (p.2.2.2.2.1+(k:Int))) 65536,p.2.2.2.2.2.1,p.2.2.2.2.2.2.1,p.2.2.2.2.2.2.2.1,p.2.2.2.2.2.2.2.2.1,p.2.2.2.2.2.2.2.2.2.1,p.2.2.2.2.2.2.2.2.2.2.1,
   tmod (au (p.2.2.2.2.2.2.2.2.2.2.2.1+((k:Int)*z))) 4294967296,p.2.2.2.2.2.2.2.2.2.2.2.2.1,
   (bif decide (((k:Int)+1)*z<(p.2.2.2.2.2.2.2.2.2.2.2.2.2.2.2.length:Int)) then au (toNat (ir p.2.2.2.2.2.2.2.2.2.2.2.2.2.1&&&~~~ ir 9)) else p.2.2.2.2.2.2.2.2.2.2.2.2.2.1),
   p.2.2.2.2.2.2.2.2.2.2.2.2.2.2.1,(p.2.2.2.2.2.2.2.2.2.2.2.2.2.2.2.take (min ((k+1)*z.toNat) p.2.2.2.2.2.2.2.2.2.2.2.2.2.2.2.length)).drop (k*z.toNat))
def vF (n z:Nat):Nat:=(n+z-1)/z
def Jh (p:aK)(z:Int):ax aK:=bif dv p&&db z 1 128 then
    (bif (p.2.2.2.2.2.2.2.2.1 !=6)||decide ((p.2.2.2.2.2.2.2.2.2.2.2.2.2.2.2.length:Int)<=z) then [p] else(range (vF p.2.2.2.2.2.2.2.2.2.2.2.2.2.2.2.length z.toNat)).map (acB p z)) else []
theorem TE {z k:Nat}(hz:0<z:=by omega):k<vF n z↔k*z<n:=by unfold vF;rw[Nat.lt_div_iff_mul_lt hz];omega
theorem Fh (h:dv p=true):p.2.2.2.2.2.2.2.2.2.2.2.2.2.2.2.length<=320:=by
 have hh:oI p=true:=by simp only[dv,ae]at h;exact h.1
 exact Eu (zY hh)
theorem ahi {b:Bytes}{k z:Nat}(hk:k*z<b.length)(hb:b.length<=320):sub b ((k*z:Nat):Int) ((min ((k+1)*z) b.length:Nat):Int)=some ((b.take (min ((k+1)*z) b.length)).drop (k*z)):=by have:k*z<=(k+1)*z:=cK _ (by omega);unfold sub;rw[zip,aw,aw]
theorem afT (p:aK)(z:Int):EW p z=some (Jh p z):=by
 unfold EW Jh;simp only[mS,cm,ab];cases hs:dv p;rfl;cases hz:db z 1 128;rfl;have hz':=aS.1 hz;have hb:=Fh hs;simp only[aj,af,bR,ah,ab,bM,cT];cases hq:(p.2.2.2.2.2.2.2.2.1 !=6)||decide ((p.2.2.2.2.2.2.2.2.2.2.2.2.2.2.2.length:Int)<=z)with
 |true=>rfl
 |false=>
  simp only[af];obtain⟨m,rfl⟩:=aD (show 0<=z by omega);have hN:∀k,k<vF p.2.2.2.2.2.2.2.2.2.2.2.2.2.2.2.length m↔k*m<p.2.2.2.2.2.2.2.2.2.2.2.2.2.2.2.length:=λk=>TE;have JU:vF p.2.2.2.2.2.2.2.2.2.2.2.2.2.2.2.length m<=320:=by rcases cr 320 (vF p.2.2.2.2.2.2.2.2.2.2.2.2.2.2.2.length m)with h|h;have:=(hN 320).1 h;have:320*1<=320*m:=Nat.mul_le_mul_left _ (by omega);omega;exact h
  refine dE (λk=>((range k).map (acB p (m:Int)),(k:Int))) (vF p.2.2.2.2.2.2.2.2.2.2.2.2.2.2.2.length m) (by omega) (λk nx hk=>?_) (λnx=>?_);have hkm:=(hN k).1 hk;have hk1:(k+1)*m=k*m+m:=by rw[cU,fX]
  have e1:(k:Int)*(m:Int)=((k*m:Nat):Int):=by push_cast;rfl
  have e2:((k:Int)+1)*(m:Int)=(((k+1)*m:Nat):Int):=by push_cast;rfl
  have rm:=ahi hkm hb;simp only[zj];rw[ak (n:=(k:Int)+1),e1,e2,iV (n:=k*m),iV (n:=(k+1)*m),jI,ah];rw[gZ,dF,List.map_singleton];simp only[acB,e1,e2,aw];by_cases hc:(((k+1)*m:Nat):Int)<(p.2.2.2.2.2.2.2.2.2.2.2.2.2.2.2.length:Int);rw[ar hc];rw[show min ((k+1)*m) p.2.2.2.2.2.2.2.2.2.2.2.2.2.2.2.length=(k+1)*m by omega]at rm⊢;simp only[ah];rw[rm,ab,nU,nU,aR (by simp;omega)];rfl;rw[aq hc];rw[show min ((k+1)*m) p.2.2.2.2.2.2.2.2.2.2.2.2.2.2.2.length=p.2.2.2.2.2.2.2.2.2.2.2.2.2.2.2.length by omega]at rm⊢;simp only[af];rw[rm,ab,nU,nU,aR (by simp;omega)];rfl;have hkm:¬vF p.2.2.2.2.2.2.2.2.2.2.2.2.2.2.2.length m*m<p.2.2.2.2.2.2.2.2.2.2.2.2.2.2.2.length:=λh=>absurd ((hN _).2 h) (Nat.lt_irrefl _);have hub:vF p.2.2.2.2.2.2.2.2.2.2.2.2.2.2.2.length m*m<=320*128:=Nat.mul_le_mul JU (by omega);have e1:((vF p.2.2.2.2.2.2.2.2.2.2.2.2.2.2.2.length m:Nat):Int)*(m:Int)=((vF p.2.2.2.2.2.2.2.2.2.2.2.2.2.2.2.length m*m:Nat):Int):=by push_cast;rfl
  simp only[zj];rw[e1,iV,cC];rfl
theorem Q4 (p:aK)(z:Int):(Jh p z).length<=320:=by unfold Jh;cases hs:dv p&&db z 1 128;exact cg _;simp only[ae,aS]at hs;have hb:=Fh hs.1;cases (p.2.2.2.2.2.2.2.2.1 !=6)||decide ((p.2.2.2.2.2.2.2.2.2.2.2.2.2.2.2.length:Int)<=z)with|true=>simp only[ah,ba];omega|false=>simp only[ah,af,bH,List.length_range];rcases cr 320 (vF p.2.2.2.2.2.2.2.2.2.2.2.2.2.2.2.length z.toNat)with h|h;have:=(TE).1 h;have:320*1<=320*z.toNat:=Nat.mul_le_mul_left _ (by omega);omega;exact h
def OJ (acc:bP)(p:aK):bP:=bif (ly p).2 then acc++[(ly p).1] else acc
theorem WB (acc:bP)(p:aK):(OJ acc p).length<=acc.length+1:=by unfold OJ;cases (ly p).2<;>simp
def Ol (l:ax aK):bP:=l.foldl OJ []
theorem ML:∀(l:ax aK)(acc:bP),(l.foldl OJ acc).length<=acc.length+l.length
 |[],acc=>by simp
 |p::l,acc=>by have:=ML l (OJ acc p);have:=WB acc p;simp only[du,aU];omega
theorem HZ:∀(l:ax aK)(acc:bP),(∀x∈acc,x.length<=382)->∀x∈l.foldl OJ acc,x.length<=382
 |[],acc,h=>h
 |p::l,acc,h=>by rw[du];refine HZ l _ (λx hx=>?_);unfold OJ at hx;cases hf:(ly p).2 with|false=>rw[hf]at hx;exact h x hx|true=>rw[hf]at hx;simp only[ah,ay,bz]at hx;rcases hx with hx|hx;exact h x hx;rw[hx];exact Hn p
theorem abJ (l:ax aK)(h:l.length<=10^9):za l=some (Ol l):=by
 unfold za Ol;have:=uY (T:=oN (λ(y3:bP) (_:Int)=>some y3) l (l.length:Int)) l (λ(s:bP) i=>(s,(i:Int))) (λi s=>s.length<=i) (λp s=> .ok (OJ s p)) (λs=>some s) (by omega) (λi hi s nx hI=>?hs) (λi hi s s' hI hg=>?hn) (λs nx hI=>?hf) [] (by simp)
 case hs=>
  simp only[oN]
  rw[jI,br hi,ak (n:=(i:Int)+1)]
  simp only[ah,ab,S8,OJ]
  rw[aR (by simp;omega)]
  cases (ly l[i]).2<;>rfl
 case hn=>cases hg;have:=WB s l[i];omega
 case hf=>
  simp only[oN]
  rw[cC];rfl
 rw[HE]at this;exact this
def Zx (p:aK)(z:Int):bP:=Ol (Jh p z)
theorem ajz (p:aK)(z:Int):vy p z=some (Zx p z):=by have:=Q4 p z;simp only[vy,afT,abJ _ (show(Jh p z).length<=10^9 by omega),ab];rfl
theorem ag3 (p:aK)(z:Int):(Zx p z).length<=320/\∀x∈Zx p z,x.length<=382:=by have:=Q4 p z;have:=ML (Jh p z) [];exact⟨by unfold Zx Ol;simp only[dg]at this;omega,HZ _ [] (by simp)⟩
theorem Gg (h0:0<=a:=by omega)(h:a+2<=(s.length:Int):=by omega):0<=cp s a/\cp s a<=65535:=by have h1:=eO s a.toNat;have h2:=eO s (a.toNat+1);unfold cp fi;rw[ar ⟨h0,h⟩];simp only[ah];omega
theorem D1 (h0:0<=a:=by omega)(h:a+4<=(s.length:Int):=by omega):0<=dU s a/\dU s a<=4294967295:=by have h1:=eO s a.toNat;have h2:=eO s (a.toNat+1);have h3:=eO s (a.toNat+2);have h4:=eO s (a.toNat+3);unfold dU fi;rw[ar ⟨h0,h⟩];simp only[ah];omega
theorem ajK {x y:Int}(hx:0<=x/\x<=65535)(hy:0<=y/\y<=4294967295):au (toNat (ir (au (x*2^(nZ 32)))|||ir y))=x*4294967296+y:=by have e:(2:Int)^(nZ 32)=4294967296:=rfl;obtain⟨x,rfl⟩:=aD hx.1;obtain⟨y,rfl⟩:=aD hy.1;rw[e,ak (n:=(x:Int)*4294967296),show(x:Int)*4294967296=((2^32*x:Nat):Int) by omega,I9 x 32 y];omega
theorem ad2 {x y:Int}(hx:0<=x/\x<=65535)(hy:0<=y/\y<=4294967295):au (au (x*2^(nZ 32))+y)=x*4294967296+y:=by have e:(2:Int)^(nZ 32)=4294967296:=rfl;rw[e,ak (n:=x*4294967296),ak]
theorem BD {l:ax α}{n:Int}(h0:0<=n:=by omega)(h1:n<=(l.length:Int):=by omega):sub l 0 n=some (l.take n.toNat):=by unfold sub;rw[zip];simp
theorem yf {l:ax α}(k:Nat)(h:k<=l.length)(ha:a=(k:Int)):sub l a (l.length:Int)=some (l.drop k):=by unfold sub;rw[zip];subst ha;simp
theorem Wj {l:ax α}(k:Nat){n:Int}(ha:a=(k:Int))(h0:a<=n:=by omega)(h1:n<=(l.length:Int):=by omega):sub l a n=some ((l.take n.toNat).drop k):=by unfold sub;rw[zip];subst ha;simp
def sn (s:Bytes):Bytes×Bool:=bif decide ((s.length:Int)<4) then([],false) else bif sf (s.take ((s.length:Int)-4).toNat)==s then(s.take ((s.length:Int)-4).toNat,true) else([],false)
theorem acY (s:Bytes)(h:s.length<=10^9):zF s=some (sn s):=by unfold zF sn;rw[ak (n:=(s.length:Int)-4)];by_cases h4:(s.length:Int)<4;rw[ar h4];rfl;rw[aq h4,BD];simp only[af,ab,aes _ (show(s.take ((s.length:Int)-4).toNat).length<=10^9 by rw[aV];omega)];cases sf (s.take ((s.length:Int)-4).toNat)==s<;>rfl
theorem abG (s:Bytes)(h:s.length<=10^9):yV s=some (sn s):=by unfold yV sn;rw[ak (n:=(s.length:Int)-4)];by_cases h4:(s.length:Int)<4;rw[ar (show(s.length:Int)-4<0 by omega),ar h4];rfl;rw[aq (show¬(s.length:Int)-4<0 by omega),aq h4,BD];simp only[af,ab,adT _ (show(s.take ((s.length:Int)-4).toNat).length<=10^9 by rw[aV];omega)];cases sf (s.take ((s.length:Int)-4).toNat)==s<;>rfl
def aiH:OF:=(0,0,0,0,([]:Bytes))
def AK (s:Bytes)(a:Int):Int:=cp s a*4294967296+dU s (a+2)
def F7 (s:Bytes):OF:=(AK s 0,AK s 6,cp s 14,cp s 16,s.drop 18)
def wT (s:Bytes):OF:=(AK s 0,AK s 6, -1,cp s 12,s.drop 14)
def fY (s:Bytes):OF×Bool:=bif decide ((s.length:Int)<18) then(aiH,false) else
 bif cp s 12==33024 then(bif qz (F7 s) then(F7 s,true) else(aiH,false)) else bif qz (wT s) then(wT s,true) else(aiH,false)
theorem V9 (s:Bytes)(h:s.length<=10^9):zK s=some (fY s):=by unfold zK fY;by_cases h8:(s.length:Int)<18;rw[ar h8];rfl;rw[aq h8];simp only[af,Ew s _ h,HH s _ h,ab];rw[nU,nU,yf (l:=s) 14 (by omega) (show(14:Int)=((14:Nat):Int) from rfl),ab,yf (l:=s) 18 (by omega) (show(18:Int)=((18:Nat):Int) from rfl)];rw[ad2 (Gg (s:=s) (a:=0)) (D1 (s:=s) (a:=2)),ad2 (Gg (s:=s) (a:=6)) (D1 (s:=s) (a:=8))];simp only[ab,Mr];rw[show((cp s 0*4294967296+dU s 2,cp s 6*4294967296+dU s 8,cp s 14,cp s 16,s.drop 18):OF)=F7 s from rfl,show((cp s 0*4294967296+dU s 2,cp s 6*4294967296+dU s 8, -1,cp s 12,s.drop 14):OF)=wT s from rfl];cases cp s 12==33024<;>cases qz (F7 s)<;>cases qz (wT s)<;>rfl
theorem J9 (s:Bytes)(h:s.length<=10^9):uN s=some (fY s):=by
 unfold uN fY;by_cases h4:(s.length:Int)<14;rw[ar h4,ar (show(s.length:Int)<18 by omega)];rfl;rw[aq h4];simp only[af,yx s _ h,yy s _ h,ab];rw[nU,nU,yf (l:=s) 14 (by omega) (show(14:Int)=((14:Nat):Int) from rfl),ab];rw[ajK (Gg (s:=s) (a:=0)) (D1 (s:=s) (a:=2)),ajK (Gg (s:=s) (a:=6)) (D1 (s:=s) (a:=8))];simp only[ab,S7];rw[show((cp s 0*4294967296+dU s 2,cp s 6*4294967296+dU s 8, -1,cp s 12,s.drop 14):OF)=wT s from rfl];by_cases h8:(s.length:Int)<18;have hB:qz (wT s)=false:=by
  unfold qz wT;have:db ((s.drop 14).length:Int) 46 400=false:=by rw[Bool.eq_false_iff,ne_eq,aS,aJ];omega
  simp only[this,fG]
 rw[ar h8,aq (show¬(s.length:Int)>=18 by omega),hB];cases cp s 12==33024<;>rfl;rw[aq h8,ar (show(s.length:Int)>=18 by omega),yf (l:=s) 18 (by omega) (show(18:Int)=((18:Nat):Int) from rfl)];simp only[ab];rw[show((cp s 0*4294967296+dU s 2,cp s 6*4294967296+dU s 8,cp s 14,cp s 16,s.drop 18):OF)=F7 s from rfl];cases cp s 12==33024<;>cases qz (F7 s)<;>cases qz (wT s)<;>rfl
def ip0:Ip:=(0,0,0,0,0,0,([]:Bytes))
def DJ (s:Bytes):Ip:=((bO s 1:Int),cp s 4,(bO s 8:Int),(bO s 9:Int),dU s 12,dU s 16,(s.take (cp s 2).toNat).drop 20)
def kJ (s:Bytes):Ip×Bool:=bif decide ((s.length:Int)<20)||(decide (cp s 2<20)||decide (cp s 2>(s.length:Int))) then(ip0,false) else
 bif (R2 (DJ s)).2&&((R2 (DJ s)).1==s.take (cp s 2).toNat) then(DJ s,true) else(ip0,false)
theorem ZI (s:Bytes)(h:s.length<=10^9):Bn s=some (kJ s):=by
 unfold Bn kJ;simp only[Ew s _ h,HH s _ h,ab];by_cases h1:(s.length:Int)<20;rw[ar h1];rfl;by_cases h2:cp s 2<20;rw[aq h1,ar h2];rfl;by_cases h3:cp s 2>(s.length:Int);rw[aq h1,aq h2,ar h3];rfl;rw[aq h1,aq h2,aq h3];have b1:=oe (s[1]'(by omega));have b8:=oe (s[8]'(by omega));have b9:=oe (s[9]'(by omega));have i1:idx s 1=some (s[1]'(by omega)):=br (i:=1) (by omega);have i8:idx s 8=some (s[8]'(by omega)):=br (i:=8) (by omega);have i9:idx s 9=some (s[9]'(by omega)):=br (i:=9) (by omega);simp only[af,ab,cl,i1,i8,i9];rw[Wj (l:=s) 20 (show(20:Int)=((20:Nat):Int) from rfl),BD,iV (n:=(s[1]'(by omega)).toNat),iV (n:=(s[8]'(by omega)).toNat),iV (n:=(s[9]'(by omega)).toNat)];have e:(((s[1]'(by omega)).toNat:Int),cp s 4,((s[8]'(by omega)).toNat:Int),((s[9]'(by omega)).toNat:Int),dU s 12,dU s 16,(s.take (cp s 2).toNat).drop 20)=DJ s:=by simp only[DJ,bO,cu (show 1<s.length by omega),cu (show 8<s.length by omega),cu (show 9<s.length by omega)]
 simp only[ab,e,akA];cases (R2 (DJ s)).2<;>cases (R2 (DJ s)).1==s.take (cp s 2).toNat<;>rfl
theorem X9 (s:Bytes)(h:s.length<=10^9):Be s=some (kJ s):=by
 unfold Be kJ;simp only[yx s _ h,yy s _ h,ab];by_cases h1:(s.length:Int)<20;rw[ar h1];rfl;by_cases h2:cp s 2<20;rw[aq h1,ar h2];rfl;by_cases h3:cp s 2>(s.length:Int);rw[aq h1,aq h2,ar h3];rfl;rw[aq h1,aq h2,aq h3];have b1:=oe (s[1]'(by omega));have b8:=oe (s[8]'(by omega));have b9:=oe (s[9]'(by omega));have i1:idx s 1=some (s[1]'(by omega)):=br (i:=1) (by omega);have i8:idx s 8=some (s[8]'(by omega)):=br (i:=8) (by omega);have i9:idx s 9=some (s[9]'(by omega)):=br (i:=9) (by omega);simp only[af,ab,cl,i1,i8,i9];rw[Wj (l:=s) 20 (show(20:Int)=((20:Nat):Int) from rfl),BD,iV (n:=(s[1]'(by omega)).toNat),iV (n:=(s[8]'(by omega)).toNat),iV (n:=(s[9]'(by omega)).toNat)];have e:(((s[1]'(by omega)).toNat:Int),cp s 4,((s[8]'(by omega)).toNat:Int),((s[9]'(by omega)).toNat:Int),dU s 12,dU s 16,(s.take (cp s 2).toNat).drop 20)=DJ s:=by simp only[DJ,bO,cu (show 1<s.length by omega),cu (show 8<s.length by omega),cu (show 9<s.length by omega)]
 simp only[ab,e,ajq];cases (R2 (DJ s)).2<;>cases (R2 (DJ s)).1==s.take (cp s 2).toNat<;>rfl
def apw:eX:=(0,0,0,0,0,0,0,([]:Bytes))
def Mp (k:Int)(s:Bytes):eX:=(k,cp s 0,cp s 2,dU s 4,dU s 8,(bO s 13:Int),cp s 14,s.drop 20)
def QO (k:Int)(s:Bytes):eX:=(k,cp s 0,cp s 2,0,0,0,0,s.drop 8)
def nB (a b k:Int)(s:Bytes):eX×Bool:=
 bif (k==6)&&decide ((s.length:Int)>=20) then(bif (AE a b (Mp k s)).2&&((AE a b (Mp k s)).1==s) then(Mp k s,true) else(apw,false)) else
 bif (k==17)&&decide ((s.length:Int)>=8) then(bif (AE a b (QO k s)).2&&((AE a b (QO k s)).1==s) then(QO k s,true) else(apw,false)) else(apw,false)
theorem Wa (a b k:Int)(s:Bytes)(h:s.length<=10^9):sc a b k s=some (nB a b k s):=by
 unfold sc nB;simp only[Ew s _ h,HH s _ h,ab];rw[show(aa (cond (k==6) (some (decide ((s.length:Int)>=20))) (some false)):(Bool->az (eX×Bool))->az (eX×Bool))=λK=>K ((k==6)&&decide ((s.length:Int)>=20)) from by funext K;cases k==6<;>rfl];rw[show(aa (cond (k==17) (some (decide ((s.length:Int)>=8))) (some false)):(Bool->az (eX×Bool))->az (eX×Bool))=λK=>K ((k==17)&&decide ((s.length:Int)>=8)) from by funext K;cases k==17<;>rfl];simp only;cases h1:(k==6)&&decide ((s.length:Int)>=20)with
 |true=>
  simp only[ae,aE]at h1;have bb:=oe (s[13]'(by omega));have i:idx s 13=some (s[13]'(by omega)):=br (i:=13) (by omega);have e:(k,cp s 0,cp s 2,dU s 4,dU s 8,((s[13]'(by omega)).toNat:Int),cp s 14,s.drop 20)=Mp k s:=by simp only[Mp,bO,cu (show 13<s.length by omega)]
  simp only[ah,i,ab];rw[yf (l:=s) 20 (by omega) (show(20:Int)=((20:Nat):Int) from rfl),iV (n:=(s[13]'(by omega)).toNat)];simp only[ab,e,GR];cases (AE a b (Mp k s)).2<;>cases (AE a b (Mp k s)).1==s<;>rfl
 |false=>simp only[af];cases h2:(k==17)&&decide ((s.length:Int)>=8)with|false=>rfl|true=>simp only[ae,aE]at h2;rw[yf (l:=s) 8 (by omega) (show(8:Int)=((8:Nat):Int) from rfl)];simp only[ah,ab,show((k,cp s 0,cp s 2,0,0,0,0,s.drop 8):eX)=QO k s from rfl,GR];cases (AE a b (QO k s)).2<;>cases (AE a b (QO k s)).1==s<;>rfl
theorem VB (a b k:Int)(s:Bytes)(h:s.length<=10^9):rM a b k s=some (nB a b k s):=by
 unfold rM nB;simp only[yx s _ h,yy s _ h,ab];rw[show(aa (cond (k==6) (some (decide ((s.length:Int)>=20))) (some false)):(Bool->az (eX×Bool))->az (eX×Bool))=λK=>K ((k==6)&&decide ((s.length:Int)>=20)) from by funext K;cases k==6<;>rfl];rw[show(aa (cond (k==17) (some (decide ((s.length:Int)>=8))) (some false)):(Bool->az (eX×Bool))->az (eX×Bool))=λK=>K ((k==17)&&decide ((s.length:Int)>=8)) from by funext K;cases k==17<;>rfl];simp only;cases h1:(k==6)&&decide ((s.length:Int)>=20)with
 |true=>
  simp only[ae,aE]at h1;have bb:=oe (s[13]'(by omega));have i:idx s 13=some (s[13]'(by omega)):=br (i:=13) (by omega);have e:(k,cp s 0,cp s 2,dU s 4,dU s 8,((s[13]'(by omega)).toNat:Int),cp s 14,s.drop 20)=Mp k s:=by simp only[Mp,bO,cu (show 13<s.length by omega)]
  simp only[ah,i,ab];rw[yf (l:=s) 20 (by omega) (show(20:Int)=((20:Nat):Int) from rfl),iV (n:=(s[13]'(by omega)).toNat)];simp only[ab,e,Gu];cases (AE a b (Mp k s)).2<;>cases (AE a b (Mp k s)).1==s<;>rfl
 |false=>simp only[af];cases h2:(k==17)&&decide ((s.length:Int)>=8)with|false=>rfl|true=>simp only[ae,aE]at h2;rw[yf (l:=s) 8 (by omega) (show(8:Int)=((8:Nat):Int) from rfl)];simp only[ah,ab,show((k,cp s 0,cp s 2,0,0,0,0,s.drop 8):eX)=QO k s from rfl,Gu];cases (AE a b (QO k s)).2<;>cases (AE a b (QO k s)).1==s<;>rfl
def pk0:aK:=(0,0,0,0,0,0,0,0,0,0,0,0,0,0,0,([]:Bytes))
def jo (s:Bytes):aK×Int:=
 let e:=fY s
 bif !e.2||(e.1.2.2.2.1 !=2048) then(pk0,2) else
 let i:=kJ e.1.2.2.2.2
 bif !i.2 then(pk0,3) else
 let g:=nB i.1.2.2.2.2.1 i.1.2.2.2.2.2.1 i.1.2.2.2.1 i.1.2.2.2.2.2.2
 bif !g.2 then(pk0,4) else
 bif !dv (e.1.1,e.1.2.1,e.1.2.2.1,i.1.1,i.1.2.1,i.1.2.2.1,i.1.2.2.2.2.1,i.1.2.2.2.2.2.1,g.1) then(pk0,5) else
 ((e.1.1,e.1.2.1,e.1.2.2.1,i.1.1,i.1.2.1,i.1.2.2.1,i.1.2.2.2.2.1,i.1.2.2.2.2.2.1,g.1),0)
theorem E3 (s:Bytes):(fY s).1.2.2.2.2.length<=s.length:=by
 unfold fY;cases decide ((s.length:Int)<18);case true=>simp[aiH]
 cases cp s 12==33024<;>cases qz (F7 s)<;>cases qz (wT s)<;>simp[aiH,F7,wT]
theorem Ng (s:Bytes):(kJ s).1.2.2.2.2.2.2.length<=s.length:=by
 unfold kJ;cases decide ((s.length:Int)<20)||(decide (cp s 2<20)||decide (cp s 2>(s.length:Int)));case true=>simp[ip0]
 cases (R2 (DJ s)).2&&((R2 (DJ s)).1==s.take (cp s 2).toNat)with|false=>simp[ip0]|true=>simp[DJ];omega
theorem ahe (s:Bytes)(h:s.length<=10^9):xW s=some (jo s):=by
 have h1:=E3 s;unfold xW jo;rw[V9 s h,ab];generalize fY s=e at h1⊢;have h2:=Ng e.1.2.2.2.2;simp only;cases e.2;rfl;cases e.1.2.2.2.1 !=2048;case true=>rfl
 simp only[aj,af,ab,cl,ZI _ (show e.1.2.2.2.2.length<=10^9 by omega)];generalize kJ e.1.2.2.2.2=i at h2⊢;cases i.2;rfl;simp only[aj,af,ab,Wa _ _ _ _ (show i.1.2.2.2.2.2.2.length<=10^9 by omega)];generalize nB i.1.2.2.2.2.1 i.1.2.2.2.2.2.1 i.1.2.2.2.1 i.1.2.2.2.2.2.2=g;cases g.2;rfl;simp only[aj,af,ab,Mt];cases dv (e.1.1,e.1.2.1,e.1.2.2.1,i.1.1,i.1.2.1,i.1.2.2.1,i.1.2.2.2.2.1,i.1.2.2.2.2.2.1,g.1)<;>rfl
theorem Hy (s:Bytes)(h:s.length<=10^9):jm s=some (jo s):=by
 have h1:=E3 s;unfold jm jo;rw[J9 s h,ab];generalize fY s=e at h1⊢;have h2:=Ng e.1.2.2.2.2;simp only;cases e.2;rfl;cases e.1.2.2.2.1 !=2048;case true=>rfl
 simp only[aj,af,ab,cl,X9 _ (show e.1.2.2.2.2.length<=10^9 by omega)];generalize kJ e.1.2.2.2.2=i at h2⊢;cases i.2;rfl;simp only[aj,af,ab,VB _ _ _ _ (show i.1.2.2.2.2.2.2.length<=10^9 by omega)];generalize nB i.1.2.2.2.2.1 i.1.2.2.2.2.2.1 i.1.2.2.2.1 i.1.2.2.2.2.2.2=g;cases g.2;rfl;simp only[aj,af,ab,mS];cases dv (e.1.1,e.1.2.1,e.1.2.2.1,i.1.1,i.1.2.1,i.1.2.2.1,i.1.2.2.2.2.1,i.1.2.2.2.2.2.1,g.1)<;>rfl
def fy (s:Bytes):aK×Int:=
 let c:=sn s
 bif !c.2 then(pk0,1) else
 let r:=jo c.1
 bif r.2 !=0 then(pk0,r.2) else
 bif !dq r.1 then(pk0,5) else(r.1,0)
theorem O2 (s:Bytes):(sn s).1.length<=s.length:=by
 unfold sn;cases decide ((s.length:Int)<4);case true=>simp
 cases sf (s.take ((s.length:Int)-4).toNat)==s with|false=>simp|true=>simp;omega
theorem ahd (s:Bytes)(h:s.length<=10^9):xV s=some (fy s):=by
 have h1:=O2 s;unfold xV fy;rw[acY s h,ab];generalize sn s=c at h1⊢;simp only;cases c.2;rfl;simp only[aj,af,ab,ahe _ (show c.1.length<=10^9 by omega)];generalize jo c.1=r;cases r.2 !=0;case true=>rfl
 simp only[af,ab,QZ];cases dq r.1<;>rfl
theorem LL (s:Bytes)(h:s.length<=10^9):oR s=some (fy s):=by
 have h1:=O2 s;unfold oR fy;rw[abG s h,ab];generalize sn s=c at h1⊢;simp only;cases c.2;rfl;simp only[aj,af,ab,Hy _ (show c.1.length<=10^9 by omega)];generalize jo c.1=r;cases r.2 !=0;case true=>rfl
 simp only[af,ab,yz];cases dq r.1<;>rfl
theorem gM (a:bP)(h:a.length<=1073741824:=by omega):dD a=some a:=by simp only[dD,il];rw[aR (by simpa using h)];rfl
theorem E1 (a:bP)(h:a.length<=1073741824:=by omega):nI a=some a:=by simp only[nI];rw[aR (by simpa using h)];rfl
theorem mR (l:bP)(h:l.length<=10^9:=by omega):il l=some l:=by simp only[il,my h,cd]
theorem oJ (f:Filter)(h:f.2.2.length<=10^9):fH f=some f:=by simp only[fH,lL _ h,ab]
theorem CA (f:Filter)(h:f.2.2.length<=10^9):xZ f=some f:=by simp only[xZ,my h,cd]
theorem Ay (l:ax Stream)(h:l.length<=10^9:=by omega):lW l=some l:=by simp only[lW,my h,cd]
theorem RZ (t:ax Slot)(h:t.length<=10^9):xx t=some t:=by simp only[xx,my h,cd]
theorem P1 (s:ur)(h:s.2.length<=10^9):vC s=some s:=by simp only[vC,lL _ h,ab]
theorem RY (s:dT)(h1:s.1.length<=10^9)(h2:s.2.1.length<=10^9)(h3:s.2.2.2.length<=10^9):rU s=some s:=by simp only[rU,my h1,RZ _ h2,P1 _ h3,ab,cd]
theorem Sh (t:ax Slot)(h:t.length<=10^9):Bv t=some t:=by simp only[Bv,my h,cd]
theorem Ir (s:dT)(h1:s.1.length<=10^9)(h2:s.2.1.length<=10^9)(h3:s.2.2.2.length<=10^9):Bx s=some s:=by simp only[Bx,my h1,Sh _ h2,my h3,ab,cd]
theorem ag6 (l:ax pQ)(i:Nat)(hi:i<l.length):l.take i++[(l[i].1,l[i].2.1,l[i].2.2)]=l.take (i+1):=(bc hi).symm
theorem J5 (l:ax pQ)(h:l.length<=10^9)(hx:∀x∈l,x.2.2.length<=10^9):uR l=some l:=by unfold uR;refine(dE (λi=>(l.take i,(i:Int))) l.length (by omega) (λi nx hi=>?_) (λnx=>?_));simp only[tP];rw[jI,br hi,ak];simp only[ah,ab,lL _ (hx _ (aM hi))];rw[aR (by simp;omega),ag6 l i hi];rfl;simp only[tP];rw[cC,cE];rfl
structure alu (t:eD):Prop where
 p:t.2.1.2.2.2.length<=10^9
 w:t.2.2.1.length<=10^9
 x:∀x∈t.2.2.1,x.2.2.length<=10^9
theorem IY (t:eD)(z:alu t):sI t=some t:=by simp only[sI,wo _ z.p,J5 _ z.w z.x,ab]
theorem aq7 (z:dj 1000000000 dL h):alu h.2.2.1:=⟨z.2.2.1.2.1.2.2.2.1,z.2.2.1.2.2.1.1,λx hx=>(z.2.2.1.2.2.1.2 x hx).2.2.1⟩
theorem kc (h:Host)(z:dj 1000000000 dL h):ic h=some h:=by have hp:h.2.2.2.2.1.length<=10^9:=z.2.2.2.2.1.1;have hm:h.1.length<=10^9:=z.1.1;unfold ic;simp only[gM _ (show h.1.length<=1073741824 by omega),xw,my z.2.1.1,IY _ (aq7 z),my z.2.2.2.1.1,ab,cd];refine(dE (λi=>((i:Int),h.1,h.2.1,h.2.2.1,h.2.2.2.1,h.2.2.2.2.1.take i,h.2.2.2.2.2)) h.2.2.2.2.1.length (by omega) (λi nx hi=>?_) (λnx=>?_));simp only[tO];rw[jI,br hi,ak];simp only[ah,ab,wo _ (z.2.2.2.2.1.2 _ (aM hi)).2.2.2.1];rw[aR (by simp;omega),<-bc hi];rfl;simp only[tO];rw[cC,cE];simp only[af,my z.2.2.2.2.2.1.1,my z.2.2.2.2.2.2.1.1,oJ _ z.2.2.2.2.2.2.2.1.2.2.1,RY _ z.2.2.2.2.2.2.2.2.1.1.1 z.2.2.2.2.2.2.2.2.1.2.1.1 z.2.2.2.2.2.2.2.2.1.2.2.2.1,Ay _ z.2.2.2.2.2.2.2.2.2.1.1,mR _ z.2.2.2.2.2.2.2.2.2.2.2.1.1,lL _ z.2.2.2.2.2.2.2.2.2.2.2.2.1.1,lL _ z.2.2.2.2.2.2.2.2.2.2.2.2.2.1.1,ab,cd]
theorem adt:∀l:ax pQ,(bL l).length<=So (.sl lJ) l
 |[]=>by simp[bL]
 |x::l=>by have:=adt l;simp only[bL,So,List.flatMap_cons,ai,dk,fW,aU]at this⊢;omega
def atF (f:Jn)(s:Stream):Bool:=decide (s.1=f)
def ahm (l:ax Stream)(f:Jn):Int:=match l.findIdx? (atF f)with|some i=>(i:Int)|none=> -1
theorem ajA (l:ax Stream)(f:Jn)(h:l.length<=10^9):tF l f=some (ahm l f):=by
 unfold tF ahm;rw[Hj (p:=atF f) (hit:=λi=>some i) (fin:=some (-1)) l (by omega) (λi hi nx=>?hs) (λnx=>?hf)]
 case hs=>
  simp only[ou]
  rw[jI,br hi,ak]
  simp only[ah,ab,Ok,atF];rfl
 case hf=>
  simp only[ou]
  rw[cC];rfl
 cases l.findIdx? (atF f)<;>rfl
def ac9:Stream:=((0,0,0,0,0),0,([]:Bytes),false)
def body (p:aK):Bytes:=p.2.2.2.2.2.2.2.2.2.2.2.2.2.2.2
def udp (p:aK):Bytes:=aW ((body p).length:Int)++body p
def HQ (p:aK)(b:Int):Bool:=au (toNat (ir p.2.2.2.2.2.2.2.2.2.2.2.2.2.1&&&ir b)) !=0
def As (s:Stream)(p:aK):Int:=(s.2.1-p.2.2.2.2.2.2.2.2.2.2.2.1)%4294967296
def apB (s:Stream)(p:aK):Stream:=(s.1,(s.2.1+((body p).length:Int)-As s p)%4294967296,s.2.2.1++(body p).drop (As s p).toNat,HQ p 1)
def F4 (l:ax Stream)(p:aK):ax Stream:=
 bif !dv p then l else
 match l.findIdx? (atF (nL p))with
 |none=>
  bif p.2.2.2.2.2.2.2.2.1==17 then l++[(nL p,0,udp p,false)] else
  bif HQ p 2 then l++[(nL p,tmod (au (p.2.2.2.2.2.2.2.2.2.2.2.1+1)) 4294967296,([]:Bytes),false)] else l
 |some i=>
  bif p.2.2.2.2.2.2.2.2.1==17 then l.set i ((l.getD i ac9).1,(l.getD i ac9).2.1,(l.getD i ac9).2.2.1++udp p,(l.getD i ac9).2.2.2) else
  bif HQ p 2 then l else
  bif (l.getD i ac9).2.2.2||HQ p 4 then l else
  bif decide (As (l.getD i ac9) p<=((body p).length:Int)) then l.set i (apB (l.getD i ac9) p) else l
theorem ahM (s:Stream)(p:aK):0<=As s p/\As s p<4294967296:=by unfold As;omega
theorem ao7 (x:Int):au (toNat (ir x&&&ir 4294967295))=x%4294967296:=by have:=FO x 32;rw[show((2:Int)^32-1)=4294967295 from rfl,show((2:Int)^32)=4294967296 from rfl]at this;rw[this,ak]
theorem anE (x:Int):au x%4294967296=x%4294967296:=by have:=EE x 32;rwa[show((2:Int)^32)=4294967296 from rfl]at this
theorem V5 (l:ax α)(x y:α):(l++[x]).set l.length y=l++[y]:=by rw[List.set_append_right _ _ (bj _),jv,List.set_cons_zero]
theorem alW {l:ax α}(h:i<l.length)(x:α):idx (l.set i x) (i:Int)=some x:=by rw[J3,cW h]
theorem J2 (l:ax α)(x:α):idx (l++[x]) (l.length:Int)=some x:=by rw[J3,bA (bj _),jv];rfl
theorem WL (h:dv p=true):(body p).length<=320:=Fh h
theorem Vw (l:ax Stream)(p:aK)(h:dj 900000000 (.sl fT) l):Bb l p=some (F4 l p):=by
 have hl:l.length<=900000000:=h.1;unfold Bb F4;simp only[Ay l,mS,ab,P2,ajA l _ (show l.length<=10^9 by omega),mh];cases hs:dv p;rfl;have hb:=WL hs;have hw:=bT ((body p).length:Int);simp only[aj,af];rw[show p.2.2.2.2.2.2.2.2.2.2.2.2.2.2.2=body p from rfl];cases hf:l.findIdx? (atF (nL p))with
 |none=>
  have e1:ahm l (nL p)= -1:=by rw[ahm,hf]
  simp only[e1,show decide ((-1:Int)<0)=true from rfl,ah];cases p.2.2.2.2.2.2.2.2.1==17 with|true=>simp only[ah];rw[aR (by simp;omega),J2,ab];simp only;rw[aR,aR (by simp only[ai,dg];omega),ab,aw];simp only[ab,J2,V5,cd];rfl|false=>simp only[af];rw[show(au (toNat (ir p.2.2.2.2.2.2.2.2.2.2.2.2.2.1&&&ir 2)) !=0)=HQ p 2 from rfl];cases HQ p 2 with|true=>simp only[ah];rw[nU,aR (by simp;omega)]|false=>rfl
 |some i=>
  obtain⟨hi,_⟩:=List.findIdx?_eq_some_iff_getElem.1 hf;have hd:(l[i].2.2.1).length<=900000000:=(h.2 _ (aM hi)).2.2.1;have e1:ahm l (nL p)=(i:Int):=by rw[ahm,hf]
  simp only[e1,aq (show¬(i:Int)<0 by omega),af,br hi,ab,cu hi,aw];cases p.2.2.2.2.2.2.2.2.1==17 with
  |true=>simp only[ah];rw[aR,aR (by simp only[ai];omega)];rfl
  |false=>
   simp only[af];rw[show(au (toNat (ir p.2.2.2.2.2.2.2.2.2.2.2.2.2.1&&&ir 2)) !=0)=HQ p 2 from rfl,show(au (toNat (ir p.2.2.2.2.2.2.2.2.2.2.2.2.2.1&&&ir 4)) !=0)=HQ p 4 from rfl,show(au (toNat (ir p.2.2.2.2.2.2.2.2.2.2.2.2.2.1&&&ir 1)) !=0)=HQ p 1 from rfl];cases HQ p 2;case true=>rfl
   simp only[af];rw[show(aa (cond l[i].2.2.2 (some true) (some (HQ p 4))):(Bool->az (ax Stream))->az (ax Stream))=λK=>K (l[i].2.2.2||HQ p 4) from by funext K;cases l[i].2.2.2<;>rfl];simp only;cases l[i].2.2.2||HQ p 4;case true=>rfl
   simp only[af,L1 _ 4294967296,ab,anE];rw[show(l[i].2.1-p.2.2.2.2.2.2.2.2.2.2.2.1)%4294967296=As l[i] p from rfl];have ha:=ahM l[i] p;by_cases hq:As l[i] p<=((body p).length:Int)
   rw[ar hq,yf (l:=body p) (As l[i] p).toNat (by omega) (by omega)];simp only[ah,ab];rw[aR (by rw[aJ];omega)];simp only[alW hi,ab,List.set_set];refine congrArg some (congrArg (l.set i) ?_);simp only[apB];rw[show(au (l[i].2.1+((body p).length:Int))-As l[i] p)%4294967296=(l[i].2.1+((body p).length:Int)-As l[i] p)%4294967296 from by rw[Int.sub_emod,anE,<-Int.sub_emod]];rw[aq hq];rfl
theorem UX {l:ax Stream}(h:dj n (.sl fT) l):dj (n+322) (.sl fT) (F4 l p):=by
 have h':dj (n+322) (.sl fT) l:=h.mono;unfold F4;cases hs:dv p;exact h';have hb:=WL hs;have hw:=bT ((body p).length:Int);have hu:(udp p).length<=322:=by simp only[udp,ai];omega
 simp only[aj,af];have app:∀x:Stream,x.2.2.1.length<=n+322->dj (n+322) (.sl fT) (l++[x]):=by intro x hx;refine⟨?_,λy hy=>?_⟩;have:l.length<=n:=h.1;simp only[ai,ba];omega;rcases ay.1 hy with g|g;exact h'.2 y g;rw[bz.1 g];exact⟨⟨cB,cB,cB,cB,cB⟩,cB,hx,cB⟩
 have put:∀(i:Nat)(x:Stream),x.2.2.1.length<=n+322->dj (n+322) (.sl fT) (l.set i x):=by intro i x hx;refine⟨?_,λy hy=>?_⟩;show(l.set i x).length<=_;rw[aC];exact h'.1;rcases dw hy with g|rfl;exact h'.2 y g;exact⟨⟨cB,cB,cB,cB,cB⟩,cB,hx,cB⟩
 split;cases p.2.2.2.2.2.2.2.2.1==17 with|true=>exact app _ (show(udp p).length<=_ by omega)|false=>cases HQ p 2 with|true=>exact app _ (cg _)|false=>exact h'
 ·rename_i i hf;obtain⟨hi,_⟩:=List.findIdx?_eq_some_iff_getElem.1 hf;have hd:(l[i].2.2.1).length<=n:=(h.2 _ (aM hi)).2.2.1;simp only[cu hi];cases p.2.2.2.2.2.2.2.2.1==17 with
  |true=>exact put _ _ (by simp only[ai];omega)
  |false=>
   cases HQ p 2;case true=>exact h'
   cases l[i].2.2.2||HQ p 4;case true=>exact h'
   cases decide (As l[i] p<=((body p).length:Int))with|false=>exact h'|true=>exact put _ _ (by simp only[apB,ai,aJ];omega)
end
end Go.Pu
