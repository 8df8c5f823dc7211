import Derived.Test.YtnmppgnbjfdffaaGreatDnData
import Derived.Test.YtnmppgnbjfdffaaGreatPure
namespace Go.Pu
open Go.Dn
open List (range)
open BitVec (toNat)
open Int (fdiv tmod)
set_option linter.unusedSimpArgs false
set_option linter.unusedVariables false
noncomputable section
variable {b s t x:Bytes} {h:Host} {f:Int->ax Int} {a c i n:Nat} {p:aN} {R X α σ:Type} {l:aw aA} {m:bM}
/- Plain laws of the partial operations and of loops. -/
theorem ak {n:Int}(h1: -9223372036854775808<=n:=by omega)(h2:n<=9223372036854775807:=by omega):au n=n:=by simp only[au,fU,IntKind.wrap,IntKind.bits,IntKind.signed];simp;omega
@[simp] theorem ab (a:α)(k:α->ax R):aa (some a) k=k a:=rfl
@[simp] theorem agH (k:α->ax R):aa none k=none:=rfl
@[simp] theorem wK (c:Bool)(x y:α)(k:α->ax R):aa (cond c (some x) (some y)) k=k (cond c x y):=by cases c<;>rfl
theorem bL (c:Bool)(x y:α):cond c (some x) (some y)=some (cond c x y):=by cases c<;>rfl
theorem aP {k:ax R}(h:n<=1073741824:=by omega):room n k=k:=by simp[room,h]
theorem Pq (xs:aw α)(i:Nat):idx xs (i:Int)=xs[i]?:=rfl
theorem bf {xs:aw α}(h:i<xs.length):idx xs (i:Int)=some xs[i]:=by rw[Pq];exact al h
def upK (step:Nat->σ->(σ->ax R)->ax R)(fin:σ->ax R)(N:Nat):Nat->Nat->σ->ax R
 |0,_,s=>fin s
 |n+1,i,s=>step i s (λs'=>upK step fin N n (i+1) s')
theorem F9 {T:(X->ax R)->X->ax R}(N:Nat)(e:σ->Nat->X)(step:Nat->σ->(σ->ax R)->ax R)(fin:σ->ax R)(hs:∀i s nx,i<N->T nx (e s i)=step i s (λs'=>nx (e s' (i+1))))(hf:∀s nx,T nx (e s N)=fin s): ∀n i s,i<=N->N-i<n->aX T n (e s i)=upK step fin N (N-i) i s:=by
 intro n;induction n with
 |zero=>intro i s _ h;omega
 |succ n ih=>
  intro i s hi hn;rw[aX];rcases cc i N with gQ|yP;rw[hs i s _ gQ,show N-i=(N-(i+1))+1 by omega,upK];congr 1;funext s';exact ih (i+1) s' (by omega) (by omega);have:i=N:=by omega
  subst this;rw[hf,kW,upK]
def qT (step:α->σ->(σ->ax R)->ax R)(fin:σ->ax R):aw α->σ->ax R
 |[],s=>fin s
 |x::xs,s=>step x s (qT step fin xs)
theorem uS {T:(X->ax R)->X->ax R}(xs:aw α)(e:σ->Nat->X)(step:α->σ->(σ->ax R)->ax R)(fin:σ->ax R)(hs:∀i (h:i<xs.length) s nx,T nx (e s i)=step xs[i] s (λs'=>nx (e s' (i+1))))(hf:∀s nx,T nx (e s xs.length)=fin s): ∀n i s,i<=xs.length->xs.length-i<n->aX T n (e s i)=qT step fin (xs.drop i) s:=by
 intro n;induction n with
 |zero=>intro i s _ h;omega
 |succ n ih=>
  intro i s hi hn;rw[aX];rcases cc i xs.length with gQ|yP;rw[hs i gQ s _,bJ gQ,qT];congr 1;funext s';exact ih (i+1) s' (by omega) (by omega);have:i=xs.length:=by omega
  subst this;rw[hf,List.drop_length,qT]
def TM:(t:CT)->t.D->Nat
 | .int _,_=>0
 | .bool,_=>0
 | .str,s=>s.length
 | .sl e,xs=>xs.length+(xs.map (TM e)).sum
 | .pair a b,x=>TM a x.1+TM b x.2
def cX (n:Nat):(t:CT)->t.D->Prop
 | .int _,_=>True
 | .bool,_=>True
 | .str,s=>s.length<=n
 | .sl e,xs=>xs.length<=n/\∀x∈xs,cX n e x
 | .pair a b,x=>cX n a x.1/\cX n b x.2
theorem KY (f:α->Nat):∀(xs:aw α)(x:α),x∈xs->f x<=(xs.map f).sum
 |y::ys,x,h=>by rcases bO.1 h with rfl|h;simp;have:=KY f ys x h;simp;omega
theorem JB:∀{t:CT}{x:t.D},TM t x<=n->cX n t x
 | .int _,_,_=>trivial
 | .bool,_,_=>trivial
 | .str,_,h=>h
 | .sl e,xs,h=>by simp only[TM]at h;exact⟨by omega,λx hx=>JB (by have:=KY (TM e) xs x hx;omega)⟩
 | .pair a b,x,h=>by simp only[TM]at h;exact⟨JB (by omega),JB (by omega)⟩
theorem cX.mono {m:Nat}(h:n<=m:=by omega):∀{t:CT}{x:t.D},cX n t x->cX m t x
 | .int _,_,_=>trivial
 | .bool,_,_=>trivial
 | .str,_,k=>bw k h
 | .sl _,_,k=>⟨bw k.1 h,λx hx=>cX.mono h (k.2 x hx)⟩
 | .pair _ _,_,k=>⟨cX.mono h k.1,cX.mono h k.2⟩
def XT:(t:CT)->t.D->Prop
 | .int k,n=>k.min<=n/\n<=k.max
 | .bool,_=>True
 | .str,s=>s.length<=9223372036854775807
 | .sl e,xs=>xs.length<=9223372036854775807/\∀x∈xs,XT e x
 | .pair a b,x=>XT a x.1/\XT b x.2
def kA (l n:Int):Int:=if n<=l then l-n else-1
def JC (f:α->Int->ax Int)(k0:Int->Int->ax R)(k1:Int->Int->Int->ax R)(v0:aw α)(nx:Int×Int->ax R)(x:Int×Int):ax R:=
 cond (decide (x.2<((List.length v0:Int)))) (
  aa (idx v0 x.2) λx1=>
  aa (f x1 x.1) λr2=>
  cond (decide (r2<0)) (
   k1 r2 (-1) x.2) (
   nx (r2,au (x.2+1)))) (
  k0 x.1 x.2)
noncomputable def Qn (f:α->Int->ax Int)(a0:aw α)(a1:Int):ax Int:=
 cond (decide ((au (a1-((List.length a0:Int))))<0)) (
  some (-1)) (
  aX (JC f (λy3 _=>some y3) (λ_ y6 _=>some y6) a0) fuel (au (a1-((List.length a0:Int))),0))
theorem Wt {f:α->Int->ax Int}{s:α->Nat}{a:aw α}{l:Int}(h0:0<=l)(h1:l<=1048576)(hm:a.length<=9223372036854775807)(hf:∀x∈a,∀l:Int,0<=l->l<=1048576->∃r,f x l=some r/\((s x:Int)<=l->r=l-s x)/\(¬(s x:Int)<=l->r<0)):Qn f a l=some (kA l ((a.length+(a.map s).sum:Nat):Int)):=by
 unfold Qn;have Ak:=dR;rw[ak];rcases Int.lt_or_le (l-a.length) 0 with anu|Yx;rw[ar anu];simp only[ah,kA];rw[lZ];rw[cC];simp only[af];have key:=uS (T:=JC f (λy3 _=>some y3) (λ_ y6 _=>some y6) a) a (λ(q:Int) i=>(q,(i:Int))) (λx q k=>aa (f x q) λr=>cond (decide (r<0)) (some (-1)) (k r)) (λq=>some q) (λi hi q nx=>by simp only[JC];rw[jU];simp only[ah,bf hi,ab];rw[ak];rfl) (λq nx=>by simp only[JC];rw[cC];rfl) fuel 0 (l-a.length) (by omega) (by omega);have e:((0:Nat):Int)=0:=rfl;rw[e,dP]at key;rw[key];have main:∀(b:aw α)(q:Int),0<=q->q<=1048576->(∀x∈b,x∈a)->qT (λx q k=>aa (f x q) λr=>cond (decide (r<0)) (some (-1)) (k r)) (λq=>some q) b q=some (kA q ((b.map s).sum:Nat)):=by intro b;induction b with|nil=>intro q hq _ _;simp[qT,kA,hq]|cons x b ih=>intro q hq hq2 hb;obtain⟨r,hr,hr1,Mo⟩:=hf x (hb x (by simp)) q hq hq2;rw[qT,hr,ab];by_cases hle:(s x:Int)<=q;have:=hr1 hle;subst this;rw[cC];simp only[af];rw[ih _ (by omega) (by omega) (λy hy=>hb y (by simp[hy]))];simp only[kA,cV,List.sum_cons];congr 1;split<;>split<;>omega;rw[ar (Mo hle)];simp only[ah,kA,cV,List.sum_cons];rw[lZ]
 rw[main a _ (by omega) (by omega) (λx h=>h)];simp only[kA];congr 1;split<;>split<;>omega
def zI (f:Int->ax Int)(n:Nat):Prop:=∀l:Int,0<=l->l<=1048576->f l=some (kA l n)
theorem zI.nil:zI (λl=>some l) 0:=λl h0 _=>by simp[kA,h0]
theorem zI.len {m:Nat}(hn:n<=9223372036854775807){k:Int->ax Int}(h:zI k m): zI (λl=>cond (decide (au (l-(n:Int))<0)) (some (-1)) (k (au (l-(n:Int))))) (n+m):=by intro l h0 h1;simp only;rw[ak];by_cases hl:l-(n:Int)<0;rw[ar hl];simp only[ah,kA];rw[lZ];rw[aq hl];simp only[af];rw[h _ (by omega) (by omega)];simp only[kA];congr 1;split<;>split<;>omega
theorem zI.sub {k:Int->ax Int}{m:Nat}(hf:zI f n)(h:zI k m):zI (λl=>aa (f l) λr=>cond (decide (r<0)) (some (-1)) (k r)) (n+m):=by
 intro l h0 h1;simp only;rw[hf l h0 h1,ab];by_cases hl:(n:Int)<=l;have e:kA l n=l-n:=by simp[kA,hl]
 rw[e,cC];simp only[af];rw[h _ (by omega) (by omega)];simp only[kA];congr 1;split<;>split<;>omega;have e:kA l n= -1:=by simp[kA,hl]
 rw[e];simp only[kA];rw[lZ];rfl
theorem zI.cast {m:Nat}(h:zI f n)(e:n=m):zI f m:=e▸h
theorem zI.list {f:α->Int->ax Int}{s:α->Nat}{a:aw α}(hm:a.length<=9223372036854775807)(hf:∀x∈a,zI (f x) (s x)):zI (Qn f a) (a.length+(a.map s).sum):=λ_ h0 h1=>Wt h0 h1 hm (λx hx l h0 h1=>⟨_,hf x hx l h0 h1,λh=>by simp[kA,h],λh=>by simp[kA,h]⟩)
theorem zI.flat (hn:n<=9223372036854775807):zI (λl=>cond (decide (au (l-(n:Int))<0)) (some (-1)) (some (au (l-(n:Int))))) n:=(zI.len (n:=n) hn zI.nil).cast (by omega)
theorem zI.use (hf:zI f n){l:Int}(h0:0<=l)(h1:l<=1048576){k:Int->ax Bool}(hk:(n:Int)<=l->k (l-n)=some true): (aa (f l) λr=>cond (decide (r<0)) (some true) (k r))=some true:=by
 rw[hf l h0 h1,ab];by_cases hl:(n:Int)<=l;have e:kA l n=l-n:=by simp[kA,hl]
 rw[e,cC];exact hk hl;have e:kA l n= -1:=by simp[kA,hl]
 rw[e];rfl
theorem Fl {T:(Int->ax R)->Int->ax R}{fin hit:ax R}(p:α->Bool)(a:aw α)(h:a.length<=1000000000000)(hs:∀i (hi:i<a.length) nx,T nx (i:Int)=cond (p a[i]) hit (nx ((i+1:Nat):Int)))(hf:∀nx,T nx (a.length:Int)=fin): aX T fuel 0=cond (a.any p) hit fin:=by
 have Ak:=dR;have key:∀n i,i<=a.length->a.length-i<n->aX T n (i:Int)=cond ((a.drop i).any p) hit fin:=by
  intro n;induction n with
  |zero=>intro i _ h;omega
  |succ n ih=>
   intro i hi hn;rw[aX];rcases cc i a.length with gQ|yP;rw[hs i gQ,bJ gQ,List.any_cons];cases hq:p a[i]with|true=>rfl|false=>exact ih (i+1) (by omega) (by omega)
   have:i=a.length:=by omega
   subst this;rw[hf,List.drop_length];rfl
 exact key fuel 0 (by omega) (by omega)
theorem oF {T:(Int->ax R)->Int->ax R}{fin hit:ax R}(p:Nat->Bool)(N:Nat)(h:N<=1000000000000)(hs:∀i nx,i<N->T nx (i:Int)=cond (!(p i)) hit (nx ((i+1:Nat):Int)))(hf:∀nx,T nx (N:Int)=fin): aX T fuel 0=cond ((range N).all p) fin hit:=by
 have Ak:=dR;have key:∀n i,i<=N->N-i<n->aX T n (i:Int)=cond ((List.range' i (N-i)).all p) fin hit:=by
  intro n;induction n with
  |zero=>intro i _ h;omega
  |succ n ih=>
   intro i hi hn;rw[aX];rcases cc i N with gQ|yP;rw[hs i _ gQ,show N-i=(N-(i+1))+1 by omega,List.range'_succ,cb];cases hq:p i with|false=>rfl|true=>exact ih (i+1) (by omega) (by omega)
   have:i=N:=by omega
   subst this;rw[hf,kW];rfl
 have:=key fuel 0 (by omega) (by omega);rw[Nat.sub_zero,<-List.range_eq_range']at this;exact this
theorem oE {T:(Int->ax R)->Int->ax R}{fin hit:ax R}(p:α->Bool)(a:aw α)(h:a.length<=1000000000000)(hs:∀i (hi:i<a.length) nx,T nx (i:Int)=cond (!(p a[i])) hit (nx ((i+1:Nat):Int)))(hf:∀nx,T nx (a.length:Int)=fin): aX T fuel 0=cond (a.all p) fin hit:=by
 have:=Fl (T:=T) (fin:=fin) (hit:=hit) (λx=> !(p x)) a h hs hf;rw[this];have e:a.any (λx=> !(p x))= !(a.all p):=by rw[cq];simp
 rw[e];cases a.all p<;>rfl
theorem MQ {T:(X->ax R)->X->ax R}{fin hit:ax R}(e:Nat->X)(p:Nat->Bool)(N:Nat)(h:N<=1000000000000)(hs:∀i nx,i<N->(∀j,j<i->p j=true)->T nx (e i)=cond (!(p i)) hit (nx (e (i+1))))(hf:(∀j,j<N->p j=true)->∀nx,T nx (e N)=fin): aX T fuel (e 0)=cond ((range N).all p) fin hit:=by
 have Ak:=dR;have key:∀n i,i<=N->N-i<n->(∀j,j<i->p j=true)->aX T n (e i)=cond ((List.range' i (N-i)).all p) fin hit:=by
  intro n;induction n with
  |zero=>intro i _ h;omega
  |succ n ih=>
   intro i hi hn hp;rw[aX];rcases cc i N with gQ|yP;rw[hs i _ gQ hp,show N-i=(N-(i+1))+1 by omega,List.range'_succ,cb];cases hq:p i with|false=>rfl|true=>refine ih (i+1) (by omega) (by omega) λj hj=>?_;by_cases hji:j=i;rw[hji];exact hq;exact hp j (by omega)
   have:i=N:=by omega
   subst this;rw[hf hp,kW];rfl
 have:=key fuel 0 (by omega) (by omega) (λj hj=>absurd hj (by omega));rw[Nat.sub_zero,<-List.range_eq_range']at this;exact this
theorem Di {T:(Int->ax R)->Int->ax R}{fin:ax R}{hit:Int->ax R}(p:α->Bool)(a:aw α)(h:a.length<=1000000000000)(hs:∀i (hi:i<a.length) nx,T nx (i:Int)=cond (p a[i]) (hit (i:Int)) (nx ((i+1:Nat):Int)))(hf:∀nx,T nx (a.length:Int)=fin): aX T fuel 0=(match a.findIdx? p with|some i=>hit (i:Int)|none=>fin):=by
 have Ak:=dR;have key:∀n i,i<=a.length->a.length-i<n->aX T n (i:Int)=(match (a.drop i).findIdx? p with|some j=>hit ((i+j:Nat):Int)|none=>fin):=by
  intro n;induction n with
  |zero=>intro i _ h;omega
  |succ n ih=>
   intro i hi hn;rw[aX];rcases cc i a.length with gQ|yP;rw[hs i gQ,bJ gQ,List.findIdx?_cons];cases hq:p a[i]with|true=>rfl|false=>have:=ih (i+1) (by omega) (by omega);simp only[af];refine this.trans ?_;cases (a.drop (i+1)).findIdx? p with|none=>rfl|some j=>simp only[dc,aW,bU];congr 2;omega
   have:i=a.length:=by omega
   subst this;rw[hf,List.drop_length];rfl
 have:=key fuel 0 (by omega) (by omega);refine this.trans ?_;rw[dP];cases a.findIdx? p with|none=>rfl|some j=>simp only[ca]
theorem cF (a b:Bool):(bif a then b else false)=(a&&b):=by cases a<;>rfl
theorem cT (a b:Bool):(bif a then true else b)=(a||b):=by cases a<;>rfl
theorem cN (a b:Bool):(bif a then false else b)=(!a&&b):=by cases a<;>rfl
def P3 (g:α->σ->Except (ax R) σ)(fin:σ->ax R):aw α->σ->ax R
 |[],s=>fin s
 |x::xs,s=>match g x s with| .error r=>r| .ok s'=>P3 g fin xs s'
theorem Gs {T:(X->ax R)->X->ax R}(xs:aw α)(e:σ->Nat->X)(Inv:Nat->σ->Prop)(g:α->σ->Except (ax R) σ)(fin:σ->ax R)(h:xs.length<=1000000000000)(hs:∀i (hi:i<xs.length) s nx,Inv i s->T nx (e s i)=match g xs[i] s with| .error r=>r| .ok s'=>nx (e s' (i+1)))(hn:∀i (hi:i<xs.length) s s',Inv i s->g xs[i] s=.ok s'->Inv (i+1) s')(hf:∀s nx,Inv xs.length s->T nx (e s xs.length)=fin s)(s:σ)(h0:Inv 0 s): aX T fuel (e s 0)=P3 g fin xs s:=by
 have key:∀n i s,i<=xs.length->xs.length-i<n->Inv i s->aX T n (e s i)=P3 g fin (xs.drop i) s:=by
  intro n;induction n with
  |zero=>intro i s _ h;omega
  |succ n ih=>
   intro i s hi BP hI;rw[aX];rcases cc i xs.length with gQ|yP;rw[hs i gQ s _ hI,bJ gQ,P3];cases hg:g xs[i] s with|error r=>rfl|ok s'=>exact ih (i+1) s' (by omega) (by omega) (hn i gQ s s' hI hg)
   have:i=xs.length:=by omega
   subst this;rw[hf s _ hI,List.drop_length,P3]
 have Ak:=dR;have:=key fuel 0 s (by omega) (by omega) h0;rwa[dP]at this
theorem Jx (f:σ->α->σ)(fin:σ->ax R):∀(xs:aw α)(s:σ),P3 (λx s=> .ok (f s x)) fin xs s=fin (xs.foldl f s)
 |[],_=>rfl
 |x::xs,s=>by rw[P3];exact Jx f fin xs (f s x)
theorem eG {T:(X->ax R)->X->ax R}{fin:ax R}(e:Nat->X)(N:Nat)(h:N<=1000000000000)(hs:∀i nx,i<N->T nx (e i)=nx (e (i+1)))(hf:∀nx,T nx (e N)=fin):aX T fuel (e 0)=fin:=by rw[MQ (hit:=fin) (fin:=fin) e (λ_=>true) N h (λi nx hi _=>by rw[hs i nx hi];rfl) (λ_ nx=>hf nx)];cases (range N).all (λ_=>true)<;>rfl
theorem mX {l:aw α}{k:ax R}(h:l.length<=10^9):room (List.length ([]:aw α)+l.length) k=k:=aP (by simp only[ef];omega)
def dm (a lo hi:Int):Bool:=decide (lo<=a)&&decide (a<=hi)
theorem bg {a lo hi:Int}:dm a lo hi=true↔lo<=a/\a<=hi:=by simp[dm]
theorem eu (a b c:Int):ba a b c=some (dm a b c):=by simp only[ba,bL,ab,dm];cases h:decide (a>=b)<;>rfl
theorem di (a b c:Int):aD a b c=some (dm a b c):=eu a b c
theorem cL {l:aw α}(h:i<l.length)(d:α):l.getD i d=l[i]:=by rw[cm,al h];rfl
def LY (l:cw)(i:Nat):Bool:=dm (l.getD i 0) 0 4095&& !(decide (0<i)&&decide (l.getD i 0<=l.getD (i-1) 0))
def qf (f:Filter):Bool:=(range f.2.2.length).all (LY f.2.2)&&(dm f.1 0 281474976710654&&decide ((f.2.2.length:Int)<=8))
theorem We (f:Filter)(h:f.2.2.length<=10^9):vS f=some (qf f):=by
 unfold vS;rw[oF (hit:=some false) (fin:=some (dm f.1 0 281474976710654&&decide ((f.2.2.length:Int)<=8))) (LY f.2.2) f.2.2.length (by omega) (λi nx hi=>?hs) (λnx=>?hf)]
 case hs=>
  simp only[qE]
  rw[jU,bf hi,ak (n:=(i:Int)+1)]
  simp only[ah,ab,eu,LY,cL hi]
  by_cases h0:0<i
  ·have e:au ((i:Int)-1)=((i-1:Nat):Int):=by rw[ak];omega
   have hp:i-1<f.2.2.length:=by omega
   rw[e,bf hp,ar (show(i:Int)>0 by omega),ar h0,cL hp]
   simp only[ah,ab,bp]
   cases dm f.2.2[i] 0 4095<;>cases decide (f.2.2[i]<=f.2.2[i-1])<;>rfl
  ·rw[aq (show¬(i:Int)>0 by omega),aq h0]
   simp only[af,dN]
   cases dm f.2.2[i] 0 4095<;>rfl
 case hf=>
  simp only[qE]
  rw[cC]
  simp only[af,eu,ab,wK,bL]
  cases dm f.1 0 281474976710654<;>rfl
 unfold qf;cases (range f.2.2.length).all (LY f.2.2)<;>rfl
theorem KE (f:Filter)(h:f.2.2.length<=10^9):rm f=some (qf f):=by
 unfold rm;rw[oF (hit:=some false) (fin:=some (dm f.1 0 281474976710654&&decide ((f.2.2.length:Int)<=8))) (LY f.2.2) f.2.2.length (by omega) (λi nx hi=>?hs) (λnx=>?hf)]
 case hs=>
  simp only[qh]
  rw[jU,bf hi,ak (n:=(i:Int)+1)]
  simp only[ah,ab,di,LY,cL hi]
  by_cases h0:0<i
  ·have e:au ((i:Int)-1)=((i-1:Nat):Int):=by rw[ak];omega
   have hp:i-1<f.2.2.length:=by omega
   rw[e,bf hp,ar (show(i:Int)>0 by omega),ar h0,cL hp]
   simp only[ah,ab,bp,ge_iff_le]
   cases dm f.2.2[i] 0 4095<;>cases decide (f.2.2[i]<=f.2.2[i-1])<;>rfl
  ·rw[aq (show¬(i:Int)>0 by omega),aq h0]
   simp only[af,dN]
   cases dm f.2.2[i] 0 4095<;>rfl
 case hf=>
  simp only[qh]
  rw[cC]
  simp only[af,di,ab,wK,bL]
  cases dm f.1 0 281474976710654<;>rfl
 unfold qf;cases (range f.2.2.length).all (LY f.2.2)<;>rfl
def zB (r:iA):Bool:=(lK r).getD false
theorem Ti (r:iA):lK r=some (zB r):=by
 have:∃b,lK r=some b:=by simp only[lK,eu,ab,bL];exact⟨_,rfl⟩
 obtain⟨b,hb⟩:=this;simp[zB,hb]
theorem acB (r:iA):zn r=some (zB r):=Ti r
theorem S0 {r:iA}(h:zB r=true):r.2.2.2.2.2.2.2.1=0\/r.2.2.2.2.2.2.2.2=0:=by
 by_cases h0:r.2.2.2.2.2.2.2.1=0;exact .inl h0;by_cases h1:r.2.2.2.2.2.2.2.2=0;exact .inr h1;exfalso;have e0:(r.2.2.2.2.2.2.2.1==0)=false:=by simp[h0]
 have e1:(r.2.2.2.2.2.2.2.2==0)=false:=by simp[h1]
 revert h;unfold zB;simp only[lK,eu,ab,bL,e0,e1,af,fB];have z:∀c:Bool,(bif c then false else false)=false:=by intro c;cases c<;>rfl
 simp only[z];intro h;cases h
def wT (l:aw iA):Bool:=l.all zB&&decide ((l.length:Int)<=12)
theorem N6 (l:aw iA)(h:l.length<=10^9):xC l=some (wT l):=by
 unfold xC;rw[oE (hit:=some false) (fin:=some (decide ((l.length:Int)<=12))) zB l (by omega) (λi hi nx=>?hs) (λnx=>?hf)]
 case hs=>
  simp only[sy]
  rw[jU,bf hi,ak]
  simp only[ah,ab,Ti];rfl
 case hf=>
  simp only[sy]
  rw[cC];rfl
 unfold wT;cases l.all zB<;>rfl
theorem Nu (l:aw iA)(h:l.length<=10^9):xu l=some (wT l):=by rw[<-N6 l h];rfl
theorem amL (x:Int):((BitVec.ofInt 64 x&&&BitVec.ofInt 64 7).toNat:Int)=x%8:=by
 have h7:(BitVec.ofInt 64 7).toNat=2^3-1:=by decide
 rw[BitVec.toNat_and,h7,Nat.and_two_pow_sub_one_eq_mod];simp only[BitVec.toNat_ofInt];omega
theorem aiJ (x:Int):((ga x&&&ga 7).toNat:Int)=x%8:=amL x
theorem ae8 (x:Int):ix x 8=some (x%8):=by unfold ix;rw[lZ,Int.tmod_eq_emod];split;rw[cC];simp;rw[ar (by simp;omega),ak (by simp;omega) (by simp;omega)];simp
def Ao (f:iz):Int:=(f.1%8+f.2.1%8+f.2.2.1%8+f.2.2.2.1%8+f.2.2.2.2%8)%8
theorem Ku (f:iz):0<=Ao f/\Ao f<8:=by unfold Ao;omega
theorem ad1 {n:Int}(h:0<=n:=by omega):tmod n 8=n%8:=df h
theorem Te (f:iz):rL f=some (Ao f):=by
 unfold rL;generalize hL:[f.1,f.2.1,f.2.2.1,f.2.2.2.1,f.2.2.2.2]=L;have hlen:L.length=5:=by rw[<-hL];rfl
 have Ak:=dR;have key:=uS (R:=Int) (T:=nf (λ(y2:Int) (y3:Int)=>if 8=0 then none else(some (tmod y2 8))) L) L (λ(s:Int) i=>(s,(i:Int))) (λx s k=>k (au (s+au (x%8)))) (λs=>some (tmod s 8)) (λi hi s nx=>by simp only[nf];rw[jU,bf hi,ak (n:=(i:Int)+1)];simp only[ah,ab];rw[aiJ L[i]];rfl) (λs nx=>by simp only[nf];rw[cC];rfl) fuel 0 0 (by omega) (by omega);refine key.trans ?_;rw[<-hL];simp only[dP,qT];rw[ak (n:=f.1%8),ak (n:=f.2.1%8),ak (n:=f.2.2.1%8),ak (n:=f.2.2.2.1%8),ak (n:=f.2.2.2.2%8)];rw[ak (n:=0+f.1%8),ak (n:=0+f.1%8+_),ak (n:=0+f.1%8+_+_),ak (n:=0+f.1%8+_+_+_),ak (n:=0+f.1%8+_+_+_+_)];rw[ad1,Ao,Int.zero_add]
theorem acq (f:iz):vA f=some (Ao f):=by
 unfold vA;generalize hL:[f.1,f.2.1,f.2.2.1,f.2.2.2.1,f.2.2.2.2]=L;have hlen:L.length=5:=by rw[<-hL];rfl
 have Ak:=dR;have key:=uS (R:=Int) (T:=mN (λ(y2:Int) (y3:Int)=>if 8=0 then none else(some (tmod y2 8))) L (L.length:Int)) L (λ(s:Int) i=>(s,(i:Int))) (λx s k=>k (au (s+(x%8)))) (λs=>some (tmod s 8)) (λi hi s nx=>by simp only[mN];rw[jU,bf hi,ak (n:=(i:Int)+1)];simp only[ah,ab,ae8];rfl) (λs nx=>by simp only[mN];rw[cC];rfl) fuel 0 0 (by omega) (by omega);refine key.trans ?_;rw[<-hL];simp only[dP,qT];rw[ak (n:=0+f.1%8),ak (n:=0+f.1%8+_),ak (n:=0+f.1%8+_+_),ak (n:=0+f.1%8+_+_+_),ak (n:=0+f.1%8+_+_+_+_)];rw[ad1,Ao,Int.zero_add]
def fQ (t:aw Slot)(i:Nat):Slot:=t.getD i (0,(0,0,0,0,0),0)
theorem uY {t:aw Slot}(h:i<t.length):fQ t i=t[i]:=cL h _
def kP (f:iz)(k:Nat):Nat:=((Ao f).toNat+k)%8
theorem DJ (f:iz)(k:Nat):kP f k<8:=Nat.mod_lt _ (by omega)
theorem TA (f:iz)(k:Nat)(h:k<8):tmod (au (Ao f+(k:Int))) 8=(kP f k:Int):=by have:=Ku f;rw[ak,ad1,kP];omega
def oA (s:Slot)(f:iz):Bool:=(s.1==1)&&decide (s.2.1=f)
theorem FA (p q:iz):((p.1==q.1)&&((p.2.1==q.2.1)&&((p.2.2.1==q.2.2.1)&&((p.2.2.2.1==q.2.2.2.1)&&((p.2.2.2.2==q.2.2.2.2)&&true)))))=decide (p=q):=by obtain⟨a,b,c,d,e⟩:=p;obtain⟨a',b',c',d',e'⟩:=q;rw[cq];simp
def walk (t:aw Slot)(f:iz):Nat->Nat->Int
 |0,_=> -1
 |n+1,k=>if(fQ t (kP f k)).1=0 then-1 else if oA (fQ t (kP f k)) f then(kP f k:Int) else walk t f n (k+1)
theorem Td (t:aw Slot)(f:iz)(ht:t.length=8):uy t f=some (walk t f 8 0):=by
 unfold uy;have Ak:=dR
 have key:=F9 (R:=Int) (T:=ow (λ(y6:Int)=>some (-1)) (λ(y7:Int) (y8:Int)=>some y7) 0 t f) 8 (λ(_:Unit) i=>(i:Int))
  (λi s k=>if(fQ t (kP f i)).1=0 then some (-1) else if oA (fQ t (kP f i)) f then some (kP f i:Int) else k s) (λ_=>some (-1))
  (λi s nx hi=>by
   have hw:kP f i<t.length:=by have:=DJ f i;omega
   simp only[ow,Te];rw[jU,ak (n:=(i:Int)+1)];simp only[ah,ab,TA f i hi,bf hw,uY hw,FA,oA,bL,ab];rw[lZ];by_cases h0:t[kP f i].1=0;simp[h0];have e0:(t[kP f i].1==0)=false:=by simp[h0]
   rw[e0,aH h0];cases (t[kP f i].1==1)<;>cases decide (t[kP f i].2.1=f)<;>rfl)
  (λs nx=>by simp only[ow];rfl)
  fuel 0 () (by omega) (by omega)
 refine key.trans ?_;have main:∀n i,upK (R:=Int) (λi (s:Unit) k=>if(fQ t (kP f i)).1=0 then some (-1) else if oA (fQ t (kP f i)) f then some (kP f i:Int) else k s) (λ_=>some (-1)) 8 n i ()=some (walk t f n i):=by intro n;induction n with|zero=>intro i;rfl|succ n ih=>intro i;rw[upK,walk];split;rfl;split;rfl;exact ih (i+1)
 exact main 8 0
def wL (f:iz):aw Slot->Int->Int
 |[],_=> -1
 |s::r,i=>if oA s f then i else wL f r (i+1)
theorem R1 (t:aw Slot)(f:iz)(h:t.length<=10^9):wu t f=some (wL f t 0):=by
 unfold wu;have Ak:=dR;have key:∀n i,i<=t.length->t.length-i<n->aX (tW (λ(y3:Int)=>some (-1)) (λ(y4:Int) (y5:Int)=>some y4) 0 t ((List.length t:Int)) f) n (i:Int)=some (wL f (t.drop i) i):=by
  intro n;induction n with
  |zero=>intro i _ h;omega
  |succ n ih=>
   intro i hi hn;rw[aX];simp only[tW];rcases cc i t.length with gQ|yP;rw[jU,bf gQ,bJ gQ,wL,ak];simp only[ah,ab,FA,bL];have e:(bif t[i].1==1 then decide (t[i].2.1=f) else false)=oA t[i] f:=by unfold oA;cases (t[i].1==1)<;>rfl
   rw[e];cases oA t[i] f with|true=>rfl|false=>exact ih (i+1) (by omega) (by omega)
   have:i=t.length:=by omega
   subst this;rw[cC,List.drop_length];rfl
 exact key fuel 0 (by omega) (by omega)
theorem aeS (f:iz):Bh f=some ((range 8).map λk=>(kP f k:Int)):=by unfold Bh;have Ak:=dR;have key:=F9 (R:=cw) (T:=rD (λ(y2:cw) (y3:Int)=>some y2) f) 8 (λ(_:Unit) i=>((range i).map (λk=>(kP f k:Int)),(i:Int))) (λ_ s k=>k s) (λ_=>some ((range 8).map λk=>(kP f k:Int))) (λi s nx hi=>by simp only[rD,acq];rw[jU,ak (n:=(i:Int)+1)];simp only[ah,ab,TA f i hi];rw[lZ,aP (by simp;omega),List.range_succ,List.map_append];rfl) (λs nx=>by simp only[rD];rfl) fuel 0 () (by omega) (by omega);exact key
def clear (t:aw Slot)(f:iz)(i:Nat):Nat->Nat->Bool
 |0,_=>true
 |n+1,k=>if kP f k=i then true else if(fQ t (kP f k)).1=0 then false else clear t f i n (k+1)
theorem YF (k0:Int->ax R)(k1:Bool->Int->ax R)(hit fin:ax R)(h0:∀x,k0 x=fin)(h1:∀x,k1 false x=hit)(v2:Bool)(i:Nat)(Fg:aw Slot)(Ww v14:Int)(t:aw Slot)(f:iz)(ht:t.length=8): aX (kf k0 k1 v2 (i:Int) Fg Ww v14 ((range 8).map λk=>(kP f k:Int)) (((range 8).map λk=>(kP f k:Int)).length:Int) t) fuel 0=cond (clear t f i 8 0) fin hit:=by
 have Ak:=dR;have hl:((range 8).map λk=>(kP f k:Int)).length=8:=by simp
 have key:=F9 (R:=R) (T:=kf k0 k1 v2 (i:Int) Fg Ww v14 ((range 8).map λk=>(kP f k:Int)) (((range 8).map λk=>(kP f k:Int)).length:Int) t) 8 (λ(_:Unit) i=>(i:Int))
  (λk s c=>if kP f k=i then fin else if(fQ t (kP f k)).1=0 then hit else c s) (λ_=>fin)
  (λk s nx hk=>by
   have hw:kP f k<t.length:=by have:=DJ f k;omega
   simp only[kf];rw[jU,bf (show k<((range 8).map λk=>(kP f k:Int)).length by omega),ak (n:=(k:Int)+1)];simp only[ah,ab,List.getElem_map,List.getElem_range,bf hw,uY hw,h0,h1];by_cases e1:kP f k=i;subst e1;simp;have:((kP f k:Int)==(i:Int))=false:=by simp;omega
   rw[this,aH e1];by_cases e2:t[kP f k].1=0;simp[e2];have:(t[kP f k].1==0)=false:=by simp[e2]
   rw[this,aH e2];rfl)
  (λs nx=>by simp only[kf];rw[cC];exact h0 _)
  fuel 0 () (by omega) (by omega)
 refine key.trans ?_;have main:∀n k,upK (R:=R) (λk (s:Unit) c=>if kP f k=i then fin else if(fQ t (kP f k)).1=0 then hit else c s) (λ_=>fin) 8 n k ()=cond (clear t f i n k) fin hit:=by intro n;induction n with|zero=>intro k;rfl|succ n ih=>intro k;rw[upK,clear];split;rfl;split;rfl;exact ih (k+1)
 exact main 8 0
def Re:iz:=(0,0,0,0,0)
theorem Rf (p:iz):((p.1==0)&&((p.2.1==0)&&((p.2.2.1==0)&&((p.2.2.2.1==0)&&((p.2.2.2.2==0)&&true)))))=decide (p=Re):=FA p Re
def N5 (s:Slot):Bool:=dm s.1 0 2&&dm s.2.2 0 3&&((s.1==1)||(s.2.2==0)&&decide (s.2.1=Re))
def mZ (t:aw Slot)(i:Nat):Bool:=N5 (fQ t i)&&(!((fQ t i).1==1)||(walk t (fQ t i).2.1 8 0==(i:Int)))
def sU (t:aw Slot)(i:Nat):Bool:=N5 (fQ t i)&&(!((fQ t i).1==1)||(wL (fQ t i).2.1 t 0==(i:Int))&&clear t (fQ t i).2.1 i 8 0)
def nT (t:aw Slot):Bool:=(t.length==8)&&(range 8).all (mZ t)
theorem N7 (t:aw Slot):ur t=some (nT t):=by
 unfold ur nT;by_cases ht:t.length=8
 ·have e:((t.length:Int) !=8)=false:=by rw[ht];rfl
  have e2:(t.length==8)=true:=by rw[ht];rfl
  rw[e,e2];simp only[af,bp];rw[oF (hit:=some false) (fin:=some true) (mZ t) 8 (by omega) (λi nx hi=>?hs) (λnx=>?hf)]
  case hs=>
   have hl:i<t.length:=by omega
   simp only[sB]
   rw[jU,bf hl,ak]
   simp only[ah,ab,eu,bL,Rf,Td t _ ht,mZ,uY hl,N5,bne]
   cases dm t[i].1 0 2<;>cases dm t[i].2.2 0 3<;>cases (t[i].1==1)<;>cases (t[i].2.2==0)<;>cases decide (t[i].2.1=Re)<;>first|rfl|(cases (walk t t[i].2.1 8 0==(i:Int))<;>rfl)
  case hf=>
   simp only[sB]
   rw[cC];rfl
  cases (range 8).all (mZ t)<;>rfl
 have e:((t.length:Int) !=8)=true:=by simp;omega
 have e2:(t.length==8)=false:=by simp[ht]
 rw[e,e2];rfl
theorem Vh (t:aw Slot):qu t=some ((t.length==8)&&(range 8).all (sU t)):=by
 unfold qu;by_cases ht:t.length=8
 ·have e:((t.length:Int) !=8)=false:=by rw[ht];rfl
  have e2:(t.length==8)=true:=by rw[ht];rfl
  rw[e,e2];simp only[af,bp];rw[oF (hit:=some false) (fin:=some true) (sU t) 8 (by omega) (λi nx hi=>?hs) (λnx=>?hf)]
  case hs=>
   have hl:i<t.length:=by omega
   simp only[sf]
   rw[jU,bf hl,ak]
   simp only[ah,ab,di,bL,Rf,R1 t _ (show t.length<=10^9 by omega),aeS,sU,uY hl,N5,bne]
   rw[YF (λ_=>nx ((i:Int)+1)) (λ(y:Bool) (_:Int)=>some y) (some false) (nx ((i:Int)+1)) (λ_=>rfl) (λ_=>rfl) _ _ _ _ _ _ _ ht]
   cases dm t[i].1 0 2<;>cases dm t[i].2.2 0 3<;>cases (t[i].1==1)<;>cases (t[i].2.2==0)<;>cases decide (t[i].2.1=Re)<;>first|rfl|(cases (wL t[i].2.1 t 0==(i:Int))<;>first|rfl|(cases clear t t[i].2.1 i 8 0<;>rfl))
  case hf=>
   simp only[sf]
   rw[cC];rfl
  cases (range 8).all (sU t)<;>rfl
 have e:((t.length:Int) !=8)=true:=by simp;omega
 have e2:(t.length==8)=false:=by simp[ht]
 rw[e,e2];rfl
theorem Of (t:aw Slot)(f:iz)(i:Nat):∀n k,walk t f n k=(i:Int)->oA (fQ t i) f=true/\clear t f i n k=true/\∃j,j<n/\kP f (k+j)=i
 |0,k,h=>by unfold walk at h;omega
 |n+1,k,h=>by
  unfold walk at h;unfold clear;by_cases h0:(fQ t (kP f k)).1=0;rw[aE h0]at h;omega;rw[aH h0]at h;by_cases h1:oA (fQ t (kP f k)) f=true;rw[aE h1]at h;have:kP f k=i:=by omega
  subst this;exact⟨h1,by simp,0,by omega,rfl⟩;rw[aH h1]at h;obtain⟨a,b,j,hj,e⟩:=Of t f i n (k+1) h;refine⟨a,?_,j+1,by omega,by rw[<-e];congr 1;omega⟩;rw[aH h0,b];split<;>rfl
theorem XS (t:aw Slot)(f:iz)(i:Nat)(hu:oA (fQ t i) f=true)(af9:∀j,j<8->oA (fQ t j) f=true->j=i):∀n k,clear t f i n k=true->(∃j,j<n/\kP f (k+j)=i)->walk t f n k=(i:Int)
 |0,k,_,h=>by obtain⟨j,hj,_⟩:=h;omega
 |n+1,k,hc,⟨j,hj,e⟩=>by unfold walk;unfold clear at hc;by_cases h1:kP f k=i;rw[h1,aH,aE hu];intro h0;unfold oA at hu;rw[h0]at hu;simp at hu;rw[aH h1]at hc;by_cases h0:(fQ t (kP f k)).1=0;rw[aE h0]at hc;cases hc;rw[aH h0]at hc;rw[aH h0,aH (λPn=>h1 (af9 _ (DJ f k) Pn))];refine XS t f i hu af9 n (k+1) hc ?_;cases j with|zero=>exact absurd e h1|succ j=>exact⟨j,by omega,by rw[<-e];congr 1;omega⟩
theorem afB (f:iz)(i:Nat)(hi:i<8):∃j,j<8/\kP f (0+j)=i:=by have:=Ku f;refine⟨(i+8-(Ao f).toNat)%8,by omega,?_⟩;unfold kP;omega
theorem Cj (f:iz):∀(t:aw Slot)(m:Nat),(∃j,j<t.length/\oA (fQ t j) f=true)->∃j,j<t.length/\oA (fQ t j) f=true/\wL f t m=((m+j:Nat):Int)
 |[],_,h=>by obtain⟨j,hj,_⟩:=h;simp at hj
 |s::r,m,⟨j,hj,e⟩=>by
  unfold wL;by_cases hs:oA s f=true;rw[aE hs];exact⟨0,by simp,by simpa[fQ]using hs,by simp⟩;rw[aH hs];cases j with
  |zero=>exact absurd (by simpa[fQ]using e) hs
  |succ j=>
   obtain⟨j',h1,h2,h3⟩:=Cj f r (m+1) ⟨j,by simpa using hj,by simpa[fQ]using e⟩;refine⟨j'+1,by simpa using h1,by simpa[fQ]using h2,?_⟩;have:((m:Int)+1)=((m+1:Nat):Int):=by omega
   rw[this,h3];congr 1;omega
theorem Wc (t:aw Slot)(ht:t.length=8):(range 8).all (sU t)=(range 8).all (mZ t):=by
 rw[cq,aG,aG];simp only[bT];constructor;intro h i hi;have hI:=h i hi;unfold sU at hI;unfold mZ;simp only[ae,cz,aK,aS]at hI⊢;refine⟨hI.1,?_⟩;rcases hI.2 with h1|⟨h1,h2⟩;exact .inl h1;by_cases hu:((fQ t i).1==1)=true;right;have Pn:oA (fQ t i) (fQ t i).2.1=true:=by unfold oA;rw[hu];simp
 refine XS t _ i Pn (λj hj huj=>?_) 8 0 h2 (afB _ i hi);have hJ:=h j hj;unfold sU at hJ;unfold oA at huj;simp only[ae,aB]at huj;simp only[ae,cz,aK,aS]at hJ;rcases hJ.2 with h3|⟨h3,_⟩;rw[huj.1]at h3;cases h3;rw[huj.2]at h3;omega;exact .inl (by simpa using hu);intro h i hi;have hI:=h i hi;unfold mZ at hI;unfold sU;simp only[ae,cz,aK,aS]at hI⊢;refine⟨hI.1,?_⟩;rcases hI.2 with h1|h1;exact .inl h1;right;obtain⟨hu,hc,_⟩:=Of t _ i 8 0 h1;refine⟨?_,hc⟩;obtain⟨j,hj,huj,e⟩:=Cj (fQ t i).2.1 t 0 ⟨i,by omega,hu⟩;have hJ:=h j (by omega);unfold mZ at hJ;unfold oA at huj;simp only[ae,aB]at huj;simp only[ae,cz,aK,aS]at hJ;rcases hJ.2 with h3|h3;rw[huj.1]at h3;cases h3;rw[huj.2,h1]at h3;have e':wL (fQ t i).2.1 t 0=((0+j:Nat):Int):=e;rw[e'];omega
theorem Ny (t:aw Slot):qu t=some (nT t):=by
 rw[Vh,nT];by_cases ht:t.length=8;rw[Wc t ht];have e2:(t.length==8)=false:=by simp[ht]
 rw[e2];rfl
def XB (n:Int):Bool:=(n==1)||(n==2)||(n==4)||(n==8)||(n==16)
theorem Vr (n:Int):xG n=some (XB n):=by simp only[xG,bL,ab,XB];cases (n==1)<;>cases (n==2)<;>cases (n==4)<;>cases (n==8)<;>rfl
def qO (s:lO)(q:Int):Bool:=dm q 1 4&&((s.1.length:Int)==16)&&XB s.2.length&&s.2.all λx=>dm x 0 (q-1)
theorem LG (s:lO)(q:Int)(h:s.2.length<=10^9):vV s q=some (qO s q):=by
 unfold vV qO;simp only[eu,Vr,ab,bL,bne];by_cases hq:dm q 1 4=true
 ·rw[oE (hit:=some false) (fin:=some true) (λx=>dm x 0 (q-1)) s.2 (by omega) (λi hi nx=>?hs) (λnx=>?hf)]
  case hs=>
   rw[bg]at hq
   simp only[qH]
   rw[jU,bf hi,ak (n:=(i:Int)+1),ak (n:=q-1)]
   simp only[ah,ab,eu];rfl
  case hf=>
   simp only[qH]
   rw[cC];rfl
  rw[hq];cases ((s.1.length:Int)==16)<;>cases XB s.2.length<;>cases s.2.all (λx=>dm x 0 (q-1))<;>rfl
 have hq':dm q 1 4=false:=by simpa using hq
 rw[hq'];rfl
theorem KL (s:lO)(q:Int)(h:s.2.length<=10^9):vH s q=some (qO s q):=by rw[<-LG s q h];rfl
def fu (s:cS)(q:Int):Bool:=wT s.1&&nT s.2.1&&qO s.2.2 q&&s.1.all (λr=> !(decide (r.2.2.2.2.2.2.2.2>=q)))&&s.2.1.all (λx=> !(decide (x.2.2>=q)))
theorem Qc (s:cS)(q:Int)(h1:s.1.length<=10^9)(h2:s.2.1.length<=10^9)(h3:s.2.2.2.length<=10^9):sA s q=some (fu s q):=by
 unfold sA fu;simp only[N6 _ h1,N7,LG _ _ h3,ab,bL];rw[oE (hit:=some false) (fin:=cond (s.2.1.all (λx=> !(decide (x.2.2>=q)))) (some true) (some false)) (λr:iA=> !(decide (r.2.2.2.2.2.2.2.2>=q))) s.1 (by omega) (λi hi nx=>?hs) (λnx=>?hf)]
 case hs=>
  simp only[nR]
  rw[jU,bf hi,ak]
  simp only[ah,ab,fZ];rfl
 case hf=>
  simp only[nR]
  rw[cC]
  simp only[af]
  rw[oE (hit:=some false) (fin:=some true) (λx:Slot=> !(decide (x.2.2>=q))) s.2.1 (by omega) (λi hi nx=>?hs) (λnx=>?hf)]
  case hs=>
   simp only[nS]
   rw[jU,bf hi,ak]
   simp only[ah,ab,fZ];rfl
  case hf=>
   simp only[nS]
   rw[cC];rfl
 cases wT s.1<;>cases nT s.2.1<;>cases qO s.2.2 q<;>cases s.1.all (λr=> !(decide (r.2.2.2.2.2.2.2.2>=q)))<;>cases s.2.1.all (λx=> !(decide (x.2.2>=q)))<;>rfl
theorem F0 (s:cS)(q:Int)(h1:s.1.length<=10^9)(h2:s.2.1.length<=10^9)(h3:s.2.2.2.length<=10^9):oc s q=some (fu s q):=by
 unfold oc fu;simp only[Nu _ h1,Ny,KL _ _ h3,ab,bL];rw[oE (hit:=some false) (fin:=cond (s.2.1.all (λx=> !((x.1==1)&&decide (x.2.2>=q)))) (some true) (some false)) (λr:iA=> !((r.2.2.2.2.2.2.2.1==0)&&decide (r.2.2.2.2.2.2.2.2>=q))) s.1 (by omega) (λi hi nx=>?hs) (λnx=>?hf)]
 case hs=>
  simp only[nE]
  rw[jU,bf hi,ak]
  simp only[ah,ab,fZ,bL]
  cases (s.1[i].2.2.2.2.2.2.2.1==0)<;>rfl
 case hf=>
  simp only[nE]
  rw[cC]
  simp only[af]
  rw[oE (hit:=some false) (fin:=some true) (λx:Slot=> !((x.1==1)&&decide (x.2.2>=q))) s.2.1 (by omega) (λi hi nx=>?hs) (λnx=>?hf)]
  case hs=>
   simp only[mn]
   rw[jU,bf hi,ak]
   simp only[ah,ab,fZ,bL]
   cases (s.2.1[i].1==1)<;>rfl
  case hf=>
   simp only[mn]
   rw[cC];rfl
 cases hr:wT s.1 with
 |false=>rfl
 |true=>
  cases ht:nT s.2.1 with
  |false=>rfl
  |true=>
   cases hs:qO s.2.2 q with
   |false=>rfl
   |true=>
    have hq:1<=q:=by unfold qO at hs;simp only[ae,bg]at hs;exact hs.1.1.1.1
    have e1:s.1.all (λr=> !((r.2.2.2.2.2.2.2.1==0)&&decide (r.2.2.2.2.2.2.2.2>=q)))=s.1.all (λr=> !(decide (r.2.2.2.2.2.2.2.2>=q))):=by unfold wT at hr;simp only[ae,aG]at hr;rw[cq,aG,aG];refine forall_congr' λr=>forall_congr' λhm=>?_;rcases S0 (hr.1 r hm)with h0|h0;rw[h0];simp;rw[h0];simp only[aq (show¬(0:Int)>=q by omega),fE]
    have e2:s.2.1.all (λx=> !((x.1==1)&&decide (x.2.2>=q)))=s.2.1.all (λx=> !(decide (x.2.2>=q))):=by unfold nT at ht;simp only[ae,aG,bT,aS]at ht;rw[cq,aG,aG];refine forall_congr' λx=>forall_congr' λhm=>?_;obtain⟨i,hi,rfl⟩:=List.mem_iff_getElem.1 hm;have hsl:=ht.2 i (by omega);unfold mZ N5 at hsl;rw[uY hi]at hsl;simp only[ae,cz,aS]at hsl;rcases hsl.1.2 with h0|⟨h0,_⟩;rw[h0];simp;rw[h0];simp only[aq (show¬(0:Int)>=q by omega),fE]
    rw[e1,e2];cases s.1.all (λr=> !(decide (r.2.2.2.2.2.2.2.2>=q)))<;>cases s.2.1.all (λx=> !(decide (x.2.2>=q)))<;>rfl
theorem eS (a:bM)(h:a.length<=1073741824:=by omega):cB a=some a:=by simp only[cB,kh];rw[aP (by simpa using h)];rfl
theorem Bk (a:bM)(h:a.length<=1073741824:=by omega):lM a=some a:=by simp only[lM];rw[aP (by simpa using h)];rfl
def iM (m:bM)(s:Move)(p:Int):Move:=
 if 0<=p/\p<m.length/\p<s.1.length then(s.1.set p.toNat (m.getD p.toNat []),s.2.1,au (s.2.2+1)) else s
theorem Lr (m:bM)(s:Move)(p:Int):(iM m s p).1.length=s.1.length:=by unfold iM;split<;>simp
theorem P2 (m:bM)(s:Move)(p:Int):(iM m s p).2.1=s.2.1:=by unfold iM;split<;>rfl
theorem EV (m:bM):∀(l:cw)(s:Move),(l.foldl (iM m) s).1.length=s.1.length
 |[],_=>rfl
 |p::l,s=>by rw[cZ,EV m l,Lr]
theorem Gr (m:bM):∀(l:cw)(s:Move),(l.foldl (iM m) s).2.1=s.2.1
 |[],_=>rfl
 |p::l,s=>by rw[cZ,Gr m l,P2]
theorem V3 (m:bM)(s:Move)(p:Int)(k:Move->ax R):
 (aa (cond (decide (p>=0)) (cond (decide (p<((List.length m:Int)))) (some (decide (p<((List.length s.1:Int))))) (some false)) (some false)) λq3=>
  cond q3 (aa (idx m p) λx4=>aa (idx s.1 p) λ_=>aa (idx s.1 p) λ_=>k (List.set s.1 (Int.toNat p) x4,s.2.1,au (s.2.2+1))) (k s))=k (iM m s p):=by
 unfold iM
 by_cases h:0<=p/\p<m.length/\p<s.1.length
 ·obtain⟨h0,h1,h2⟩:=h
  obtain⟨n,rfl⟩:=aV h0
  rw[aE ⟨h0,h1,h2⟩,ar (show(n:Int)>=0 from h0),ar h1,ar h2]
  have Fb:n<m.length:=by omega
  have AJ:n<s.1.length:=by omega
  simp only[ah,ab,bf Fb,bf AJ,az]
  rw[cm,al Fb];rfl
 ·rw[aH h]
  by_cases h0:p>=0
  ·rw[ar h0]
   by_cases h1:p<m.length
   ·rw[ar h1,cC];rfl
   ·rw[aq h1];rfl
  ·rw[aq h0];rfl
theorem Ki (f:σ->α->σ)(fin:σ->ax R):∀(xs:aw α)(s:σ),qT (λx s k=>k (f s x)) fin xs s=fin (xs.foldl f s)
 |[],_=>rfl
 |x::xs,s=>by rw[qT,cZ];exact Ki f fin xs (f s x)
theorem D3 (v:Move)(m:bM)(h1:v.1.length<=1073741824:=by omega)(h2:v.2.1.length<=1073741824:=by omega):mJ v m=some (v.2.1.foldl (iM m) (v.1,([]:cw),v.2.2)):=by unfold mJ;rw[eS _ h1,ab];have Ak:=dR;have key:=uS (T:=lv (λ(_:Int) (y8:Move)=>some y8) v.2.1 ((List.length v.2.1:Int)) m (([]:bM),([]:cw),0)) v.2.1 (λ(s:Move) i=>((i:Int),s)) (λp s k=>k (iM m s p)) (λs=>some s) (λi hi s nx=>by simp only[lv];rw[jU,bf hi,ak];simp only[ah,ab];exact V3 m s v.2.1[i] (λs'=>nx ((i:Int)+1,s'))) (λs nx=>by simp only[lv];rw[cC];rfl) fuel 0 (v.1,([]:cw),v.2.2) (by omega) (by omega);rw[dP,Ki]at key;exact key
def gz (a:bM):bM->Nat->cw
 |[],_=>[]
 |p::r,i=>(if a[i]?=some p then [] else [(i:Int)])++gz a r (i+1)
theorem B4 (a:bM):∀(b:bM)(i:Nat),(gz a b i).length<=b.length
 |[],_=>by simp[gz]
 |p::r,i=>by have:=B4 a r (i+1);simp only[gz,ai,bc];split<;>simp<;>omega
theorem Oy (a:bM)(p:Bytes)(i:Nat)(acc:cw)(h:acc.length<=1048576)(k:cw->ax R){t:ax Bool}(ht:t=some (!(decide (a[i]?=some p)))): (aa t λq3=>cond q3 (room (List.length acc+List.length ([(i:Int)])) (k (acc++([(i:Int)])))) (k acc))=k (acc++(if a[i]?=some p then [] else [(i:Int)])):=by subst ht;simp only[ab];by_cases hp:a[i]?=some p;simp[hp];simp only[hp,decide_false,bF,ah,bU];rw[aP (by simp;omega)]
theorem Oz (a:bM)(p:Bytes)(i:Nat):(cond (decide ((i:Int)>=((List.length a:Int)))) (some true) (aa (idx a (i:Int)) λx2=>some (!(x2==p))))=some (!(decide (a[i]?=some p))):=by
 by_cases h:(i:Int)>=a.length;rw[ar h,bh (by omega)];simp;rw[aq h];have hi:i<a.length:=by omega
 simp only[af,bf hi,ab,al hi];congr 2;rw[cq];simp
theorem DR (a:bM)(N:Nat)(hN:N<=1048576):∀(b:bM)(i:Nat)(acc:cw),acc.length<=i->i+b.length=N->
 ∀{R:Type}(k:cw->ax R)(T:(cw×Int->ax R)->(cw×Int)->ax R)(m:Nat),b.length<m->
  (∀j acc nx,j<N->acc.length<=1048576->∀p,b[j-i]?=some p->i<=j->T nx (acc,(j:Int))=nx (acc++(if a[j]?=some p then [] else [(j:Int)]),((j+1:Nat):Int)))->(∀acc nx,T nx (acc,(N:Int))=k acc)->
  aX T m (acc,(i:Int))=k (acc++gz a b i)
 |[],i,acc,am4,hi,R,k,T,m,hm,hs,hf=>by cases m with|zero=>omega|succ m=>simp at hi;subst hi;rw[aX,hf];simp[gz]
 |p::b,i,acc,am4,hi,R,k,T,m,hm,hs,hf=>by cases m with|zero=>omega|succ m=>simp only[bc]at hi hm;rw[aX,hs i acc _ (by omega) (by omega) p (by simp) (aU _)];have:=DR a N hN b (i+1) (acc++(if a[i]?=some p then [] else [(i:Int)])) (by simp;split<;>simp<;>omega) (by omega) k T m (by omega) (λj acc nx hj ha q hq hij=>hs j acc nx hj ha q (by rw[show j-i=(j-(i+1))+1 by omega,dW];exact hq) (by omega)) hf;rw[this,gz,aQ]
theorem RQ (a b:bM)(hb:b.length<=1048576):oW a b=some (gz a b 0):=by
 unfold oW;have Ak:=dR;refine(DR a b.length hb b 0 [] (by simp) (by simp) some _ fuel (by omega) (λj acc nx hj ha p hp _=>?_) (λacc nx=>?_)).trans (by simp);simp only[lq];have hpj:b[j]=p:=by rw[Nat.sub_zero,al hj]at hp;simpa using hp
 rw[jU,bf hj,ak];simp only[ah,ab,hpj];exact Oy a p j acc ha (λr=>nx (r,(j:Int)+1)) (Oz a p j);simp only[lq];rw[cC];rfl
theorem aco (a:cw)(p:Int)(h:a.length<=1000000000000):jW a p=some (a.any (·==p)):=by
 unfold jW;rw[Fl (hit:=some true) (fin:=some false) (·==p) a h (λi hi nx=>?hs) (λnx=>?hf)]
 case hs=>
  simp only[mR]
  rw[jU,bf hi,ak];rfl
 case hf=>
  simp only[mR]
  rw[cC];rfl
 cases a.any (·==p)<;>rfl
def Hm (p:Int):cw->cw
 |[]=>[p]
 |x::r=>if p<x then p::x::r else x::Hm p r
theorem R7 (p:Int):∀l,(Hm p l).length=l.length+1
 |[]=>rfl
 |x::r=>by unfold Hm;split<;>simp[R7 p r]
theorem acj (a:cw)(p:Int)(h:a.length<=100000000):od a p=some (Hm p a):=by
 unfold od;have Ak:=dR;have key:=uS (T:=kz (λ(y3:cw) (y4:Bool) (_:Int)=>cond (!y4) (room (List.length y3+List.length ([p])) (some (y3++([p])))) (some y3)) p a ((List.length a:Int))) a (λ(s:cw×Bool) i=>(s.1,s.2,(i:Int))) (λx s k=>cond (!s.2&&decide (p<x)) (room (s.1.length+1) (room (s.1.length+1+1) (k (s.1++[p]++[x],true)))) (room (s.1.length+1) (k (s.1++[x],s.2)))) (λs=>cond (!s.2) (room (s.1.length+1) (some (s.1++[p]))) (some s.1)) (λi hi s nx=>by simp only[kz];rw[jU,bf hi,ak];simp only[ah,ab,wK,ai,bc,ef,ca];cases s.2<;>simp only[bF,aj,ah,af,bp,dN]<;>rfl) (λs nx=>by simp only[kz];rw[cC];rfl) fuel 0 (([]:cw),false) (by omega) (by omega);rw[dP]at key;refine key.trans ?_
 have done:∀(l acc:cw),acc.length+l.length<=200000000->qT (λx (s:cw×Bool) k=>cond (!s.2&&decide (p<x)) (room (s.1.length+1) (room (s.1.length+1+1) (k (s.1++[p]++[x],true)))) (room (s.1.length+1) (k (s.1++[x],s.2))))
  (λs=>cond (!s.2) (room (s.1.length+1) (some (s.1++[p]))) (some s.1)) l (acc,true)=some (acc++l):=by
  intro l
  induction l with
  |nil=>intro acc _;simp[qT]
  |cons x l ih=>
   intro acc hl
   simp only[bc]at hl
   rw[qT]
   simp only[aj,dN,af]
   rw[aP,ih _ (by simp;omega)]
   simp
 have main:∀(l acc:cw),acc.length+l.length<=100000000->qT (λx (s:cw×Bool) k=>cond (!s.2&&decide (p<x)) (room (s.1.length+1) (room (s.1.length+1+1) (k (s.1++[p]++[x],true)))) (room (s.1.length+1) (k (s.1++[x],s.2))))
  (λs=>cond (!s.2) (room (s.1.length+1) (some (s.1++[p]))) (some s.1)) l (acc,false)=some (acc++Hm p l):=by
  intro l
  induction l with
  |nil=>intro acc hl;simp only[qT,Hm,bF,ah];rw[aP (by simp at hl;omega)]
  |cons x l ih=>
   intro acc hl
   simp only[bc]at hl
   rw[qT]
   simp only[bF,bp]
   by_cases hp:p<x
   ·rw[ar hp]
    simp only[ah]
    rw[aP,aP,done _ _ (by simp;omega)]
    simp[Hm,hp]
   ·rw[aq hp]
    simp only[af]
    rw[aP,ih _ (by simp;omega)]
    simp[Hm,hp]
 exact(main a [] (by simp;omega)).trans (by simp)
def uL (s:Move)(p:Int):Move:=if s.2.1.any (·==p) then s else(s.1,Hm p s.2.1,s.2.2)
theorem NN (s:Move)(p:Int):(uL s p).2.1.length<=s.2.1.length+1:=by unfold uL;split<;>simp[R7]
theorem VM (s:Move)(p:Int):(uL s p).1=s.1:=by unfold uL;split<;>rfl
theorem K5 (fin:Move->ax R)(step:Int->Move->(Move->ax R)->ax R)(hs:∀p s k,s.2.1.length<=10000000->step p s k=k (uL s p)):∀(l:cw)(s:Move),s.2.1.length+l.length<=10000000->qT step fin l s=fin (l.foldl uL s)
 |[],_,_=>rfl
 |p::l,s,h=>by simp only[bc]at h;rw[qT,hs p s _ (by omega),cZ];exact K5 fin step hs l _ (by have:=NN s p;omega)
theorem NO:∀(l:cw)(s:Move),(l.foldl uL s).2.1.length<=s.2.1.length+l.length
 |[],_=>aU _
 |p::l,s=>by have:=NO l (uL s p);have:=NN s p;rw[cZ];simp only[bc];omega
theorem ES:∀(l:cw)(s:Move),(l.foldl uL s).1=s.1
 |[],_=>rfl
 |p::l,s=>by rw[cZ,ES l,VM]
theorem acx (v:Move)(a b:bM)(h1:v.1.length<=1048576)(h2:v.2.1.length<=1048576)(hb:b.length<=1048576):kc v a b=some ((gz a b 0).foldl uL v):=by
 unfold kc;have hc:eT v.2.1=some v.2.1:=by simp only[eT];rw[aP (by simp;omega)];rfl
 have hcl:=B4 a b 0;rw[eS _,hc,RQ a b hb];simp only[ab];have Ak:=dR;generalize gz a b 0=L at hcl;have key:=uS (T:=jB (λ(_:Int) (y8:Move)=>some y8) L ((List.length L:Int)) (([]:bM),([]:cw),0)) L (λ(s:Move) i=>((i:Int),s)) (λp s k=>aa (jW s.2.1 p) λr5=>cond (!r5) (aa (od s.2.1 p) λr6=>k (s.1,r6,s.2.2)) (k s)) (λs=>some s) (λi hi s nx=>by simp only[jB];rw[jU,bf hi,ak];rfl) (λs nx=>by simp only[jB];rw[cC];rfl) fuel 0 v (by omega) (by omega);rw[dP]at key;refine key.trans (K5 _ _ (λp s k hl=>?_) L v (by omega));rw[aco _ _ (by omega),ab];unfold uL;cases s.2.1.any (·==p)with|true=>rfl|false=>simp only[bF,ah,acj s.2.1 p (by omega),ab];rfl
def xW (a b:α):Bool:= @decide (a=b) (Classical.propDecidable _)
theorem zj {a b:α}:xW a b=true↔a=b:=by unfold xW;exact @decide_eq_true_iff _ (Classical.propDecidable _)
theorem OZ {a b:α}{x:Bool}(h:x=true↔a=b):x=xW a b:=by rw[cq,zj];exact h
theorem QL [BEq α][LawfulBEq α](a b:α):(a==b)=xW a b:=OZ aS
theorem abN {β:Type}(a b:α)(c d:β):xW (a,c) (b,d)=(xW a b&&xW c d):=by rw[cq];simp only[ae,zj,Prod.mk.injEq]
theorem jA {β:Type}(a b:α×β):xW a b=(xW a.1 b.1&&xW a.2 b.2):=abN a.1 b.1 a.2 b.2
theorem Q3 {a b:α}(h:a=b):xW a b=true:=zj.2 h
theorem X9 {a b:α}(h:¬a=b):xW a b=false:=by rw[Bool.eq_false_iff,ne_eq,zj];exact h
theorem abO {T:(Int->ax R)->Int->ax R}{fin hit:ax R}(p:α->α->Bool)(hp:∀x y,p x y=true↔x=y)(a b:aw α)(hl:a.length=b.length)(h:a.length<=10^9)(hs:∀i (hi:i<a.length) nx,T nx (i:Int)=cond (!(p a[i] (b[i]'(hl▸hi)))) hit (nx ((i+1:Nat):Int)))(hf:∀nx,T nx (a.length:Int)=fin): aX T fuel 0=cond (xW a b) fin hit:=by
 have hq:∀i,i<a.length->i<b.length:=λi hi=>hl▸hi;rw[oF (fin:=fin) (hit:=hit) (λi=>xW a[i]? b[i]?) a.length (by omega) ?hs hf]
 case hs=>
  intro i nx hi
  rw[hs i hi,al hi,al (hq i hi)]
  have:p a[i] (b[i]'(hq i hi))=xW (some a[i]) (some (b[i]'(hq i hi))):=OZ (by rw[hp,aZ])
  rw[this]
 congr 1;apply OZ;rw[aG];constructor;intro k;apply cn;intro i;by_cases hi:i<a.length;exact zj.1 (k i (bT.2 hi));rw[bh (by omega),bh (by omega)];rintro rfl i _;exact Q3 rfl
theorem vp {T:(Int->ax Bool)->Int->ax Bool}(p:α->α->Bool)(hp:∀x y,p x y=true↔x=y)(a b:aw α)(h:a.length<=10^9)(hs:a.length=b.length->∀i (hi:i<a.length)(nu:i<b.length) nx,T nx (i:Int)=cond (!(p a[i] b[i])) (some false) (nx ((i+1:Nat):Int)))(hf:∀nx,T nx (a.length:Int)=some true): cond ((a.length:Int) !=(b.length:Int)) (some false) (aX T fuel 0)=some (xW a b):=by by_cases hl:a.length=b.length;rw[abO p hp a b hl h (λi hi nx=>hs hl i hi (hl▸hi) nx) hf];rw[show((a.length:Int) !=(b.length:Int))=false by simp[hl]];cases xW a b<;>rfl;rw[X9 (λe=>hl (by rw[e]))];rw[show((a.length:Int) !=(b.length:Int))=true by simp;omega];rfl
theorem Ap (a b:cw)(h:a.length<=10^9):gn a b=some (xW a b):=by unfold gn;refine vp (λx y=>x==y) (λx y=>aS) a b h (λhl i hi nu nx=>?_) (λnx=>?_);simp only[mB];rw[jU,bf hi,bf nu,ak];rfl;simp only[mB];rw[cC];rfl
theorem Pv (a b:Filter)(h:a.2.2.length<=10^9):sm a b=some (xW a b):=by simp only[sm,Ap _ _ h,ab,bL,cF,jA a b,jA a.2 b.2,QL]
theorem Is (a b:bM)(h:a.length<=10^9):jH a b=some (xW a b):=by unfold jH;refine vp (λx y=>x==y) (λx y=>aS) a b h (λhl i hi nu nx=>?_) (λnx=>?_);simp only[jR];rw[jU,bf hi,bf nu,ak];rfl;simp only[jR];rw[cC];rfl
theorem gV (h:n<9223372036854775808:=by omega):au (n:Int)=(n:Int):=ak
theorem GQ (h:n<4294967296:=by omega):IntKind.wrap .u32 (n:Int)=(n:Int):=by simp only[au,fU,IntKind.wrap,IntKind.bits,IntKind.signed];simp;omega
theorem mf (b:UInt8):b.toNat<256:=b.toNat_lt
def bP (v:Int):Bytes:=(dg v).getD []
theorem nN (v:Int):dg v=some (bP v):=by
 unfold bP;have:∃x,dg v=some x:=by simp only[dg,eu,ab];cases dm v 0 65535<;>exact⟨_,rfl⟩
 obtain⟨x,hx⟩:=this;rw[hx];rfl
theorem kt (v:Int):bX v=some (bP v):=nN v
theorem E6 (v:Int):(bP v).length=bif dm v 0 65535 then 2 else 0:=by have h:=nN v;simp only[dg,eu,ab]at h;cases hb:dm v 0 65535<;>rw[hb]at h<;>(rw[<-dp h];rfl)
theorem bD (v:Int):(bP v).length<=2:=by rw[E6];cases dm v 0 65535<;>simp
def iP (v:Int):Bytes:=(fP v).getD []
theorem pY (v:Int):fP v=some (iP v):=by
 unfold iP;have:∃x,fP v=some x:=by simp only[fP,eu,ab];cases dm v 0 4294967295<;>exact⟨_,rfl⟩
 obtain⟨x,hx⟩:=this;rw[hx];rfl
theorem yy (v:Int):fX v=some (iP v):=pY v
theorem L1 (v:Int):(iP v).length=bif dm v 0 4294967295 then 4 else 0:=by have h:=pY v;simp only[fP,eu,ab]at h;cases hb:dm v 0 4294967295<;>rw[hb]at h<;>(rw[<-dp h];rfl)
theorem ez (v:Int):(iP v).length<=4:=by rw[L1];cases dm v 0 4294967295<;>simp
def bG (s:Bytes)(i:Nat):Nat:=(s.getD i 0).toNat
theorem eE (s:Bytes)(i:Nat):bG s i<256:=mf _
theorem ln (h:i<s.length:=by omega):∃x,idx s (i:Int)=some x/\x.toNat=bG s i:=⟨s[i],bf h,by rw[bG,cL h]⟩
def eV (s:Bytes)(a n:Int):Bool:=decide (0<=a/\a+n<=(s.length:Int))
theorem CV (s:Bytes)(a n:Int)(h:s.length<=10^9)(hn:0<=n:=by omega):ng s a n=some (eV s a n):=by
 unfold ng eV;by_cases h0:0<=a;by_cases h1:a<=(s.length:Int)
 rw[ar (show a>=0 from h0),ar h1,ak];simp only[ah,ab];congr 1;rw[decide_eq_decide];omega;rw[ar (show a>=0 from h0),aq h1,aq (show¬(0<=a/\a+n<=(s.length:Int)) by omega)];rfl;rw[aq (show¬a>=0 from h0),aq (show¬(0<=a/\a+n<=(s.length:Int)) by omega)];rfl
def ch (s:Bytes)(a:Int):Int:=bif eV s a 2 then((bG s a.toNat*256+bG s (a.toNat+1):Nat):Int) else-1
def fF (s:Bytes)(a:Int):Int:=bif eV s a 4 then(((bG s a.toNat*256+bG s (a.toNat+1))*65536+(bG s (a.toNat+2)*256+bG s (a.toNat+3)):Nat):Int) else-1
theorem AF (s:Bytes)(a:Int)(h:s.length<=10^9):gN s a=some (ch s a):=by unfold gN ch;rw[CV s a 2 h,ab];cases hw:eV s a 2 with|false=>rfl|true=>simp only[eV,aB]at hw;obtain⟨n,rfl⟩:=aV hw.1;obtain⟨x,hx,ex⟩:=ln (s:=s) (i:=n);obtain⟨y,hy,ey⟩:=ln (s:=s) (i:=n+1);have hxl:=eE s n;have hyl:=eE s (n+1);rw[ak (n:=(n:Int)+1),hx,show(n:Int)+1=((n+1:Nat):Int) by omega,hy];simp only[aj,af,ab,az,ah];rw[lZ,ex,ey,gV,gV];have e8:oC 8=8:=rfl;rw[e8,ak (n:=((bG s n:Nat):Int)*2^8),ak];congr 1;all_goals omega
theorem HU (s:Bytes)(a:Int)(h:s.length<=10^9):nP s a=some (fF s a):=by
 unfold nP fF;rw[CV s a 4 h,ab];cases hw:eV s a 4 with
 |false=>rfl
 |true=>
  simp only[eV,aB]at hw;obtain⟨n,rfl⟩:=aV hw.1;have w1:eV s (n:Int) 2=true:=by simp only[eV,aB];omega
  have w2:eV s ((n:Int)+2) 2=true:=by simp only[eV,aB];omega
  have b0:=eE s n;have b1:=eE s (n+1);have b2:=eE s (n+2);have b3:=eE s (n+3);rw[ak (n:=(n:Int)+2),AF s _ h,AF s _ h];simp only[aj,af,ab,ah,ch,w1,w2,az];rw[lZ,show((n:Int)+2).toNat=n+2 by omega,show n+2+1=n+3 by omega];have e8:oC 16=16:=rfl;rw[e8,ak (n:=((bG s n*256+bG s (n+1):Nat):Int)*2^16),ak];congr 1;all_goals omega
theorem an1 (a b:Nat)(ha:a<9223372036854775808)(hb:b<9223372036854775808):toNat (ga (a:Int)|||ga (b:Int))=a|||b:=by show(BitVec.ofInt 64 (a:Int)|||BitVec.ofInt 64 (b:Int)).toNat=_;rw[dv,dv,BitVec.toNat_or,dK,dK,dU (by omega),dU (by omega)]
theorem afK (a b:Nat)(ha:a<9223372036854775808:=by omega)(hb:b<9223372036854775808:=by omega):toNat (ga (a:Int)&&&ga (b:Int))=a&&&b:=by show(BitVec.ofInt 64 (a:Int)&&&BitVec.ofInt 64 (b:Int)).toNat=_;rw[dv,dv,BitVec.toNat_and,dK,dK,dU (by omega),dU (by omega)]
theorem aea (a b:Nat)(ha:a<9223372036854775808)(hb:b<9223372036854775808):toNat (ga (a:Int)^^^ga (b:Int))=a^^^b:=by show(BitVec.ofInt 64 (a:Int)^^^BitVec.ofInt 64 (b:Int)).toNat=_;rw[dv,dv,BitVec.toNat_xor,dK,dK,dU (by omega),dU (by omega)]
theorem aiI (a b:Nat)(ha:a<4294967296)(hb:b<4294967296):toNat (BitVec.ofInt (IntKind.bits .u32) (a:Int)&&&BitVec.ofInt (IntKind.bits .u32) (b:Int))=a&&&b:=by show(BitVec.ofInt 32 (a:Int)&&&BitVec.ofInt 32 (b:Int)).toNat=_;rw[dv,dv,BitVec.toNat_and,dK,dK,dU (by omega),dU (by omega)]
theorem agr (a b:Nat)(ha:a<4294967296)(hb:b<4294967296):toNat (BitVec.ofInt (IntKind.bits .u32) (a:Int)^^^BitVec.ofInt (IntKind.bits .u32) (b:Int))=a^^^b:=by show(BitVec.ofInt 32 (a:Int)^^^BitVec.ofInt 32 (b:Int)).toNat=_;rw[dv,dv,BitVec.toNat_xor,dK,dK,dU (by omega),dU (by omega)]
theorem ET (x k y:Nat)(hy:y<2^k:=by omega)(h:2^k*x+y<9223372036854775808:=by omega):au (toNat (ga ((2^k*x:Nat):Int)|||ga (y:Int)):Int)=((2^k*x+y:Nat):Int):=by rw[an1 _ _ (by omega) (by omega),<-Nat.two_pow_add_eq_or_of_lt hy];exact gV h
theorem I1 (s:Bytes)(a n:Int):(cond (decide (a<0)) (some true) (some (decide (a>(s.length:Int)-n))))=some (!eV s a n):=by cases hw:eV s a n with|true=>simp only[eV,aB]at hw;rw[aq (show¬a<0 by omega),aq (show¬a>(s.length:Int)-n by omega)];rfl|false=>simp only[eV,cP]at hw;by_cases h0:a<0;rw[ar h0];rfl;rw[aq h0,ar (show a>(s.length:Int)-n by omega)];rfl
theorem uP (s:Bytes)(a:Int)(h:s.length<=10^9):eX s a=some (ch s a):=by unfold eX ch;rw[ak (n:=(s.length:Int)-2)];rw[I1,ab];cases hw:eV s a 2 with|false=>rfl|true=>simp only[eV,aB]at hw;obtain⟨n,rfl⟩:=aV hw.1;obtain⟨x,hx,ex⟩:=ln (s:=s) (i:=n);obtain⟨y,hy,ey⟩:=ln (s:=s) (i:=n+1);have hxl:=eE s n;have hyl:=eE s (n+1);rw[ak (n:=(n:Int)+1),hx,show(n:Int)+1=((n+1:Nat):Int) by omega,hy];simp only[aj,af,ah,ab,az];rw[lZ,ex,ey,gV (n:=bG s n),gV (n:=bG s (n+1))];have e8:oC 8=8:=rfl;rw[e8,show((bG s n:Nat):Int)*2^8=((2^8*bG s n:Nat):Int) by omega,gV (n:=2^8*bG s n),ET (bG s n) 8 (bG s (n+1))];congr 1;all_goals omega
theorem ya (s:Bytes)(a:Int)(h:s.length<=10^9):ie s a=some (fF s a):=by
 unfold ie fF;rw[ak (n:=(s.length:Int)-4)];rw[I1,ab];cases hw:eV s a 4 with
 |false=>rfl
 |true=>
  simp only[eV,aB]at hw;obtain⟨n,rfl⟩:=aV hw.1;obtain⟨x0,h0,e0⟩:=ln (s:=s) (i:=n);obtain⟨x1,h1,e1⟩:=ln (s:=s) (i:=n+1);obtain⟨x2,h2,e2⟩:=ln (s:=s) (i:=n+2);obtain⟨x3,h3,e3⟩:=ln (s:=s) (i:=n+3);have b0:=eE s n;have b1:=eE s (n+1);have b2:=eE s (n+2);have b3:=eE s (n+3)
  rw[ak (n:=(n:Int)+1),ak (n:=(n:Int)+2),ak (n:=(n:Int)+3),h0,show(n:Int)+1=((n+1:Nat):Int) by omega,h1,
   show(n:Int)+2=((n+2:Nat):Int) by omega,h2,show(n:Int)+3=((n+3:Nat):Int) by omega,h3]
  simp only[aj,af,ah,ab,az];rw[lZ,lZ,lZ,e0,e1,e2,e3];generalize bG s n=p0 at*;generalize bG s (n+1)=p1 at*;generalize bG s (n+2)=p2 at*;generalize bG s (n+3)=p3 at*;have f24:oC 24=24:=rfl;have f16:oC 16=16:=rfl;have f8:oC 8=8:=rfl
  rw[gV (n:=p0),gV (n:=p1),gV (n:=p2),gV (n:=p3),f24,f16,f8,
   show((p0:Nat):Int)*2^24=((2^24*p0:Nat):Int) by omega,show((p1:Nat):Int)*2^16=((2^16*p1:Nat):Int) by omega,show((p2:Nat):Int)*2^8=((2^8*p2:Nat):Int) by omega,
   gV (n:=2^24*p0),gV (n:=2^16*p1),gV (n:=2^8*p2),ET p0 24 (2^16*p1),
   show 2^24*p0+2^16*p1=2^16*(2^8*p0+p1) by omega,ET _ 16 (2^8*p2),
   show 2^16*(2^8*p0+p1)+2^8*p2=2^8*(2^8*(2^8*p0+p1)+p2) by omega,ET _ 8 p3]
  congr 1;all_goals omega
def Ew (c:Nat):Nat:=if c%2=1 then(c/2)^^^3988292384 else c/2
def tf:Nat->Nat->Nat
 |0,c=>c
 |n+1,c=>Ew (tf n c)
def amM (c:Nat)(s:Bytes):Nat:=s.foldl (λc b=>tf 8 (c^^^b.toNat)) c
def aa3 (s:Bytes):Int:=4294967295-(amM 4294967295 s:Int)
theorem BE {b:Nat}(ha:a<4294967296:=by omega)(hb:b<4294967296:=by omega):a^^^b<4294967296:=Nat.xor_lt_two_pow (n:=32) ha hb
theorem X5 (h:c<4294967296):Ew c<4294967296:=by unfold Ew;split;exact BE;omega
theorem Fu (h:c<4294967296):∀n,tf n c<4294967296
 |0=>h
 |n+1=>X5 (Fu h n)
theorem ads (k0:Int->Int->ax R)(k:Int->ax R)(hk:∀x y,k0 x y=k x)(v0:Bytes)(v4:Int)(c:Nat)(h:c<4294967296):aX (oM k0 v0 v4) fuel ((c:Int),0)=k (tf 8 c:Int):=by
 have Ak:=dR
 have key:=F9 (T:=oM k0 v0 v4) 8 (λ(_:Unit) i=>((tf i c:Int),(i:Int))) (λ_ s nx=>nx s) (λ_=>k (tf 8 c:Int))
  (λi s nx hi=>by
   have hc:=Fu h i;simp only[oM];have a1:=afK (tf i c) 1;have x1:=aea (tf i c/2) 3988292384 (by omega) (by omega);simp only[Int.natCast_one]at a1
   rw[jU,ah,a1,Nat.and_one_is_mod,
    show oC 1=1 from rfl,show fdiv ((tf i c:Nat):Int) (2^1)=((tf i c/2:Nat):Int) from by rw[Int.fdiv_eq_ediv_of_nonneg _ (by omega)];rfl,
    show(3988292384:Int)=((3988292384:Nat):Int) from rfl,x1,
    gV (n:=tf i c%2),gV (n:=(tf i c/2)^^^3988292384) (by have:=BE (a:=tf i c/2) (b:=3988292384);omega),lZ,lZ,ak (n:=(i:Int)+1)]
   show _=nx ((Ew (tf i c):Int),((i+1:Nat):Int));unfold Ew;by_cases hp:tf i c%2=1;rw[hp,aE rfl];rfl;have h0:tf i c%2=0:=by omega
   rw[h0,lZ];rfl)
  (λs nx=>by simp only[oM];rw[cC,af,hk])
  fuel 0 () (by omega) (by omega)
 refine key.trans ?_;rfl
theorem acm (k0:Int->Int->ax R)(k:Int->ax R)(hk:∀x y,k0 x y=k x)(v0:Bytes)(v4:Int)(c:Nat)(h:c<4294967296):aX (oI k0 v0 v4) fuel ((c:Int),0)=k (tf 8 c:Int):=by
 have Ak:=dR
 have key:=F9 (T:=oI k0 v0 v4) 8 (λ(_:Unit) i=>((tf i c:Int),(i:Int))) (λ_ s nx=>nx s) (λ_=>k (tf 8 c:Int))
  (λi s nx hi=>by
   have hc:=Fu h i;simp only[oI];have a1:=aiI (tf i c) 1 (by omega) (by omega);have x1:=agr (tf i c/2) 3988292384 (by omega) (by omega);simp only[Int.natCast_one]at a1
   rw[jU,ah,a1,Nat.and_one_is_mod,
    show min (Int.toNat 1) (IntKind.bits .u32)=1 from rfl,show fdiv ((tf i c:Nat):Int) (2^1)=((tf i c/2:Nat):Int) from by rw[Int.fdiv_eq_ediv_of_nonneg _ (by omega)];rfl,
    show(3988292384:Int)=((3988292384:Nat):Int) from rfl,x1,
    GQ (n:=tf i c%2),GQ (n:=(tf i c/2)^^^3988292384) (BE),lZ,ak (n:=(i:Int)+1)]
   show _=nx ((Ew (tf i c):Int),((i+1:Nat):Int));unfold Ew;by_cases hp:tf i c%2=1;rw[hp,aE rfl];rfl;have h0:tf i c%2=0:=by omega
   rw[h0,lZ];rfl)
  (λs nx=>by simp only[oI];rw[cC,af,hk])
  fuel 0 () (by omega) (by omega)
 refine key.trans ?_;rfl
theorem afk (s:Bytes)(h:s.length<=10^9):Bv s=some (aa3 s):=by
 unfold Bv;have:=Gs (T:=rJ (λ(y4:Int) (_:Int)=>some (au (4294967295-y4))) s) s (λ(c:Nat) i=>((c:Int),(i:Int))) (λ_ c=>c<4294967296) (λb c=> .ok (tf 8 (c^^^b.toNat))) (λc=>some (4294967295-(c:Int))) (by omega) (λi hi c nx hI=>?hs) (λi hi c c' hI hg=>?hn) (λc nx hI=>?hf) 4294967295 (by omega)
 case hs=>
  have hb:=mf s[i]
  simp only[rJ]
  rw[jU,bf hi,ah,ab,gV (n:=s[i].toNat),aea c s[i].toNat (by omega) (by omega)]
  have hx:=BE hI (show s[i].toNat<4294967296 by omega)
  rw[gV,ads _ (λy=>nx (y,(i:Int)+1)) (λx y=>by rw[ak]) _ _ _ hx];rfl
 case hn=>
  cases hg
  exact Fu (BE hI (by have:=mf s[i];omega)) 8
 case hf=>
  simp only[rJ]
  rw[cC,af,ak]
 rw[Jx]at this;exact this
theorem not_xor (c:Nat)(h:c<4294967296):toNat (BitVec.ofInt (IntKind.bits .u32) (IntKind.max .u32)^^^BitVec.ofInt (IntKind.bits .u32) (c:Int))=4294967295-c:=by show(BitVec.ofInt 32 4294967295^^^BitVec.ofInt 32 (c:Int)).toNat=_;rw[show BitVec.ofInt 32 4294967295=BitVec.allOnes 32 by decide,dv,BitVec.allOnes_xor,BitVec.toNat_not,dK,dU (show c<2^32 by omega)]
theorem aeI (s:Bytes)(h:s.length<=10^9):Bd s=some (aa3 s):=by
 unfold Bd;have:=Gs (T:=rl (λ(y4:Int) (_:Int)=>some (au (IntKind.wrap .u32 (toNat (BitVec.ofInt (IntKind.bits .u32) (IntKind.max .u32)^^^BitVec.ofInt (IntKind.bits .u32) y4))))) s) s (λ(c:Nat) i=>((c:Int),(i:Int))) (λ_ c=>c<4294967296) (λb c=> .ok (tf 8 (c^^^b.toNat))) (λc=>some (4294967295-(c:Int))) (by omega) (λi hi c nx hI=>?hs) (λi hi c c' hI hg=>?hn) (λc nx hI=>?hf) 4294967295 (by omega)
 case hs=>
  have hb:=mf s[i]
  simp only[rl]
  rw[jU,bf hi,ah,ab,GQ (n:=s[i].toNat),agr c s[i].toNat (by omega) (by omega)]
  have hx:=BE hI (show s[i].toNat<4294967296 by omega)
  rw[GQ hx,acm _ (λy=>nx (y,(i:Int)+1)) (λx y=>by rw[ak]) _ _ _ hx];rfl
 case hn=>
  cases hg
  exact Fu (BE hI (by have:=mf s[i];omega)) 8
 case hf=>
  simp only[rl]
  rw[cC,af,not_xor c hI,GQ,gV]
  congr 1
  all_goals omega
 rw[Jx]at this;exact this
def TY (s:Bytes)(i:Nat):Nat:=bG s (i/8)/2^(7-i%8)%2
theorem Ot (s:Bytes)(i:Nat):TY s i<2:=Nat.mod_lt _ (by omega)
theorem aaX (b k:Nat)(hb:b<256)(hk:k<=7):au (toNat (ga (au (fdiv (b:Int) ((2^k:Nat):Int)))&&&ga 1))=((b/2^k%2:Nat):Int):=by have e:fdiv (b:Int) ((2^k:Nat):Int)=((b/2^k:Nat):Int):=(Int.ofNat_fdiv b (2^k)).symm;have h1:b/2^k<=b:=Nat.div_le_self _ _;rw[e,gV (n:=b/2^k)];have:=afK (b/2^k) 1;rw[show((1:Nat):Int)=1 from rfl]at this;rw[this,Nat.and_one_is_mod];exact gV
theorem Xd (s:Bytes)(i:Nat)(hi:i/8<s.length:=by omega)(h:s.length<=10^9:=by omega):wm s (i:Int)=some ((TY s i:Nat):Int):=by
 have e1:Int.tdiv (i:Int) 8=((i/8:Nat):Int):=(Int.ofNat_tdiv i 8).symm;have e2:tmod (i:Int) 8=((i%8:Nat):Int):=(Int.ofNat_tmod i 8).symm;unfold wm;rw[lZ,e1,ak (n:=((i/8:Nat):Int)),bf hi,ab,lZ,e2,ak (n:=7-((i%8:Nat):Int)),lZ];have e3:(2:Int)^(min (Int.toNat (7-((i%8:Nat):Int))) (IntKind.bits .u8))=((2^(7-i%8):Nat):Int):=by rw[show min (Int.toNat (7-((i%8:Nat):Int))) (IntKind.bits .u8)=7-i%8 from by show min _ 8=_;omega];push_cast;rfl
 rw[e3,aaX _ _ (mf _) (by omega),TY,bG,cL hi]
def win (s:Bytes)(a:Nat):Nat->Nat
 |0=>0
 |j+1=>2*win s a j+TY s (a+j)
theorem ad9 (s:Bytes)(a:Nat):∀j,win s a j<2^j
 |0=>by simp[win]
 |j+1=>by have:=ad9 s a j;have:=Ot s (a+j);rw[win,Nat.pow_succ];omega
theorem Wy (s:Bytes)(a j:Nat)(hj:j<=32:=by omega):win s a j<4294967296:=Nat.lt_of_lt_of_le (ad9 s a j) (Nat.pow_le_pow_right (n:=2) (by omega) hj)
def afC (s:Bytes)(a:Int):Int:=bif ((s.length:Int) !=16)|| !dm a 0 96 then-1 else((win s a.toNat 32:Nat):Int)
theorem aeT (s:Bytes)(a:Int):tI s a=some (afC s a):=by
 unfold tI afC;rw[di];cases hs:(s.length:Int) !=16;case true=>rfl
 cases ha:dm a 0 96;rfl;have h1:=bg.1 ha;have h2:s.length=16:=by simp at hs;omega
 obtain⟨a,rfl⟩:=aV h1.1;simp only[af,ab,aj,bZ,az];refine eG (λi=>(((win s a i:Nat):Int),((a+i:Nat):Int))) 32 (by omega) (λi nx hi=>?_) (λnx=>?_);have hw:=Wy s a i;have hb:=Ot s (a+i);simp only[pc];rw[ak (n:=(a:Int)+32),jU,ah,lZ,Xd s (a+i),ab,ak (n:=((a+i:Nat):Int)+1)];have e1:au (((win s a i:Nat):Int)*2^(oC 1))=((2^1*win s a i:Nat):Int):=by have:(2:Int)^(oC 1)=2:=rfl;rw[this,ak];omega
 rw[e1,ET _ _ _];rw[show(((a+i:Nat):Int)+1)=((a+(i+1):Nat):Int) by omega];rfl;simp only[pc];rw[ak (n:=(a:Int)+32),cC];rfl
def Ii (s v:Bytes):Nat->Nat
 |0=>0
 |i+1=>if TY v i=1 then Ii s v i^^^win s i 32 else Ii s v i
theorem Ru (s v:Bytes):∀i,Ii s v i<4294967296
 |0=>by simp[Ii]
 |i+1=>by have:=Ru s v i;rw[Ii];split;exact BE this (Wy s i 32);exact this
def yq (s v:Bytes):Int:=bif ((s.length:Int) !=16)||decide ((v.length:Int)>12) then-1 else((Ii s v (8*v.length):Nat):Int)
theorem acp (s v:Bytes):tE s v=some (yq s v):=by
 unfold tE yq;cases hs:(s.length:Int) !=16;case true=>rfl
 cases hv:decide ((v.length:Int)>12);case true=>rfl
 have h2:s.length=16:=by simp at hs;omega
 have h3:v.length<=12:=by simp at hv;omega
 simp only[af,ab,bZ];refine eG (λi=>(((Ii s v i:Nat):Int),(i:Int))) (8*v.length) (by omega) (λi nx hi=>?_) (λnx=>?_);have hw:=Wy s i 32;have hh:=Ru s v i;have hb:=Ot v i;have eW:afC s (i:Int)=((win s i 32:Nat):Int):=by unfold afC;rw[hs,bg.2 (show(0:Int)<=(i:Int)/\(i:Int)<=96 by omega)];rfl
 simp only[oY];rw[ak (n:=8*(v.length:Int)),jU,ah,Xd v i,ab,aeT,ab,eW,aea _ _ (by omega) (by omega),ak (n:=(i:Int)+1),gV (Nat.lt_trans (BE hh hw) (by omega)),Ii];by_cases h1:TY v i=1;rw[h1,aE rfl];rfl;rw[aH h1,show(((TY v i:Nat):Int)==1)=false from by simp;omega];rfl;simp only[oY];rw[ak (n:=8*(v.length:Int)),cC];rfl
def tw (f:Ep):Bytes:=((iP f.2.1++iP f.2.2.1)++bP f.2.2.2.1)++bP f.2.2.2.2
theorem Va (f:Ep):tF f=some (tw f):=by have:=ez f.2.1;have:=ez f.2.2.1;have:=bD f.2.2.2.1;have:=bD f.2.2.2.2;simp only[tF,yy,kt,ab];rw[aP,aP (by simp only[ai];omega),aP (by simp only[ai];omega)];rfl
theorem FU (s:Bytes)(f:Ep):rn s f=some (yq s (tw f)):=by simp only[rn,Va,acp,ab]
def AN (s:lO)(f:Ep):Int:=bif ((s.2.length:Int)==0)||decide (yq s.1 (tw f)<0) then-1 else tmod (yq s.1 (tw f)) (s.2.length:Int)
theorem YG (s:lO)(f:Ep):xq s f=some (AN s f):=by
 unfold xq AN;rw[FU,ab];cases h0:(s.2.length:Int)==0;case true=>rfl
 cases decide (yq s.1 (tw f)<0);case true=>rfl
 simp only[af,ab,bZ];rw[aH (by simpa using h0)]
theorem M5 (s:lO)(f:Ep)(h:¬AN s f<0):∃n:Nat,AN s f=(n:Int)/\n<s.2.length:=by
 unfold AN at h⊢;cases hc:((s.2.length:Int)==0)||decide (yq s.1 (tw f)<0)with
 |true=>rw[hc]at h;simp at h
 |false=>
  rw[hc]at h;simp only[cg,cI,cP]at hc;simp only[af]at h⊢;have h1:0<=yq s.1 (tw f):=by omega
  rw[df h1]at h⊢;have:=eJ (yq s.1 (tw f)) (show(0:Int)<s.2.length by omega);obtain⟨n,hn⟩:=aV (show 0<=yq s.1 (tw f)%(s.2.length:Int) by omega);exact⟨n,hn,by omega⟩
def Jz (s:lO)(q:Int)(f:Ep):Int:=bif !qO s q||decide (AN s f<0) then-1 else s.2.getD (AN s f).toNat 0
theorem R2 (s:lO)(q:Int)(f:Ep)(h:s.2.length<=10^9):qp s q f=some (Jz s q f):=by
 unfold qp Jz;rw[YG,ab,KL s q h,ab];cases qO s q;rfl;have sJ:=M5 s f;cases hd:decide (AN s f<0);case true=>rfl
 obtain⟨n,hn,hl⟩:=sJ (eK hd);simp only[aj,af,ab,bZ,hn,bf hl,az,cL hl]
theorem Oe (t:aw Slot)(f:Ep)(h:∀j,j<8->oA (fQ t j) f=false):∀n k,walk t f n k= -1
 |0,_=>rfl
 |n+1,k=>by unfold walk;rw[h _ (DJ f k),Oe t f h n (k+1)];split<;>rfl
theorem Ia (f:Ep):∀(t:aw Slot)(m:Int),(∀s∈t,oA s f=false)->wL f t m= -1
 |[],_,_=>rfl
 |s::r,m,h=>by unfold wL;rw[h s (by simp)];exact Ia f r (m+1) (λx hx=>h x (by simp[hx]))
theorem UJ (t:aw Slot)(f:Ep)(h:nT t=true):wL f t 0=walk t f 8 0:=by simp only[nT,ae,aS,aG,bT]at h;obtain⟨h8,hs⟩:=h;by_cases hex:∃j,j<t.length/\oA (fQ t j) f=true;obtain⟨j,hj,hu,e⟩:=Cj f t 0 hex;have:=hs j (by omega);simp only[mZ,ae,cz,aK,aS]at this;simp only[oA,ae,aS,aB]at hu;rcases this.2 with g|g;rw[hu.1]at g;simp at g;rw[hu.2]at g;rw[show((0:Int))=((0:Nat):Int) from rfl,e,g];omega;have hn:∀j,j<t.length->oA (fQ t j) f=false:=λj hj=>Bool.eq_false_iff.2 λhu=>hex ⟨j,hj,hu⟩;rw[Oe t f (λj hj=>hn j (by omega)),Ia];intro s wO;obtain⟨j,hj,rfl⟩:=eZ wO;have:=hn j hj;rwa[uY hj]at this
def findF (t:aw Slot)(f:Ep):Int:=bif nT t then walk t f 8 0 else-1
theorem Pw (t:aw Slot)(f:Ep)(h:t.length<=10^9):vw t f=some (findF t f):=by unfold vw findF;rw[Ny,ab];cases ht:nT t;rfl;simp only[aj,af,ah,R1 t f h,ab,UJ t f ht]
theorem XR (t:aw Slot)(f:Ep):∀n k,walk t f n k= -1\/∃m:Nat,walk t f n k=(m:Int)/\m<8
 |0,_=> .inl rfl
 |n+1,k=>by unfold walk;split;exact .inl rfl;split;exact .inr ⟨_,rfl,DJ f k⟩;exact XR t f n (k+1)
theorem Q9 (t:aw Slot)(f:Ep)(h:findF t f>=0):∃m:Nat,findF t f=(m:Int)/\m<t.length:=by
 unfold findF at h⊢;cases ht:nT t with
 |false=>rw[ht]at h;simp at h
 |true=>
  rw[ht]at h;simp only[ah]at h⊢;have h8:t.length=8:=by simp only[nT,ae,aS]at ht;exact ht.1
  rcases XR t f 8 0 with g|⟨m,g,hm⟩;omega;exact⟨m,g,by omega⟩
def cE (m:bM):Bool:=m.all (λx=>(x.length:Int)==128)&&decide ((m.length:Int)<=64)
theorem EX (m:bM)(h:m.length<=10^9):rM m=some (cE m):=by
 unfold rM cE;rw[oE (hit:=some false) (fin:=some (decide ((m.length:Int)<=64))) (λx:Bytes=>(x.length:Int)==128) m (by omega) (λi hi nx=>?hs) (λnx=>?hf)]
 case hs=>
  simp only[qF]
  rw[jU,bf hi,ak];rfl
 case hf=>
  simp only[qF]
  rw[cC];rfl
 cases m.all (λx=>(x.length:Int)==128)<;>rfl
theorem EL (m:bM)(h:m.length<=10^9):rp m=some (cE m):=EX m h
def Hu:aA:=(0,0,0,false)
def EO (m:aA):Bool:=dm m.1 0 7&&(dm m.2.1 0 1023&&dm m.2.2.1 0 63)
def kB (d p:Int)(m:aA):Bool:=(m.1==d)&&(m.2.1==p)
def Ht (l:aw aA)(i:Nat):Bool:=EO (l.getD i Hu)&&(range i).all (λj=> !(kB (l.getD i Hu).1 (l.getD i Hu).2.1 (l.getD j Hu)))
def dF (l:aw aA):Bool:=decide ((l.length:Int)<=96)&&(range l.length).all (Ht l)
theorem P9 (l:aw aA)(h:l.length<=10^9):su l=some (dF l):=by
 unfold su dF;rw[oF (hit:=some false) (fin:=some true) (Ht l) l.length (by omega) (λi nx hi=>?hs) (λnx=>?hf)]
 case hs=>
  simp only[nQ]
  rw[jU,bf hi,ak]
  simp only[ah,ab,eu,bL]
  rw[oF (hit:=some false) (fin:=nx ((i:Int)+1)) (λj=> !(kB l[i].1 l[i].2.1 (l.getD j Hu))) i (by omega) (λj nx hj=>?hs2) (λnx=>?AW)]
  case hs2=>
   have hjl:j<l.length:=by omega
   simp only[mC]
   rw[jU,bf hjl,ak]
   simp only[ah,ab,bL,cL hjl,kB,cF,fZ];rfl
  case AW=>
   simp only[mC]
   rw[cC];rfl
  simp only[Ht,EO,cL hi,cT]
  cases dm l[i].1 0 7<;>cases dm l[i].2.1 0 1023<;>cases dm l[i].2.2.1 0 63<;>cases (range i).all (λj=> !(kB l[i].1 l[i].2.1 (l.getD j Hu)))<;>rfl
 case hf=>
  simp only[nQ]
  rw[cC];rfl
 have e:decide ((l.length:Int)>96)= !decide ((l.length:Int)<=96):=by rw[cq];simp
 rw[e];cases decide ((l.length:Int)<=96)<;>cases (range l.length).all (Ht l)<;>rfl
def NU (l:aw aA)(d p:Int):Int:=match l.findIdx? (kB d p)with|some i=>(i:Int)|none=> -1
theorem KH (l:aw aA)(d p:Int)(h:l.length<=10^9):ki l d p=some (NU l d p):=by
 unfold ki NU;rw[Di (hit:=λi=>some i) (fin:=some (-1)) (kB d p) l (by omega) (λi hi nx=>?hs) (λnx=>?hf)]
 case hs=>
  simp only[mx]
  rw[jU,bf hi,ak]
  simp only[ah,ab,bL,cF,kB];rfl
 case hf=>
  simp only[mx]
  rw[cC];rfl
 cases l.findIdx? (kB d p)<;>rfl
theorem VP (l:aw aA)(i:Nat)(hi:i<l.length):(NU l l[i].1 l[i].2.1==(i:Int))=(range i).all (λj=> !(kB l[i].1 l[i].2.1 (l.getD j Hu))):=by
 have zk:kB l[i].1 l[i].2.1 l[i]=true:=by simp[kB]
 unfold NU;cases hq:l.findIdx? (kB l[i].1 l[i].2.1)with
 |none=>rw[List.findIdx?_eq_none_iff]at hq;rw[hq l[i] (bk hi)]at zk;cases zk
 |some k=>
  rw[List.findIdx?_eq_some_iff_getElem]at hq;obtain⟨hk,hpk,gQ⟩:=hq;rw[cq,aG];simp only[bT,aS,aK];constructor;intro e j hj;have hjl:j<l.length:=by omega
  rw[cL hjl];have:=gQ j (by omega);simpa using this;intro EG;rcases Nat.lt_trichotomy k i with hki|hki|hki;have:=EG k hki;rw[cL hk,hpk]at this;cases this;omega;have:=gQ i hki;rw[zk]at this;simp at this
theorem FV (l:aw aA)(h:l.length<=10^9):nZ l=some (dF l):=by
 unfold nZ dF;rw[oF (hit:=some false) (fin:=some (decide ((l.length:Int)<=96))) (Ht l) l.length (by omega) (λi nx hi=>?hs) (λnx=>?hf)]
 case hs=>
  simp only[nz]
  rw[jU,bf hi,ak]
  simp only[ah,ab,di,bL,KH _ _ _ h,bne,VP l i hi,Ht,EO,cL hi]
  cases dm l[i].1 0 7<;>cases dm l[i].2.1 0 1023<;>cases dm l[i].2.2.1 0 63<;>cases (range i).all (λj=> !(kB l[i].1 l[i].2.1 (l.getD j Hu)))<;>rfl
 case hf=>
  simp only[nz]
  rw[cC];rfl
 cases decide ((l.length:Int)<=96)<;>cases (range l.length).all (Ht l)<;>rfl
def Cn (n:Int)(l:cw)(i:Nat):Bool:=dm (l.getD i 0) 0 (n-1)&& !((l.take i).contains (l.getD i 0))
def dx (p:cR):Bool:=dm p.1 0 130944&&(dm p.2.1 1 512&&(dm p.2.2.1 0 16&&(range p.2.2.2.length).all (Cn p.2.2.1 p.2.2.2)))
def BS (n:Int)(l:cw):aw Bool:=(range n.toNat).map λk:Nat=>l.contains (k:Int)
theorem N4 (n:Int)(l:cw):(BS n l).length=n.toNat:=by simp[BS]
theorem DC (n:Int)(l:cw)(k:Nat)(h:k<(BS n l).length):(BS n l)[k]=l.contains (k:Int):=by simp[BS]
theorem aab (n:Int)(l:cw)(k:Nat)(h:k<n.toNat):(BS n l).set k true=BS n (l++[(k:Int)]):=by
 apply List.ext_getElem;simp[BS];intro j h1 h2;rw[List.getElem_set];split;rename_i e;subst e;rw[DC];simp;rename_i e;rw[DC,DC];simp only[List.contains_append];have:([(k:Int)].contains (j:Int))=false:=by simp;omega
 rw[this];simp
theorem SL {T:(aw Bool×Int->ax Bool)->aw Bool×Int->ax Bool}(n:Int)(l:cw)(hl:l.length<=10^9)
 (hs:∀i (hi:i<l.length)(s:aw Bool) nx,T nx (s,(i:Int))=aa (cond (!(dm l[i] 0 (n-1))) (some true) (aa (idx s l[i]) λx=>some x)) λq=>
  cond q (some false) (aa (idx s l[i]) λ_=>aa (idx s l[i]) λ_=>nx (s.set l[i].toNat true,((i+1:Nat):Int)))) (hf:∀s nx,T nx (s,(l.length:Int))=some true):
 aX T fuel (List.replicate n.toNat false,0)=some ((range l.length).all (Cn n l)):=by
 have e0:(List.replicate n.toNat false,(0:Int))=(BS n (l.take 0),((0:Nat):Int)):=by congr 1;simp only[BS,List.take_zero,List.contains_nil,List.map_const',List.length_range]
 rw[e0,MQ (hit:=some false) (fin:=some true) (λi=>(BS n (l.take i),(i:Int))) (Cn n l) l.length (by omega) (λi nx hi hp=>?hs) (λ_ nx=>hf _ nx)]
 case hs=>
  rw[hs i hi]
  unfold Cn
  rw[cL hi]
  by_cases sJ:dm l[i] 0 (n-1)=true
  ·have hb:=sJ
   rw[bg]at hb
   obtain⟨k,hk⟩:∃k:Nat,l[i]=(k:Int):=⟨l[i].toNat,by omega⟩
   have hkn:k<(BS n (l.take i)).length:=by rw[N4];omega
   rw[sJ,hk,bf hkn,DC]
   simp only[aj,af,ab,bp,fZ,az]
   rw[aab _ _ _ (by rw[N4]at hkn;exact hkn),<-hk,<-bQ hi]
  ·have agY:dm l[i] 0 (n-1)=false:=by simpa using sJ
   rw[agY];rfl
 cases (range l.length).all (Cn n l)<;>rfl
theorem Gz (p:cR)(h:p.2.2.2.length<=10^9):ta p=some (dx p):=by
 unfold ta dx;simp only[eu,ab,bL];by_cases hn:dm p.2.2.1 0 16=true
 ·have hb:=hn;rw[bg]at hb;rw[zip,aP,SL p.2.2.1 p.2.2.2 h (λi hi s nx=>?hs) (λs nx=>?hf)]
  case hs=>
   simp only[um]
   rw[jU,bf hi,ak (n:=(i:Int)+1),ak (n:=p.2.2.1-1)]
   simp only[ah,ab,eu];rfl
  case hf=>
   simp only[um]
   rw[cC];rfl
  rw[hn];cases dm p.1 0 130944<;>cases dm p.2.1 1 512<;>rfl
 have BP:dm p.2.2.1 0 16=false:=by simpa using hn
 rw[BP];cases dm p.1 0 130944<;>cases dm p.2.1 1 512<;>rfl
theorem tB (p:cR)(h:p.2.2.2.length<=10^9):iw p=some (dx p):=by
 unfold iw dx;simp only[di,ab,bL];by_cases hn:dm p.2.2.1 0 16=true
 ·have hb:=hn;rw[bg]at hb;rw[zip,aP,SL p.2.2.1 p.2.2.2 h (λi hi s nx=>?hs) (λs nx=>?hf)]
  case hs=>
   simp only[tL]
   rw[jU,bf hi,ak (n:=(i:Int)+1),ak (n:=p.2.2.1-1)]
   simp only[ah,ab,di];rfl
  case hf=>
   simp only[tL]
   rw[cC];rfl
  rw[hn];cases dm p.1 0 130944<;>cases dm p.2.1 1 512<;>rfl
 have BP:dm p.2.2.1 0 16=false:=by simpa using hn
 rw[BP];cases dm p.1 0 130944<;>cases dm p.2.1 1 512<;>rfl
def iL (n:Int):Bool:=(n==2)||((n==4)||((n==8)||(n==16)))
theorem EN (n:Int):uz n=some (iL n):=by simp only[uz,bL,ab,iL,cT]
theorem CO (n:Int):rA n=some (iL n):=EN n
theorem gG {n:Int}:iL n=true↔n=2\/n=4\/n=8\/n=16:=by simp[iL]
theorem AI (x:Int)(k:Nat)(hk:k<=64:=by omega):au x%(2^k:Int)=x%(2^k:Int):=by
 obtain⟨c,hc⟩:∃c:Int,(18446744073709551616:Int)=2^k*c:=⟨2^(64-k),by rw[<-Int.pow_add,show k+(64-k)=64 by omega];rfl⟩
 have:au x=x\/∃q:Int,au x=x+18446744073709551616*q:=by
  right;simp only[au,fU,IntKind.wrap,IntKind.bits,IntKind.signed];simp;have h1:x=x%18446744073709551616+18446744073709551616*(x/18446744073709551616):=by omega
  split;exact⟨-(x/18446744073709551616)-1,by omega⟩;exact⟨-(x/18446744073709551616),by omega⟩
 rcases this with h|⟨q,h⟩;rw[h];rw[h,hc,Int.mul_assoc,Int.add_mul_emod_self_left]
theorem BZ (x:Int)(k:Nat)(hk:k<63:=by omega):((ga x&&&ga (2^k-1)).toNat:Int)=x%2^k:=by
 have h2:(2:Int)^k<=2^62:=by have:(2:Nat)^k<=2^62:=Nat.pow_le_pow_right (by omega) (by omega);exact_mod_cast this
 have h0:(1:Int)<=2^k:=by have:1<=(2:Nat)^k:=Nat.one_le_two_pow;exact_mod_cast this
 have hm:(ga (2^k-1)).toNat=2^k-1:=by
  show(BitVec.ofInt 64 (2^k-1)).toNat=2^k-1;rw[BitVec.toNat_ofInt,Int.emod_eq_of_lt (by omega) (by omega)];have:((2:Int)^k-1)=((2^k-1:Nat):Int):=by have:1<=(2:Nat)^k:=Nat.one_le_two_pow;push_cast [this];rfl
  rw[this];rfl
 rw[BitVec.toNat_and,hm,Nat.and_two_pow_sub_one_eq_mod];show(((BitVec.ofInt 64 x).toNat%2^k:Nat):Int)=x%2^k;rw[BitVec.toNat_ofInt];have hx:0<=x%18446744073709551616:=by omega
 have e:(((x%18446744073709551616).toNat%2^k:Nat):Int)=(x%18446744073709551616)%2^k:=by push_cast;rw[Int.toNat_of_nonneg hx]
 refine e.trans ?_;exact Int.emod_emod_of_dvd x ⟨2^(64-k),by rw[<-Int.pow_add,show k+(64-k)=64 by omega];rfl⟩
theorem Hy (x n:Int)(h0:0<n:=by omega)(h1:n<=4611686018427387904:=by omega):ix x n=some (x%n):=by
 unfold ix;have:=eI x (show n≠0 by omega);have:=eJ x h0;have hn:(n.natAbs:Int)=n:=by omega
 rw[lZ,Int.tmod_eq_emod];split;rw[cC];simp;rw[jU,ak];simp only[ah,hn];congr 1;omega
def bE (r:lN):Int:=if iL r.2.1 then(r.2.2.2-r.2.2.1)%(2*r.2.1) else 0
theorem Tj (r:lN):rP r=some (bE r):=by
 unfold rP bE;rw[EN,ab];cases hs:iL r.2.1 with
 |false=>rfl
 |true=>
  simp only[aj,af,bN];congr 1;rcases gG.1 hs with h|h|h|h<;>rw[h];have e:au (au (2*2)-1)=2^2-1:=by decide
  rw[e,BZ _ 2,AI _ 2,ak];rfl;have e:au (au (2*4)-1)=2^3-1:=by decide
  rw[e,BZ _ 3,AI _ 3,ak];rfl;have e:au (au (2*8)-1)=2^4-1:=by decide
  rw[e,BZ _ 4,AI _ 4,ak];rfl;have e:au (au (2*16)-1)=2^5-1:=by decide
  rw[e,BZ _ 5,AI _ 5,ak];rfl
theorem yw (r:lN):iV r=some (bE r):=by unfold iV bE;rw[CO,ab];cases hs:iL r.2.1 with|false=>rfl|true=>simp only[aj,af,bN];have hb:=gG.1 hs;rw[ak (n:=2*r.2.1)];have a1:=eI r.2.2.2 (show 2*r.2.1≠0 by omega);have a2:=eJ r.2.2.2 (show 0<2*r.2.1 by omega);have a3:=eI r.2.2.1 (show 2*r.2.1≠0 by omega);have a4:=eJ r.2.2.1 (show 0<2*r.2.1 by omega);simp only[Hy _ (2*r.2.1) (show 0<2*r.2.1 by omega),ab];rw[ak,<-Int.sub_emod]
def cW (r:lN):Bool:=dm r.1 0 130944&&(iL r.2.1&&(dm r.2.2.1 0 (2*r.2.1-1)&&(dm r.2.2.2 0 (2*r.2.1-1)&&decide (bE r<=r.2.1))))
theorem ye {n:Int}(h:iL n=true):au (au (2*n)-1)=2*n-1:=by have:=gG.1 h;rw[ak (n:=2*n),ak]
theorem LF (r:lN):tc r=some (cW r):=by unfold tc cW;simp only[eu,EN,Tj,ab,bL,cF];cases hs:iL r.2.1 with|false=>rfl|true=>rw[ye hs]
theorem wi (r:lN):jh r=some (cW r):=by unfold jh cW;simp only[di,CO,yw,ab,bL,cF];cases hs:iL r.2.1 with|false=>rfl|true=>rw[ye hs]
theorem Vs (p:cR)(h:p.2.2.2.length<=10^9):xK p=some p:=by unfold xK;rw[aP (by simp;omega)];rfl
theorem lj (l:cw)(h:l.length<=10^9):eT l=some l:=by unfold eT;rw[aP (by simp;omega)];rfl
theorem sQ (p:cR)(h:p.2.2.2.length<=10^9):hY p=some p:=by unfold hY;rw[lj _ h];rfl
def gj (p:cR)(l:cw):cR:=(p.1,p.2.1,p.2.2.1,p.2.2.2++l)
def Ah (p:cR)(l:cw):Bool:=dx p&&dx (gj p l)
def EF (p:cR)(l:cw):cR×Bool:=bif Ah p l then(gj p l,true) else(p,false)
theorem KG (p:cR)(l:cw)(h:p.2.2.2.length+l.length<=10^9):fM p l=some (EF p l):=by unfold fM;rw[sQ p (by omega),ab,aP,tB p (by omega)];rw[tB (p.1,p.2.1,p.2.2.1,p.2.2.2++l) (by simp;omega)];simp only[ab,bL,EF,Ah];show _=some (bif dx p&&dx (p.1,p.2.1,p.2.2.1,p.2.2.2++l) then _ else _);cases dx p<;>cases dx (p.1,p.2.1,p.2.2.1,p.2.2.2++l)<;>rfl
theorem agP (p:cR)(l:cw):(EF p l).2=Ah p l:=by unfold EF;cases Ah p l<;>rfl
def nM (n:Int)(s:kO):Bool:=dm s.2.1 1 n&&dm s.1 0 65535
def bu (l:aw kO):cw:=l.flatMap (·.2.2)
def dH (l:aw kO):Int:=(l.map (·.2.1)).sum
def L8 (t:dD):Bool:=cW t.1&&(dx t.2.1&&(dm t.2.2.2 0 65535&&(t.2.2.1.all (nM t.1.2.1)&&(Ah t.2.1 (bu t.2.2.1)&&decide (dH t.2.2.1<=t.1.2.1)))))
theorem xj (n:Int):∀l:aw kO,l.all (nM n)=true->0<=dH l
 |[],_=>by simp[dH]
 |x::l,h=>by simp only[cb,ae]at h;have:=xj n l h.2;have hx:=h.1;unfold nM at hx;simp only[ae,bg]at hx;simp only[dH,cV,List.sum_cons]at this⊢;omega
theorem Nv (p:cR)(n:Int)(hn:n<=16)(fin:Int×cw->ax Bool)(pC:∀s:Int×cw,p.2.2.2.length+s.2.length<=10^9->fin s=some (Ah p s.2)):
 ∀(l:aw kO)(left:Int)(acc:cw),0<=left->left<=n->p.2.2.2.length+(acc.length+(bu l).length)<=10^9->
 qT (λx (s:Int×cw) k=>cond (decide (x.2.1<1)||(decide (x.2.1>s.1)|| !(dm x.1 0 65535))) (some false) (room (s.2.length+x.2.2.length) (k (au (s.1-x.2.1),s.2++x.2.2)))) fin l (left,acc)
  =some (l.all (nM n)&&(Ah p (acc++bu l)&&decide (dH l<=left)))
 |[],left,acc,h0,h1,h2=>by rw[qT,pC _ (by simp[bu]at h2;exact h2)];simp[bu,dH,h0]
 |x::l,left,acc,h0,h1,h2=>by
  have hb:bu (x::l)=x.2.2++bu l:=by simp[bu]
  have hc:dH (x::l)=x.2.1+dH l:=by simp only[dH,cV,List.sum_cons]
  rw[hb,ai]at h2;rw[qT,cb,hb,hc];by_cases c1:x.2.1<1;have e:nM n x=false:=by unfold nM dm;rw[aq (show¬1<=x.2.1 by omega)];rfl
  rw[e,ar c1];rfl;rw[aq c1];by_cases c2:x.2.1>left;rw[ar c2];simp only[jt,cG,ir,ah];cases ha:l.all (nM n)with|false=>simp|true=>have:=xj n l ha;rw[aq (show¬x.2.1+dH l<=left by omega)];simp
  rw[aq c2];have e:nM n x=dm x.1 0 65535:=by have:dm x.2.1 1 n=true:=bg.2 ⟨by omega,by omega⟩;unfold nM;rw[this];rfl
  rw[e];cases dm x.1 0 65535 with
  |false=>rfl
  |true=>
   simp only[cG,aj,af,bp];rw[aP,ak,Nv p n hn fin pC l _ _ (by omega) (by omega) (by rw[ai];omega),aQ];have e:decide (dH l<=left-x.2.1)=decide (x.2.1+dH l<=left):=by rw[cq];simp;omega
   rw[e]
theorem Vi (t:dD)(h1:t.2.2.1.length<=10^9)(h2:t.2.1.2.2.2.length+(bu t.2.2.1).length<=10^9):yb t=some (L8 t):=by
 unfold yb L8;simp only[wi,tB _ (show t.2.1.2.2.2.length<=10^9 by omega),di,ab,bL];cases hr:cW t.1 with
 |false=>rfl
 |true=>
  have hn:0<=t.1.2.1/\t.1.2.1<=16:=by unfold cW at hr;simp only[ae]at hr;have:=gG.1 hr.2.1;omega
  have Ak:=dR;have key:=uS (R:=Bool) (T:=tQ (λ(_:Int) (y9:cw) (_:Int)=>aa (fM t.2.1 y9) λuG=>some uG.2) (λ(GR:Bool) (_:Int) (_:cw) (_:Int)=>some GR) false t.2.2.1 ((List.length t.2.2.1:Int)) t) t.2.2.1 (λ(s:Int×cw) i=>(s.1,s.2,(i:Int))) (λx (s:Int×cw) k=>cond (decide (x.2.1<1)||(decide (x.2.1>s.1)|| !(dm x.1 0 65535))) (some false) (room (s.2.length+x.2.2.length) (k (au (s.1-x.2.1),s.2++x.2.2)))) (λs=>aa (fM t.2.1 s.2) λsM=>some sM.2) (λi hi s nx=>by simp only[tQ];rw[jU,bf hi,ak (n:=(i:Int)+1)];simp only[ah,ab,di,bL,cT];rfl) (λs nx=>by simp only[tQ];rw[cC];rfl) fuel 0 (t.1.2.1,([]:cw)) (by omega) (by omega);rw[dP,Nv t.2.1 t.1.2.1 (by omega) _ (λs hs=>by rw[KG _ _ hs,ab,agP]) _ _ _ (by omega) (by omega) (by simpa using h2)]at key;cases dx t.2.1 with|false=>rfl|true=>cases dm t.2.2.2 0 65535 with|false=>rfl|true=>refine key.trans ?_;simp
def rH (s:eh):Bool:=dm s.2.1 0 65535&&(dm s.2.2.1 0 65535&&(!decide ((List.length s.2.2.2.2.2.2.2:Int)>320)&&
 (bif s.1==17 then(s.2.2.2.1==0)&&((s.2.2.2.2.1==0)&&((s.2.2.2.2.2.1==0)&&(s.2.2.2.2.2.2.1==0)))
  else(s.1==6)&&(dm s.2.2.2.1 0 4294967295&&(dm s.2.2.2.2.1 0 4294967295&&(dm s.2.2.2.2.2.1 0 31&&dm s.2.2.2.2.2.2.1 0 65535))))))
theorem XE (s:eh):qa s=some (rH s):=by simp only[qa,eu,ab,bL,cF,cT,cN,Bool.not_or,fZ,Bool.and_assoc,rH]
theorem Xh (s:eh):pP s=some (rH s):=by simp only[pP,di,ab,bL,cF,cT,cN,Bool.not_or,fZ,Bool.and_assoc,rH];by_cases h:s.1=17;rw[h];rfl;rw[show(s.1==17)=false from by simpa using h];cases s.1==6<;>rfl
def AO (f:Int):Bool:=(f==16)||(f==17)||(f==24)||(f==25)
theorem Kc (f:Int)(h:dm f 0 31=true):(au (toNat (ga f&&&~~~ ga 9))==16)=AO f:=by
 have key:∀k:Fin 32,(au (toNat (ga (k.val:Int)&&&~~~ ga 9))==16)=AO (k.val:Int):=by decide
 rw[bg]at h;have:=key ⟨f.toNat,by omega⟩;rwa[show((f.toNat:Nat):Int)=f by omega]at this
theorem Kb (f:Int)(h:dm f 0 31=true):pT f=some (AO f):=by
 have key:∀k:Fin 32,((au (toNat (ga (k.val:Int)&&&ga 16)) !=0)&&(au (toNat (ga (k.val:Int)&&&~~~ ga 25))==0))=AO (k.val:Int):=by decide
 rw[bg]at h;have:=key ⟨f.toNat,by omega⟩;rw[show((f.toNat:Nat):Int)=f by omega]at this;simp only[pT,bL,ab,cF];rw[this]
theorem DD {s:eh}(h:rH s=true)(h6:(s.1==6)=true):dm s.2.2.2.2.2.1 0 31=true:=by
 have:s.1=6:=by simpa using h6
 unfold rH at h;rw[this]at h;simp only[ae]at h;have h:=h.2.2.2;simp at h;exact h.2.2.1
def oV (p:aN):Bool:=dm p.1 0 281474976710655&&(dm p.2.1 0 281474976710655&&(dm p.2.2.1 (-1) 4095&&(dm p.2.2.2.1 0 255&&(dm p.2.2.2.2.2.1 0 255&&(dm p.2.2.2.2.1 0 65535&&(dm p.2.2.2.2.2.2.1 0 4294967295&&(dm p.2.2.2.2.2.2.2.1 0 4294967295&&rH p.2.2.2.2.2.2.2.2)))))))
def dw (p:aN):Bool:=oV p&&(decide ((List.length p.2.2.2.2.2.2.2.2.2.2.2.2.2.2.2:Int)<=128)||(p.2.2.2.2.2.2.2.2.1==6)&&AO p.2.2.2.2.2.2.2.2.2.2.2.2.2.1)
theorem yu (h:oV p=true):rH p.2.2.2.2.2.2.2.2=true:=by unfold oV at h;simp only[ae]at h;exact h.2.2.2.2.2.2.2.2
theorem HV (p:aN):qK p=some (dw p):=by unfold qK dw;simp only[eu,XE,ab,bL,cF,cT,cN,Bool.not_or,fZ];rw[show(dm p.1 0 281474976710655&&(dm p.2.1 0 281474976710655&&(dm p.2.2.1 (-1) 4095&&(dm p.2.2.2.1 0 255&&(dm p.2.2.2.2.2.1 0 255&&(dm p.2.2.2.2.1 0 65535&&(dm p.2.2.2.2.2.2.1 0 4294967295&&(dm p.2.2.2.2.2.2.2.1 0 4294967295&&rH p.2.2.2.2.2.2.2.2))))))))=oV p from rfl];cases hh:oV p with|false=>rfl|true=>cases h6:p.2.2.2.2.2.2.2.2.1==6 with|false=>simp|true=>rw[Kc _ (DD (yu hh) h6)];simp[Bool.or_comm]
theorem oH (p:aN):gi p=some (dw p):=by
 unfold gi dw;simp only[di,Xh,ab];have e:∀X:ax Bool,(cond (dm p.1 0 281474976710655) (cond (dm p.2.1 0 281474976710655) (cond (dm p.2.2.1 (-1) 4095) (cond (dm p.2.2.2.1 0 255) (cond (dm p.2.2.2.2.2.1 0 255) (cond (dm p.2.2.2.2.1 0 65535) (cond (dm p.2.2.2.2.2.2.1 0 4294967295) (cond (dm p.2.2.2.2.2.2.2.1 0 4294967295) (cond (rH p.2.2.2.2.2.2.2.2) X (some false)) (some false)) (some false)) (some false)) (some false)) (some false)) (some false)) (some false)) (some false))=cond (oV p) X (some false):=by intro X;unfold oV;cases dm p.1 0 281474976710655;rfl;cases dm p.2.1 0 281474976710655;rfl;cases dm p.2.2.1 (-1) 4095;rfl;cases dm p.2.2.2.1 0 255;rfl;cases dm p.2.2.2.2.2.1 0 255;rfl;cases dm p.2.2.2.2.1 0 65535;rfl;cases dm p.2.2.2.2.2.2.1 0 4294967295;rfl;cases dm p.2.2.2.2.2.2.2.1 0 4294967295<;>rfl
 rw[e];cases hh:oV p with|false=>rfl|true=>cases h6:p.2.2.2.2.2.2.2.2.1==6 with|false=>simp[bL]|true=>rw[Kb _ (DD (yu hh) h6)];simp only[ah,ab,bL,cT,bp]
def fI (q:L3):Bool:=dm q.1 0 130944&&(iL q.2.1&&dm q.2.2 0 (au ((au (2*q.2.1))-1)))
theorem Hj (q:L3):nC q=some (fI q):=by simp only[nC,di,CO,ab,bL,cF,fI]
def aaA:qS:=((0,0,0,0,0,0,0,0,0,0,0,0,0,0,0,([]:Bytes)),0,0)
def XJ (p:qS):Bool:=(p.1.1==0)&&((p.1.2.1==0)&&((p.1.2.2.1==0)&&((p.1.2.2.2.1==0)&&((p.1.2.2.2.2.1==0)&&((p.1.2.2.2.2.2.1==0)&&((p.1.2.2.2.2.2.2.1==0)&&((p.1.2.2.2.2.2.2.2.1==0)&&((p.1.2.2.2.2.2.2.2.2.1==0)&&((p.1.2.2.2.2.2.2.2.2.2.1==0)&&((p.1.2.2.2.2.2.2.2.2.2.2.1==0)&&((p.1.2.2.2.2.2.2.2.2.2.2.2.1==0)&&((p.1.2.2.2.2.2.2.2.2.2.2.2.2.1==0)&&((p.1.2.2.2.2.2.2.2.2.2.2.2.2.2.1==0)&&((p.1.2.2.2.2.2.2.2.2.2.2.2.2.2.2.1==0)&&((p.1.2.2.2.2.2.2.2.2.2.2.2.2.2.2.2==([]:Bytes))&&((p.2.1==0)&&((p.2.2==0)&&true)))))))))))))))))
def Ff (r:bR):Bool:=(cW r.1&&(fI r.2.1&&(fI r.2.2.1&&((r.2.1.1==r.2.2.1.1)&&((r.2.1.2.1==r.2.2.1.2.1)&&dm r.2.2.2.2.2 0 1000000000000)))))&&
 (bif r.2.2.2.2.1 then dw r.2.2.2.1.1&&(dm r.2.2.2.1.2.1 0 320&&dm r.2.2.2.1.2.2 1 320) else XJ r.2.2.2.1)
theorem adC (p:qS):XJ p=true↔p=aaA:=by obtain⟨⟨a,b,c,d,e,f,g,h,i,j,k,l,m,n,o,q⟩,r,s⟩:=p;simp only[XJ,aaA,dS,ae,aS,Prod.mk.injEq,and_assoc]
theorem PB (r:bR):uQ r=some (Ff r):=by unfold uQ Ff XJ;simp only[wi,Hj,di,oH,ab,bL,cF,cT,cN,Bool.not_or,fZ,bne];cases r.2.2.2.2.1<;>rfl
def eD (v:Vector):Bool:=(lV v).getD false
theorem EZ (v:Vector):lV v=some (eD v):=by
 have:∃b,lV v=some b:=by simp only[lV,td,eu,ab,bL];exact⟨_,rfl⟩
 obtain⟨b,hb⟩:=this;rw[eD,hb];rfl
theorem yx (v:Vector):lR v=some (eD v):=EZ v
theorem HL (l:aw α)(p:α->Bool):(range l.length).all (λi=>l[i]?.all p)=l.all p:=by rw[cq,aG,aG];constructor;intro h x hx;obtain⟨i,hi,rfl⟩:=eZ hx;have:=h i (bT.2 hi);rwa[al hi]at this;intro h i hi;rw[al (bT.1 hi)];exact h _ (bk _)
theorem WG (l:aw α)(p q:α->Bool):l.all (λx=>p x&&q x)=(l.all p&&l.all q):=by induction l with|nil=>rfl|cons x l ih=>simp only[cb,ih];cases p x<;>cases q x<;>cases l.all p<;>rfl
def ic (h:Host):cw:=[h.2.2.2.2.2.2.2.2.2.2.2.2.2.2.1,h.2.2.2.2.2.2.2.2.2.2.2.2.2.2.2.1,h.2.2.2.2.2.2.2.2.2.2.2.2.2.2.2.2.1,h.2.2.2.2.2.2.2.2.2.2.2.2.2.2.2.2.2.1,h.2.2.2.2.2.2.2.2.2.2.2.2.2.2.2.2.2.2]
def qU (h:Host):Bool:=dm (h.2.2.2.1.length:Int) 1 2&&(((h.2.2.2.2.1.length:Int)==(h.2.2.2.1.length:Int))&&(((h.2.2.2.2.2.1.length:Int)==(h.2.2.2.1.length:Int))&&((h.2.2.2.2.2.2.1.length:Int)==(h.2.2.2.1.length:Int))))
def SZ (h:Host):Bool:=h.2.2.2.1.all Ff&&(h.2.2.2.2.1.all dx&&h.2.2.2.2.2.1.all eD)
def fy (h:Host):Bool:=cE h.1&&(dF h.2.1&&(L8 h.2.2.1&&(qf h.2.2.2.2.2.2.2.1&&(qU h&&(fu h.2.2.2.2.2.2.2.2.1 (h.2.2.2.1.length:Int)&&(SZ h&&(ic h).all (λx=>dm x 0 1000000000000)))))))
structure JH (h:Host):Prop where
 a1:h.1.length<=10^9
 a2:h.2.1.length<=10^9
 t1:h.2.2.1.2.2.1.length<=10^9
 t2:h.2.2.1.2.1.2.2.2.length+(bu h.2.2.1.2.2.1).length<=10^9
 f1:h.2.2.2.2.2.2.2.1.2.2.length<=10^9
 s1:h.2.2.2.2.2.2.2.2.1.1.length<=10^9
 s2:h.2.2.2.2.2.2.2.2.1.2.1.length<=10^9
 s3:h.2.2.2.2.2.2.2.2.1.2.2.2.length<=10^9
 p1:∀p∈h.2.2.2.2.1,p.2.2.2.length<=10^9
theorem qB (l:qU h=true):h.2.2.2.1.length<=2/\h.2.2.2.2.1.length=h.2.2.2.1.length/\h.2.2.2.2.2.1.length=h.2.2.2.1.length/\h.2.2.2.2.2.2.1.length=h.2.2.2.1.length:=by unfold qU at l;simp only[ae,bg,aS]at l;omega
theorem Z8 {T:(Int->ax R)->Int->ax R}{fin hit:ax R}(l:qU h=true)(hs:∀i (hi:i<h.2.2.2.1.length) nx,T nx (i:Int)=cond (!(Ff h.2.2.2.1[i]&&(dx (h.2.2.2.2.1[i]'((qB l).2.1▸hi))&&eD (h.2.2.2.2.2.1[i]'((qB l).2.2.1▸hi))))) hit (nx ((i+1:Nat):Int)))(hf:∀nx,T nx (h.2.2.2.1.length:Int)=fin):aX T fuel 0=cond (SZ h) fin hit:=by
 have hl:=qB l;rw[oF (fin:=fin) (hit:=hit) (λi=>h.2.2.2.1[i]?.all Ff&&(h.2.2.2.2.1[i]?.all dx&&h.2.2.2.2.2.1[i]?.all eD)) h.2.2.2.1.length (by omega) ?hs hf]
 case hs=>
  intro i nx hi
  rw[hs i hi,al hi,al (hl.2.1▸hi),al (hl.2.2.1▸hi)]
  rfl
 rw[WG,WG,HL];have e1:=HL h.2.2.2.2.1 dx;have e2:=HL h.2.2.2.2.2.1 eD;rw[hl.2.1]at e1;rw[hl.2.2.1]at e2;rw[e1,e2];rfl
theorem QU {T:(Int->ax R)->Int->ax R}{fin hit:ax R}(h:Host)(hs:∀i (hi:i<(ic h).length) nx,T nx (i:Int)=cond (!(dm (ic h)[i] 0 1000000000000)) hit (nx ((i+1:Nat):Int)))(hf:∀nx,T nx ((ic h).length:Int)=fin):aX T fuel 0=cond ((ic h).all (λx=>dm x 0 1000000000000)) fin hit:=oE (λx=>dm x 0 1000000000000) (ic h) (by simp[ic]) hs hf
theorem tA (h:Host)(z:JH h):iv h=some (fy h):=by
 unfold iv fy;simp only[EL _ z.a1,FV _ z.a2,Vi _ z.t1 z.t2,KE _ z.f1,F0 _ _ z.s1 z.s2 z.s3,di,ab,bL];cases cE h.1;rfl;cases dF h.2.1;rfl;cases L8 h.2.2.1;rfl;cases qf h.2.2.2.2.2.2.2.1;rfl;simp only[aj,af,cT,bne];rw[show(!dm (h.2.2.2.1.length:Int) 1 2||(!((h.2.2.2.2.1.length:Int)==(h.2.2.2.1.length:Int))||(!((h.2.2.2.2.2.1.length:Int)==(h.2.2.2.1.length:Int))|| !((h.2.2.2.2.2.2.1.length:Int)==(h.2.2.2.1.length:Int)))))= !(qU h) by unfold qU;simp only[Bool.not_and]];cases hl:qU h;rfl;have hL:=qB hl;simp only[aj,af,bp];rw[Z8 (h:=h) (hit:=some false) (fin:=some ((ic h).all (λx=>dm x 0 1000000000000)&&fu h.2.2.2.2.2.2.2.2.1 (h.2.2.2.1.length:Int))) hl ?hs ?hf]
 case hs=>
  intro i hi nx
  simp only[tH]
  rw[jU,bf hi,bf (hL.2.1▸hi),bf (hL.2.2.1▸hi),ak (n:=(i:Int)+1)]
  simp only[ah,ab,PB,yx,tB _ (z.p1 _ (bk _)),bL,cT,Bool.not_and]
  rfl
 case hf=>
  intro nx
  simp only[tH]
  rw[cC]
  simp only[af]
  refine(QU (fin:=some (fu h.2.2.2.2.2.2.2.2.1 (h.2.2.2.1.length:Int))) (hit:=some false) h ?_ ?_).trans ?_
  ·intro i hi nx
   simp only[rZ]
   have nu:i<5:=hi
   change (bif decide ((i:Int)<5) then aa (idx (ic h) (i:Int)) _ else _)=_
   rw[jU,bf hi,ak (n:=(i:Int)+1),ab,di]
   rfl
  ·intro nx
   simp only[rZ]
   rw[aq (by simp[ic])];rfl
  ·cases (ic h).all (λx=>dm x 0 1000000000000)<;>rfl
 cases SZ h<;>cases fu h.2.2.2.2.2.2.2.2.1 (h.2.2.2.1.length:Int)<;>cases (ic h).all (λx=>dm x 0 1000000000000)<;>rfl
def hasB (l:cw)(v:Int):Bool:=l.any (·==v)
theorem aeM (l:cw)(v:Int)(h:l.length<=10^9):jW l v=some (hasB l v):=by
 unfold jW hasB;rw[Fl (hit:=some true) (fin:=some false) (λx:Int=>x==v) l (by omega) (λi hi nx=>?hs) (λnx=>?hf)]
 case hs=>
  simp only[mR]
  rw[jU,bf hi,ak];rfl
 case hf=>
  simp only[mR]
  rw[cC];rfl
 cases l.any (λx=>x==v)<;>rfl
theorem Tn (l:aw α)(j:Nat)(h:j<=l.length):sub l (j:Int) (l.length:Int)=some (l.drop j):=by unfold sub;rw[zip];simp
def yg (f:Filter)(p:aN):Bool:=qf f&&(((p.1==f.1)||((p.1==281474976710655)||f.2.1))&&((p.2.2.1== -1)||hasB f.2.2 p.2.2.1))
theorem RN (f:Filter)(p:aN)(h:f.2.2.length<=10^9):xn f p=some (yg f p):=by simp only[xn,KE f h,aeM f.2.2 _ h,ab,yg];cases qf f<;>cases p.1==f.1<;>cases p.1==281474976710655<;>cases f.2.1<;>cases p.2.2.1== -1<;>rfl
def preB (a b n:Int):Bool:=fdiv a (2^(min (Int.toNat (au (32-n))) (IntKind.bits .i64)))==fdiv b (2^(min (Int.toNat (au (32-n))) (IntKind.bits .i64)))
theorem Z9 {r:iA}(h:zB r=true):0<=r.2.2.2.1/\r.2.2.2.1<=32:=by rw[<-bg];unfold zB at h;simp only[lK,eu,ab,bL]at h;cases hp:dm r.2.2.2.1 0 32 with|true=>rfl|false=>rw[hp]at h;revert h;cases dm r.1 0 1000<;>cases r.2.1 !=0<;>cases r.2.1 !=6<;>cases r.2.1 !=17<;>cases dm r.2.2.1 0 4294967295<;>simp
def afM (r:iA)(p:aN):Bool:=preB r.2.2.1 p.2.2.2.2.2.2.1 r.2.2.2.1&&(dm p.2.2.2.2.2.2.2.2.2.2.1 r.2.2.2.2.1 r.2.2.2.2.2.1&&((r.2.2.2.2.2.2.1== -2)||(r.2.2.2.2.2.2.1==p.2.2.1)))
def Hx (r:iA)(p:aN):Bool:=zB r&&(dw p&&(((r.2.1==0)||(r.2.1==p.2.2.2.2.2.2.2.2.1))&&afM r p))
theorem aeP (a b n:Int)(h0:0<=n)(h1:n<=32):oe a b n=some (preB a b n):=by unfold oe preB;rw[aH (by rw[ak (n:=32-n)];omega),aH (by rw[ak (n:=32-n)];omega)]
theorem YL (r:iA)(p:aN):qo r p=some (Hx r p):=by unfold qo Hx;rw[acB,ab];cases hr:zB r;rfl;have hp:=Z9 hr;simp only[oH,aeP _ _ _ hp.1 hp.2,di,ab,afM];cases dw p<;>cases r.2.1==0<;>cases r.2.1==p.2.2.2.2.2.2.2.2.1<;>cases preB r.2.2.1 p.2.2.2.2.2.2.1 r.2.2.2.1<;>cases dm p.2.2.2.2.2.2.2.2.2.2.1 r.2.2.2.2.1 r.2.2.2.2.2.1<;>cases r.2.2.2.2.2.2.1== -2<;>rfl
def IG:iA:=(0,0,0,0,0,0,0,0,0)
def yi (l:aw iA)(p:aN):Nat->Int
 |0=> -1
 |i+1=>bif Hx (l.getD i IG) p&&(decide (yi l p i<0)||decide ((l.getD i IG).1<(l.getD (yi l p i).toNat IG).1)) then(i:Int) else yi l p i
theorem JK (l:aw iA)(p:aN):∀i,yi l p i= -1\/∃n:Nat,yi l p i=(n:Int)/\n<i
 |0=> .inl rfl
 |i+1=>by rw[yi];cases Hx (l.getD i IG) p&&(decide (yi l p i<0)||decide ((l.getD i IG).1<(l.getD (yi l p i).toNat IG).1))with|true=>exact .inr ⟨i,rfl,by omega⟩|false=>rcases JK l p i with h|⟨n,h,hn⟩;exact .inl h;exact .inr ⟨n,h,by omega⟩
theorem XY (l:aw iA)(p:aN)(i:Nat)(hi:i<l.length)(nx:Int×Int->ax R): (aa (cond (Hx l[i] p) (cond (decide (yi l p i<0)) (some true) (aa (idx l (yi l p i)) λx4=>some (decide (l[i].1<x4.1)))) (some false)) λq5=>cond q5 (nx ((i:Int),((i+1:Nat):Int))) (nx (yi l p i,((i+1:Nat):Int))))=nx (yi l p (i+1),((i+1:Nat):Int)):=by
 rw[yi,cL hi];cases Hx l[i] p;rfl;rcases JK l p i with h|⟨n,h,hn⟩;rw[h];rfl;have hl:n<l.length:=by omega
 rw[h,aq (show¬(n:Int)<0 by omega),bf hl];simp only[ah,af,ab,az,cL hl,bp,cG];cases decide (l[i].1<l[n].1)<;>rfl
def DU (l:aw iA)(p:aN):Int:=bif wT l then yi l p l.length else-1
theorem Ra (l:aw iA)(p:aN)(h:DU l p>=0):∃n:Nat,DU l p=(n:Int)/\n<l.length:=by unfold DU at h⊢;cases hr:wT l with|false=>rw[hr]at h;simp at h|true=>rw[hr]at h;simp only[ah]at h⊢;rcases JK l p l.length with g|g;omega;exact g
theorem YJ (l:aw iA)(p:aN)(h:l.length<=10^9):vx l p=some (DU l p):=by unfold vx DU;rw[Nu l h,ab];cases wT l;rfl;simp only[aj,af,ah];refine eG (λi=>(yi l p i,(i:Int))) l.length (by omega) (λi nx hi=>?_) (λnx=>?_);simp only[qi];rw[jU,bf hi,ak (n:=(i:Int)+1)];simp only[ah,ab,YL];exact XY l p i hi nx;simp only[qi];rw[cC];rfl
def kS (p:aN):Ep:=(p.2.2.2.2.2.2.2.2.1,p.2.2.2.2.2.2.1,p.2.2.2.2.2.2.2.1,p.2.2.2.2.2.2.2.2.2.1,p.2.2.2.2.2.2.2.2.2.2.1)
theorem KF (p:aN):sV p=some (kS p):=rfl
theorem adw (p:aN):CW p=some (kS p):=rfl
def ajL:Slot:=(0,(0,0,0,0,0),0)
def uC (s:cS)(q:Int)(p:aN):Int:=
 bif !fu s q|| !dw p then-1 else
 bif decide (DU s.1 p>=0) then(bif (s.1.getD (DU s.1 p).toNat IG).2.2.2.2.2.2.2.1==1 then-1 else(s.1.getD (DU s.1 p).toNat IG).2.2.2.2.2.2.2.2) else
 bif decide (findF s.2.1 (kS p)>=0) then(s.2.1.getD (findF s.2.1 (kS p)).toNat ajL).2.2 else Jz s.2.2 q (kS p)
theorem YW (s:cS)(q:Int)(p:aN)(h1:s.1.length<=10^9)(h2:s.2.1.length<=10^9)(h3:s.2.2.2.length<=10^9):qq s q p=some (uC s q p):=by
 unfold qq uC;rw[F0 s q h1 h2 h3,ab,oH,ab];cases fu s q;rfl;cases dw p;rfl;simp only[aj,af,ab,bZ,YJ s.1 p h1,KF,Pw s.2.1 _ h2,R2 s.2.2 q _ h3];cases hd:decide (DU s.1 p>=0)with
 |true=>obtain⟨n,hn,hl⟩:=Ra s.1 p (bl hd);simp only[ah,hn,bf hl,ab,az,cL hl];cases s.1[n].2.2.2.2.2.2.2.1==1<;>rfl
 |false=>
  simp only[af];cases Qy:decide (findF s.2.1 (kS p)>=0)with
  |true=>obtain⟨n,hn,hl⟩:=Q9 s.2.1 (kS p) (bl Qy);simp only[ah,hn,bf hl,ab,az,cL hl]
  |false=>rfl
def XU (a b:Int):Int:=(lI a b).getD 0
theorem Jy (a b:Int):lI a b=some (XU a b):=by
 unfold XU;have:∃x,lI a b=some x:=by simp only[lI,eu,ab];cases dm a 0 65535<;>cases dm b 0 65535<;>cases decide (au (a+b)>65535)<;>exact⟨_,rfl⟩
 obtain⟨x,hx⟩:=this;rw[hx];rfl
theorem RO (a b:Int):xo a b=some (XU a b):=Jy a b
theorem aei {a b:Int}(h:0<=a/\a<=65535)(k:0<=b/\b<=65535):0<=XU a b/\XU a b<=65535:=by have e:=Jy a b;simp only[lI,eu,ab,bg.2 h,bg.2 k,aj,af]at e;rw[ak (n:=a+b)]at e;by_cases hc:a+b>65535;rw[ar hc,ah,ak]at e;rw[<-dp e];omega;rw[aq hc,af]at e;rw[<-dp e];omega
def sw (s:Bytes):Nat->Int
 |0=>0
 |j+1=>XU (sw s j) ((bG s (2*j)*256+bG s (2*j+1):Nat):Int)
theorem adD (s:Bytes):∀j,0<=sw s j/\sw s j<=65535
 |0=>by simp[sw]
 |j+1=>by have b0:=eE s (2*j);have b1:=eE s (2*j+1);exact aei (adD s j) (by omega)
theorem Ev (h:s.length<=i:=by omega):bG s i=0:=by unfold bG;rw[cm,bh h];rfl
theorem afp (s:Bytes)(h:s.length<=10^9):vW s=some (sw s ((s.length+1)/2)):=by
 unfold vW;refine eG (λj=>(sw s j,((2*j:Nat):Int))) ((s.length+1)/2) (by omega) (λj nx hj=>?_) (λnx=>?_);have b0:=eE s (2*j);have b1:=eE s (2*j+1);obtain⟨x,hx,ex⟩:=ln (s:=s) (i:=2*j);simp only[qJ];rw[jU,ah,hx,ab,lZ,ak (n:=((2*j:Nat):Int)+1),ak (n:=((2*j:Nat):Int)+2),ex,gV];have e8:oC 8=8:=rfl;have en:((2*j:Nat):Int)+2=((2*(j+1):Nat):Int):=by omega
 rw[e8,ak (n:=((bG s (2*j):Nat):Int)*2^8)];by_cases hc:2*j+1<s.length;obtain⟨y,hy,ey⟩:=ln (s:=s) (i:=2*j+1) hc;rw[jU,ah,show((2*j:Nat):Int)+1=((2*j+1:Nat):Int) by omega,hy,ab,ey,gV (n:=bG s (2*j+1)),ak,Jy,ab,en,show((bG s (2*j):Nat):Int)*2^8+((bG s (2*j+1):Nat):Int)=((bG s (2*j)*256+bG s (2*j+1):Nat):Int) by omega];rfl;have hz:=Ev (s:=s) (i:=2*j+1);rw[cC,af,Jy,ab,en,show((bG s (2*j):Nat):Int)*2^8=((bG s (2*j)*256+bG s (2*j+1):Nat):Int) by rw[hz];omega];rfl;simp only[qJ];rw[cC];rfl
theorem aeR (s:Bytes)(h:s.length<=10^9):vI s=some (sw s ((s.length+1)/2)):=by
 unfold vI;refine eG (λj=>(sw s j,((2*j:Nat):Int))) ((s.length+1)/2) (by omega) (λj nx hj=>?_) (λnx=>?_);have b0:=eE s (2*j);have b1:=eE s (2*j+1);obtain⟨x,hx,ex⟩:=ln (s:=s) (i:=2*j);simp only[qt];rw[jU,ah,hx,ab,lZ,ak (n:=((2*j:Nat):Int)+1),ak (n:=((2*j:Nat):Int)+2),ex,gV];have e8:oC 8=8:=rfl;have en:((2*j:Nat):Int)+2=((2*(j+1):Nat):Int):=by omega
 rw[e8,show((bG s (2*j):Nat):Int)*2^8=((2^8*bG s (2*j):Nat):Int) by omega,gV (n:=2^8*bG s (2*j))];by_cases hc:2*j+1<s.length;obtain⟨y,hy,ey⟩:=ln (s:=s) (i:=2*j+1) hc;rw[jU,ah,show((2*j:Nat):Int)+1=((2*j+1:Nat):Int) by omega,hy,ab,ey,gV (n:=bG s (2*j+1)),ET (bG s (2*j)) 8 (bG s (2*j+1)),RO,ab,en,show 2^8*bG s (2*j)+bG s (2*j+1)=bG s (2*j)*256+bG s (2*j+1) by omega];rfl;have hz:=Ev (s:=s) (i:=2*j+1);rw[cC,af,RO,ab,en,show((2^8*bG s (2*j):Nat):Int)=((bG s (2*j)*256+bG s (2*j+1):Nat):Int) by rw[hz];omega];rfl;simp only[qt];rw[cC];rfl
def MU (s:Bytes):Int:=65535-sw s ((s.length+1)/2)
theorem P8 (s:Bytes)(h:s.length<=10^9):oL s=some (MU s):=by have:=adD s ((s.length+1)/2);simp only[oL,afp s h,ab];rw[ak];rfl
theorem Ju (s:Bytes)(h:s.length<=10^9):iU s=some (MU s):=by have:=adD s ((s.length+1)/2);simp only[iU,aeR s h,ab];rw[ak];rfl
def uV (s:Bytes)(a:Int)(p:Bytes):Bytes:=bif eV s a (p.length:Int) then(s.take a.toNat++p)++s.drop (a.toNat+p.length) else s
theorem wB (s:Bytes)(a:Int)(p:Bytes):(uV s a p).length=s.length:=by unfold uV;cases hw:eV s a (p.length:Int)with|false=>rfl|true=>simp only[eV,aB]at hw;simp only[ah,ai,aY,aM];omega
theorem SU (s:Bytes)(a:Int)(p:Bytes)(h:s.length<=10^9)(hw:eV s a (p.length:Int)=true): (aa (sub s 0 a) λx2=>room (List.length x2+List.length p) (aa (sub s (au (a+((List.length p:Int)))) ((List.length s:Int))) λx3=>room (List.length (x2++p)+List.length x3) (some ((x2++p)++x3))))=some (uV s a p):=by
 have hw':=hw;simp only[eV,aB]at hw';obtain⟨n,rfl⟩:=aV hw'.1;have e1:sub s 0 (n:Int)=some (s.take n):=by unfold sub;rw[zip];rfl
 have e2:sub s (((n+p.length:Nat):Int)) (s.length:Int)=some (s.drop (n+p.length)):=by unfold sub;rw[zip,az,az,eR]
 rw[e1,ak,show(n:Int)+(p.length:Int)=((n+p.length:Nat):Int) by omega,e2,ab,aP (by simp only[aY];omega),ab,aP (by simp only[ai,aY,aM];omega)];unfold uV;rw[hw];rfl
theorem GA (s:Bytes)(a:Int)(p:Bytes)(h:s.length<=10^9:=by omega):hZ s a p=some (uV s a p):=by unfold hZ;rw[CV s a _ h,ab];cases hw:eV s a (p.length:Int)with|false=>simp only[bF,ah,uV,hw,af]|true=>exact SU s a p h hw
theorem Bc (s:Bytes)(a:Int)(p:Bytes)(h:s.length<=10^9:=by omega)(hp:p.length<=10^9:=by omega):fG s a p=some (uV s a p):=by
 unfold fG;rw[ak (n:=(s.length:Int)-(p.length:Int))];cases hw:eV s a (p.length:Int)with
 |true=>have hw':=hw;simp only[eV,aB]at hw';rw[aq (show¬a<0 by omega),aq (show¬a>(s.length:Int)-(p.length:Int) by omega)];exact SU s a p h hw
 |false=>
  have hp:uV s a p=s:=by unfold uV;rw[hw];rfl
  rw[hp];simp only[eV,cP]at hw;by_cases h0:a<0;rw[ar h0];rfl;rw[aq h0,ar (show a>(s.length:Int)-(p.length:Int) by omega)];rfl
def bs2 (x y:Int):Bytes:=aJ [x,y]
theorem Ov (x y:Int):(bs2 x y).length=2:=rfl
def xx (a b k n:Int):Bool:=dm a 0 4294967295&&(dm b 0 4294967295&&(dm k 0 255&&dm n 0 65535))
def uU (a b k n:Int):Bytes:=((iP a++iP b)++bs2 0 (fU k))++bP n
theorem HI (a b k n:Int):(uU a b k n).length<=12:=by have:=ez a;have:=ez b;have:=bD n;simp only[uU,ai,Ov];omega
theorem EY (a b k n:Int):lJ a b k n=some (bif xx a b k n then(uU a b k n,true) else([],false)):=by have:=ez a;have:=ez b;have:=bD n;unfold lJ xx;simp only[eu,ab,pY,nN];cases dm a 0 4294967295;rfl;cases dm b 0 4294967295;rfl;cases dm k 0 255;rfl;cases dm n 0 65535;rfl;simp only[aj,af,eY,ah,ab];have e:(aJ [0,fU k]).length=2:=rfl;rw[aP,aP (by simp only[ai,e];omega),aP (by simp only[ai,e];omega)];rfl
theorem KK (a b k n:Int):pg a b k n=some (bif xx a b k n then(uU a b k n,true) else([],false)):=EY a b k n
def bare (g:eh):Bytes:=bif g.1==6 then
    (((((bP g.2.1++bP g.2.2.1)++iP g.2.2.2.1)++iP g.2.2.2.2.1)++bs2 80 (fU g.2.2.2.2.2.1))++bP g.2.2.2.2.2.2.1)++iP 0++g.2.2.2.2.2.2.2
 else(((bP g.2.1++bP g.2.2.1)++bP (8+(g.2.2.2.2.2.2.2.length:Int)))++bP 0)++g.2.2.2.2.2.2.2
theorem Oq (g:eh):(bare g).length<=20+g.2.2.2.2.2.2.2.length:=by have:=bD g.2.1;have:=bD g.2.2.1;have:=ez g.2.2.2.1;have:=ez g.2.2.2.2.1;have:=bD g.2.2.2.2.2.2.1;have:=ez 0;have:=bD 0;have:=bD (8+(g.2.2.2.2.2.2.2.length:Int));unfold bare;cases g.1==6<;>simp only[ah,af,ai,Ov]<;>omega
theorem aaG:bP 0++bP 0=iP 0:=by rfl
theorem ack (g:eh)(h:g.2.2.2.2.2.2.2.length<=1000000):qy g=some (bare g):=by have:=bD g.2.1;have:=bD g.2.2.1;have:=ez g.2.2.2.1;have:=ez g.2.2.2.2.1;have:=bD g.2.2.2.2.2.2.1;have:=bD 0;have:=bD (8+(g.2.2.2.2.2.2.2.length:Int));have e:∀x,(aJ [80,fU x]).length=2:=λ_=>rfl;unfold qy bare;rw[ak (n:=8+(g.2.2.2.2.2.2.2.length:Int))];simp only[kt,yy,ab];rw[aP];cases g.1==6 with|true=>simp only[ah];rw[aP (by simp only[ai,e];omega),aP (by simp only[ai,e];omega),aP (by simp only[ai,e];omega),aP (by simp only[ai,e];omega),aP (by simp only[ai,e];omega),aP (by simp only[ai,e];omega),aP (by simp only[ai,e];omega)];rw[<-aaG];simp only[bs2,aQ]|false=>simp only[af];rw[aP (by simp only[ai];omega),aP (by simp only[ai];omega),aP (by simp only[ai];omega)]
def XH (a b:Int)(g:eh):Int:=bif (MU (uU a b g.1 ((bare g).length:Int)++bare g)==0)&&(g.1==17) then 65535 else MU (uU a b g.1 ((bare g).length:Int)++bare g)
def XA (a b:Int)(g:eh):Bytes:=uV (bare g) (bif g.1==6 then 16 else 6) (bP (XH a b g))
def Lw (a b:Int)(g:eh):Bool:=rH g&&xx a b g.1 ((bare g).length:Int)
def zW (a b:Int)(g:eh):Bytes×Bool:=bif Lw a b g then(XA a b g,true) else([],false)
theorem CP {g:eh}(h:rH g=true):g.2.2.2.2.2.2.2.length<=320:=by simp only[rH,ae,aK,cP]at h;omega
theorem CU (a b:Int)(g:eh):jq a b g=some (zW a b g):=by
 unfold jq zW Lw;rw[XE,ab];cases hg:rH g;rfl;have hb:=CP hg;have hl:=Oq g;have hp:=HI a b g.1 ((bare g).length:Int);have:=bD g.2.1;have:=bD g.2.2.1;have:=ez g.2.2.2.1;have:=ez g.2.2.2.2.1;have:=bD g.2.2.2.2.2.2.1;have:=ez 0;have:=bD 0;have:=bD (8+(g.2.2.2.2.2.2.2.length:Int));have e:∀x,(aJ [80,fU x]).length=2:=λ_=>rfl;rw[ak (n:=8+(g.2.2.2.2.2.2.2.length:Int))];simp only[nN,pY,ab,aj,af,bp];rw[aP];cases h6:g.1==6 with
 |true=>
  have abZ:bare g=(((((bP g.2.1++bP g.2.2.1)++iP g.2.2.2.1)++iP g.2.2.2.2.1)++aJ [80,fU g.2.2.2.2.2.1])++bP g.2.2.2.2.2.2.1)++iP 0++g.2.2.2.2.2.2.2:=by unfold bare;rw[h6];rfl
  simp only[ah];rw[aP (by simp only[ai,e];omega),aP (by simp only[ai,e];omega),aP (by simp only[ai,e];omega),aP (by simp only[ai,e];omega),aP (by simp only[ai,e];omega),aP (by simp only[ai,e];omega),<-abZ,EY,ab];cases xx a b g.1 ((bare g).length:Int);rfl;simp only[ah,aj,af];rw[aP,P8 _ (by simp only[ai];omega)];simp only[ab,bL,GA _ _ _ (show(bare g).length<=10^9 by omega),XA,XH,h6,ah,cF];cases (MU (uU a b g.1 ((bare g).length:Int)++bare g)==0)&&(g.1==17)<;>rfl
 |false=>
  have abZ:bare g=(((bP g.2.1++bP g.2.2.1)++bP (8+(g.2.2.2.2.2.2.2.length:Int)))++bP 0)++g.2.2.2.2.2.2.2:=by unfold bare;rw[h6];rfl
  simp only[af];rw[aP (by simp only[ai];omega),aP (by simp only[ai];omega),aP (by simp only[ai];omega),<-abZ,EY,ab];cases xx a b g.1 ((bare g).length:Int);rfl;simp only[ah,aj,af];rw[aP,P8 _ (by simp only[ai];omega)];simp only[ab,bL,GA _ _ _ (show(bare g).length<=10^9 by omega),XA,XH,h6,af,cF];cases (MU (uU a b g.1 ((bare g).length:Int)++bare g)==0)&&(g.1==17)<;>rfl
theorem CB (a b:Int)(g:eh):jj a b g=some (zW a b g):=by
 unfold jj zW Lw;rw[Xh,ab];cases hg:rH g;rfl;have hb:=CP hg;have hl:=Oq g;have hp:=HI a b g.1 ((bare g).length:Int);have Hf:fj g.1=some (bif g.1==6 then 16 else 6):=by unfold fj;rw[bL]
 have w1:=bD 65535;have w2:=bD (MU (uU a b g.1 ((bare g).length:Int)++bare g));simp only[ack g (by omega),KK,ab,aj,af,bp];cases xx a b g.1 ((bare g).length:Int);rfl;simp only[ah,aj,af];rw[aP,Ju _ (by simp only[ai];omega)];simp only[ab,bL,Hf,kt,Bc _ _ _ (show(bare g).length<=10^9 by omega) (show(bP 65535).length<=10^9 by omega),Bc _ _ _ (show(bare g).length<=10^9 by omega) (show(bP (MU (uU a b g.1 ((bare g).length:Int)++bare g))).length<=10^9 by omega),XA,XH,cF];rw[Bool.and_comm];cases (MU (uU a b g.1 ((bare g).length:Int)++bare g)==0)&&(g.1==17)<;>rfl
theorem afi (a b:Int)(g:eh):(zW a b g).1.length<=340:=by unfold zW;cases h:Lw a b g with|false=>exact bW _|true=>simp only[Lw,ae]at h;have:=CP h.1;have:=Oq g;show(uV _ _ _).length<=340;rw[wB];omega
def Vn (d:Ip):Bool:=dm d.1 0 255&&(dm d.2.2.1 0 255&&(dm d.2.2.2.1 0 255&&(dm d.2.1 0 65535&&(dm d.2.2.2.2.1 0 4294967295&&(dm d.2.2.2.2.2.1 0 4294967295&&decide ((d.2.2.2.2.2.2.length:Int)<=380))))))
theorem Tf (d:Ip):DF d=some (Vn d):=by simp only[DF,eu,ab,bL,cF,Vn]
theorem acs (d:Ip):Hl d=some (Vn d):=Tf d
def KP (d:Ip):Bytes:=((((((bs2 69 (fU d.1)++bP (20+(d.2.2.2.2.2.2.length:Int)))++bP d.2.1)++bP 16384)++bs2 (fU d.2.2.1) (fU d.2.2.2.1))++bP 0)++iP d.2.2.2.2.1)++iP d.2.2.2.2.2.1
theorem KQ (d:Ip):(KP d).length<=20:=by have:=bD (20+(d.2.2.2.2.2.2.length:Int));have:=bD d.2.1;have:=bD 16384;have:=bD 0;have:=ez d.2.2.2.2.1;have:=ez d.2.2.2.2.2.1;simp only[KP,ai,Ov];omega
def KO (d:Ip):Bytes:=uV (KP d) 10 (bP (MU (KP d)))
theorem Wf (d:Ip):vT d=some (bif Vn d then(KO d,true) else([],false)):=by
 unfold vT;rw[Tf,ab];cases hd:Vn d;rfl;have hn:(d.2.2.2.2.2.2.length:Int)<=380:=by simp only[Vn,ae,aB]at hd;omega
 have:=bD (20+(d.2.2.2.2.2.2.length:Int));have:=bD d.2.1;have:=bD 16384;have:=bD 0;have:=ez d.2.2.2.2.1;have:=ez d.2.2.2.2.2.1;have hl:=KQ d;have e:∀x y,(aJ [x,y]).length=2:=λ_ _=>rfl;rw[ak (n:=20+(d.2.2.2.2.2.2.length:Int))];simp only[nN,pY,ab,aj,af,ah];rw[aP (by simp only[ai,e];omega),aP (by simp only[ai,e];omega),aP (by simp only[ai,e];omega),aP (by simp only[ai,e];omega),aP (by simp only[ai,e];omega),aP (by simp only[ai,e];omega),aP (by simp only[ai,e];omega)];have hp:((((((aJ [69,fU d.1]++bP (20+(d.2.2.2.2.2.2.length:Int)))++bP d.2.1)++bP 16384)++aJ [fU d.2.2.1,fU d.2.2.2.1])++bP 0)++iP d.2.2.2.2.1)++iP d.2.2.2.2.2.1=KP d:=rfl;rw[hp,P8 _ (by omega),ab,GA _ _ _];rfl
theorem Vb (d:Ip):vD d=some (bif Vn d then(KO d,true) else([],false)):=by
 unfold vD;rw[acs,ab];cases hd:Vn d;rfl;have hn:(d.2.2.2.2.2.2.length:Int)<=380:=by simp only[Vn,ae,aB]at hd;omega
 have:=bD (20+(d.2.2.2.2.2.2.length:Int));have:=bD d.2.1;have:=bD 16384;have:=bD 0;have:=ez d.2.2.2.2.1;have:=ez d.2.2.2.2.2.1;have hl:=KQ d;have hw:=bD (MU (KP d));have e:∀x y,(aJ [x,y]).length=2:=λ_ _=>rfl;rw[ak (n:=20+(d.2.2.2.2.2.2.length:Int))];simp only[kt,yy,ab,aj,af,ah];rw[aP (by simp only[ai,e];omega),aP (by simp only[ai,e];omega),aP (by simp only[ai,e];omega),aP (by simp only[ai,e];omega),aP (by simp only[ai,e];omega),aP (by simp only[ai,e];omega),aP (by simp only[ai,e];omega)];have hp:((((((aJ [69,fU d.1]++bP (20+(d.2.2.2.2.2.2.length:Int)))++bP d.2.1)++bP 16384)++aJ [fU d.2.2.1,fU d.2.2.2.1])++bP 0)++iP d.2.2.2.2.1)++iP d.2.2.2.2.2.1=KP d:=rfl;rw[hp,Ju _ (by omega),ab,Bc _ _ _];rfl
def QA (d:Ip):Bytes×Bool:=bif Vn d then(KO d++d.2.2.2.2.2.2,true) else([],false)
theorem Ho (d:Ip):(KO d).length<=20:=by unfold KO;rw[wB];exact KQ d
theorem adx (d:Ip):ug d=some (QA d):=by
 unfold ug QA;rw[Wf,ab];cases hd:Vn d;rfl;have hn:(d.2.2.2.2.2.2.length:Int)<=380:=by simp only[Vn,ae,aB]at hd;omega
 have:=Ho d;simp only[ah,aj,af];rw[aP]
theorem acr (d:Ip):tC d=some (QA d):=by
 unfold tC QA;rw[Vb,ab];cases hd:Vn d;rfl;have hn:(d.2.2.2.2.2.2.length:Int)<=380:=by simp only[Vn,ae,aB]at hd;omega
 have:=Ho d;simp only[ah,aj,af];rw[aP]
def xi (n:Nat):Bytes:=aJ (List.replicate n (0:Int))
theorem DL (n:Nat):(xi n).length=n:=by simp[xi,aJ]
theorem LC (n:Nat)(h:n<=10^9:=by omega):il (n:Int) 0=some (xi n):=by unfold il;rw[zip,aP (by rw[az];omega),az];refine eG (λi=>(List.replicate n (0:Int),(i:Int))) n (by omega) (λi nx hi=>?_) (λnx=>?_);simp only[oq];rw[jU,bf (by simpa using hi),ak];simp only[ah,ab,az,List.set_replicate_self];rfl;simp only[oq];rw[cC];rfl
theorem Xg (n:Nat)(h:n<=10^9:=by omega):nr 0 (n:Int)=some (xi n):=by unfold nr;rw[zip,aP (by rw[az];omega),az];refine eG (λi=>(List.replicate n (0:Int),(i:Int))) n (by omega) (λi nx hi=>?_) (λnx=>?_);simp only[tV];rw[ar (by simp;omega),bf (by simpa using hi),ak];simp only[ah,ab,az,List.set_replicate_self];rfl;simp only[tV];rw[aq (by simp)];rfl
def pad (s:Bytes):Bytes:=if s.length<46 then s++xi (46-s.length) else s
theorem PQ (s:Bytes):(pad s).length=max 46 s.length:=by unfold pad;split;simp only[ai,DL];omega;omega
theorem afo (s:Bytes)(h:s.length<=10^9):xy s=some (pad s):=by unfold xy pad;by_cases hc:s.length<46;rw[jU,aE hc,ak,show(46:Int)-(s.length:Int)=((46-s.length:Nat):Int) by omega,LC _];simp only[ah,ab];rw[aP (by rw[DL];omega)];rw[cC,aH hc];rfl
theorem aeO (s:Bytes)(h:s.length<=10^9):xr s=some (pad s):=by unfold xr pad;by_cases hc:s.length<46;rw[cC,aE hc,ak,show(46:Int)-(s.length:Int)=((46-s.length:Nat):Int) by omega,Xg _];simp only[af,ab];rw[aP (by rw[DL];omega)];rw[jU,aH hc];rfl
def qe (e:L4):Bool:=dm e.1 0 281474976710655&&(dm e.2.1 0 281474976710655&&(dm e.2.2.1 (-1) 4095&&(dm e.2.2.2.1 1536 65535&&((e.2.2.2.1 !=33024)&&dm (e.2.2.2.2.length:Int) 46 400))))
theorem HS (e:L4):uZ e=some (qe e):=by simp only[uZ,eu,ab,bL,cF,qe]
theorem Nq (e:L4):yz e=some (qe e):=HS e
def Zm (a:Int):Bytes:=(iy a).getD []
theorem zC (a:Int):iy a=some (Zm a)/\(Zm a).length<=6:=by
 have h:∃x,iy a=some x/\x.length<=6:=by unfold iy;rw[lZ];simp only[nN,pY,ab];have h1:=bD (fdiv a (2^(oC 32)));have h2:=ez (au (toNat (ga a&&&ga 4294967295)));rw[aP];exact⟨_,rfl,by simp only[ai];omega⟩
 obtain⟨x,hx,hl⟩:=h;unfold Zm;rw[hx];exact⟨rfl,hl⟩
theorem aeN (a:Int):vJ a=some (Zm a):=(zC a).1
def M6 (e:L4):Bytes:=(bif decide (e.2.2.1>=0) then(((Zm e.1++Zm e.2.1)++bP 33024)++bP e.2.2.1) else Zm e.1++Zm e.2.1)++bP e.2.2.2.1++e.2.2.2.2
theorem abQ (e:L4):(M6 e).length<=18+e.2.2.2.2.length:=by have:=(zC e.1).2;have:=(zC e.2.1).2;have:=bD 33024;have:=bD e.2.2.1;have:=bD e.2.2.2.1;unfold M6;cases decide (e.2.2.1>=0)<;>simp only[ah,af,ai]<;>omega
def Q4 (e:L4):Bytes×Bool:=bif qe e then(M6 e,true) else([],false)
theorem afn (e:L4):vP e=some (Q4 e):=by
 unfold vP Q4;rw[HS,ab];cases he:qe e;rfl;have hn:(e.2.2.2.2.length:Int)<=400:=by simp only[qe,ae,bg]at he;omega
 have:=(zC e.1).2;have:=(zC e.2.1).2;have:=bD 33024;have:=bD e.2.2.1;have:=bD e.2.2.2.1;simp only[(zC _).1,nN,ab,aj,af,ah,M6];rw[aP];cases decide (e.2.2.1>=0)with|true=>simp only[ah];rw[aP (by simp only[ai];omega),aP (by simp only[ai];omega),aP (by simp only[ai];omega),aP (by simp only[ai];omega)]|false=>simp only[af];rw[aP (by simp only[ai];omega),aP (by simp only[ai];omega)]
theorem aeK (e:L4):vr e=some (Q4 e):=by
 unfold vr Q4;rw[Nq,ab];cases he:qe e;rfl;have hn:(e.2.2.2.2.length:Int)<=400:=by simp only[qe,ae,bg]at he;omega
 have:=(zC e.1).2;have:=(zC e.2.1).2;have:=bD 33024;have:=bD e.2.2.1;have:=bD e.2.2.2.1;simp only[aeN,kt,ab,aj,af,ah,M6];rw[aP];cases decide (e.2.2.1>=0)with|true=>simp only[ah];rw[aP,aP (by simp only[ai];omega),aP (by simp only[ai];omega),aP (by simp only[ai];omega)];simp only[aQ]|false=>simp only[af];rw[aP (by simp only[ai];omega),aP (by simp only[ai];omega)]
def afh (p:aN):Bytes×Bool:=zW p.2.2.2.2.2.2.1 p.2.2.2.2.2.2.2.1 p.2.2.2.2.2.2.2.2
def Ze (p:aN):Bytes×Bool:=QA (p.2.2.2.1,p.2.2.2.2.1,p.2.2.2.2.2.1,p.2.2.2.2.2.2.2.2.1,p.2.2.2.2.2.2.1,p.2.2.2.2.2.2.2.1,(afh p).1)
def aeu (p:aN):Bytes×Bool:=Q4 (p.1,p.2.1,p.2.2.1,2048,pad (Ze p).1)
def dy (p:aN):Bytes×Bool:=bif dw p then aeu p else([],false)
theorem PE (p:aN):(Ze p).1.length<=360:=by have h1:=afi p.2.2.2.2.2.2.1 p.2.2.2.2.2.2.2.1 p.2.2.2.2.2.2.2.2;unfold Ze QA;cases Vn (p.2.2.2.1,p.2.2.2.2.1,p.2.2.2.2.2.1,p.2.2.2.2.2.2.2.2.1,p.2.2.2.2.2.2.1,p.2.2.2.2.2.2.2.1,(afh p).1)with|false=>exact bW _|true=>have h2:=Ho (p.2.2.2.1,p.2.2.2.2.1,p.2.2.2.2.2.1,p.2.2.2.2.2.2.2.2.1,p.2.2.2.2.2.2.1,p.2.2.2.2.2.2.2.1,(afh p).1);have h3:(afh p).1.length<=340:=h1;simp only[ah,ai];omega
theorem aam (p:aN):sq p=some (dy p):=by have hl:=PE p;unfold sq dy;simp only[HV,CU,adx,ab];rw[show(QA (p.2.2.2.1,p.2.2.2.2.1,p.2.2.2.2.2.1,p.2.2.2.2.2.2.2.2.1,p.2.2.2.2.2.2.1,p.2.2.2.2.2.2.2.1,(zW p.2.2.2.2.2.2.1 p.2.2.2.2.2.2.2.1 p.2.2.2.2.2.2.2.2).1))=Ze p from rfl,afo _ (by omega),ab,afn];cases dw p<;>rfl
theorem Du (p:aN):gJ p=some (dy p):=by have hl:=PE p;unfold gJ dy;simp only[oH,CB,acr,ab];rw[show(QA (p.2.2.2.1,p.2.2.2.2.1,p.2.2.2.2.2.1,p.2.2.2.2.2.2.2.2.1,p.2.2.2.2.2.2.1,p.2.2.2.2.2.2.2.1,(zW p.2.2.2.2.2.2.1 p.2.2.2.2.2.2.2.1 p.2.2.2.2.2.2.2.2).1))=Ze p from rfl,aeO _ (by omega),ab,aeK];cases dw p<;>rfl
theorem Dt (h:dw p=true):(dy p).2=true:=by
 have hl:=PE p;have hh:oV p=true:=by simp only[dw,ae]at h;exact h.1
 have hp:=PQ (Ze p).1;unfold dy aeu Q4;rw[h,ah];have:qe (p.1,p.2.1,p.2.2.1,2048,pad (Ze p).1)=true:=by simp only[oV,ae]at hh;simp only[qe,ae];refine⟨hh.1,hh.2.1,hh.2.2.1,by decide,by decide,bg.2 ?_⟩;omega
 rw[this];rfl
theorem xZ (p:aN):(dy p).1.length<=378:=by have hl:=PE p;have hp:=PQ (Ze p).1;unfold dy aeu Q4;cases dw p with|false=>exact bW _|true=>cases qe (p.1,p.2.1,p.2.2.1,2048,pad (Ze p).1)with|false=>exact bW _|true=>have:=abQ (p.1,p.2.1,p.2.2.1,2048,pad (Ze p).1);simp only[ah]at this⊢;omega
def fcs (c:Int):Bytes:=aJ [fU c,fU (fdiv c (2^(oC 8))),fU (fdiv c (2^(oC 16))),fU (fdiv c (2^(oC 24)))]
def zG (s:Bytes):Bytes:=s++fcs (aa3 s)
theorem aew (c:Int):(fcs c).length=4:=rfl
theorem XD (s:Bytes)(h:s.length<=10^9):uu s=some (zG s):=by unfold uu;rw[afk s h,ab,lZ,lZ,lZ];exact aP (by show s.length+4<=_;omega)
theorem Xf (s:Bytes)(h:s.length<=10^9):tR s=some (zG s):=by unfold tR;rw[aeI s h,ab,lZ,lZ,lZ];exact aP (by show s.length+4<=_;omega)
def fV (p:aN):Bool:=dw p&&decide ((p.2.2.2.2.2.2.2.2.2.2.2.2.2.2.2.length:Int)<=128)
theorem LD (p:aN):rN p=some (fV p):=by simp only[rN,HV,ab,bL,cF,fV]
theorem Bb (p:aN):lP p=some (fV p):=by simp only[lP,oH,ab,bL,cF,fV]
def yo (p:aN):Bytes×Bool:=bif fV p then(zG (dy p).1,true) else([],false)
theorem aal (p:aN):so p=some (yo p):=by have hl:=xZ p;simp only[so,LD,aam,XD _ (show(dy p).1.length<=10^9 by omega),ab,yo];cases fV p<;>rfl
theorem YK (p:aN):rV p=some (yo p):=by
 have hl:=xZ p;simp only[rV,Bb,Du,Xf _ (show(dy p).1.length<=10^9 by omega),ab,yo];cases hp:fV p with
 |false=>rfl
 |true=>
  have:dw p=true:=by simp only[fV,ae]at hp;exact hp.1
  rw[Dt this];rfl
theorem Ng (p:aN):(yo p).1.length<=382:=by have hl:=xZ p;unfold yo;cases fV p with|false=>exact bW _|true=>simp only[ah,zG,ai,aew];omega
def VR (p:aN)(z:Int)(k:Nat):aN:=
 (p.1,p.2.1,p.2.2.1,p.2.2.2.1,tmod (au (p.2.2.2.2.1+(k:Int))) 65536,p.2.2.2.2.2.1,p.2.2.2.2.2.2.1,p.2.2.2.2.2.2.2.1,p.2.2.2.2.2.2.2.2.1,p.2.2.2.2.2.2.2.2.2.1,p.2.2.2.2.2.2.2.2.2.2.1,
   tmod (au (p.2.2.2.2.2.2.2.2.2.2.2.1+((k:Int)*z))) 4294967296,p.2.2.2.2.2.2.2.2.2.2.2.2.1,
   (bif decide (((k:Int)+1)*z<(p.2.2.2.2.2.2.2.2.2.2.2.2.2.2.2.length:Int)) then au (toNat (ga p.2.2.2.2.2.2.2.2.2.2.2.2.2.1&&&~~~ ga 9)) else p.2.2.2.2.2.2.2.2.2.2.2.2.2.1),
   p.2.2.2.2.2.2.2.2.2.2.2.2.2.2.1,(p.2.2.2.2.2.2.2.2.2.2.2.2.2.2.2.take (min ((k+1)*z.toNat) p.2.2.2.2.2.2.2.2.2.2.2.2.2.2.2.length)).drop (k*z.toNat))
def sn (n z:Nat):Nat:=(n+z-1)/z
def E0 (p:aN)(z:Int):aw aN:=bif dw p&&dm z 1 128 then
    (bif (p.2.2.2.2.2.2.2.2.1 !=6)||decide ((p.2.2.2.2.2.2.2.2.2.2.2.2.2.2.2.length:Int)<=z) then [p] else(range (sn p.2.2.2.2.2.2.2.2.2.2.2.2.2.2.2.length z.toNat)).map (VR p z)) else []
theorem NY {z k:Nat}(hz:0<z:=by omega):k<sn n z↔k*z<n:=by unfold sn;rw[Nat.lt_div_iff_mul_lt hz];omega
theorem BA (h:dw p=true):p.2.2.2.2.2.2.2.2.2.2.2.2.2.2.2.length<=320:=by
 have hh:oV p=true:=by simp only[dw,ae]at h;exact h.1
 exact CP (yu hh)
theorem aat {k z:Nat}(hk:k*z<b.length)(hb:b.length<=320):sub b ((k*z:Nat):Int) ((min ((k+1)*z) b.length:Nat):Int)=some ((b.take (min ((k+1)*z) b.length)).drop (k*z)):=by have:k*z<=(k+1)*z:=cu _ (by omega);unfold sub;rw[zip,az,az]
theorem YV (p:aN)(z:Int):Be p z=some (E0 p z):=by
 unfold Be E0;simp only[oH,di,ab];cases hs:dw p;rfl;cases hz:dm z 1 128;rfl;have hz':=bg.1 hz;have hb:=BA hs;simp only[aj,af,eY,ah,ab,bL,cT];cases hq:(p.2.2.2.2.2.2.2.2.1 !=6)||decide ((p.2.2.2.2.2.2.2.2.2.2.2.2.2.2.2.length:Int)<=z)with
 |true=>rfl
 |false=>
  simp only[af];obtain⟨m,rfl⟩:=aV (show 0<=z by omega);have hN:∀k,k<sn p.2.2.2.2.2.2.2.2.2.2.2.2.2.2.2.length m↔k*m<p.2.2.2.2.2.2.2.2.2.2.2.2.2.2.2.length:=λk=>NY;have FG:sn p.2.2.2.2.2.2.2.2.2.2.2.2.2.2.2.length m<=320:=by rcases cc 320 (sn p.2.2.2.2.2.2.2.2.2.2.2.2.2.2.2.length m)with h|h;have:=(hN 320).1 h;have:320*1<=320*m:=Nat.mul_le_mul_left _ (by omega);omega;exact h
  refine eG (λk=>((range k).map (VR p (m:Int)),(k:Int))) (sn p.2.2.2.2.2.2.2.2.2.2.2.2.2.2.2.length m) (by omega) (λk nx hk=>?_) (λnx=>?_);have hkm:=(hN k).1 hk;have hk1:(k+1)*m=k*m+m:=by rw[cy,fb]
  have e1:(k:Int)*(m:Int)=((k*m:Nat):Int):=by push_cast;rfl
  have e2:((k:Int)+1)*(m:Int)=(((k+1)*m:Nat):Int):=by push_cast;rfl
  have oP:=aat hkm hb;simp only[vG];rw[ak (n:=(k:Int)+1),e1,e2,gV (n:=k*m),gV (n:=(k+1)*m),jU,ah];rw[List.range_succ,List.map_append,List.map_singleton];simp only[VR,e1,e2,az];by_cases hc:(((k+1)*m:Nat):Int)<(p.2.2.2.2.2.2.2.2.2.2.2.2.2.2.2.length:Int);rw[ar hc];rw[show min ((k+1)*m) p.2.2.2.2.2.2.2.2.2.2.2.2.2.2.2.length=(k+1)*m by omega]at oP⊢;simp only[ah];rw[oP,ab,lZ,lZ,aP (by simp;omega)];rfl;rw[aq hc];rw[show min ((k+1)*m) p.2.2.2.2.2.2.2.2.2.2.2.2.2.2.2.length=p.2.2.2.2.2.2.2.2.2.2.2.2.2.2.2.length by omega]at oP⊢;simp only[af];rw[oP,ab,lZ,lZ,aP (by simp;omega)];rfl;have hkm:¬sn p.2.2.2.2.2.2.2.2.2.2.2.2.2.2.2.length m*m<p.2.2.2.2.2.2.2.2.2.2.2.2.2.2.2.length:=λh=>absurd ((hN _).2 h) (Nat.lt_irrefl _);have hub:sn p.2.2.2.2.2.2.2.2.2.2.2.2.2.2.2.length m*m<=320*128:=Nat.mul_le_mul FG (by omega);have e1:((sn p.2.2.2.2.2.2.2.2.2.2.2.2.2.2.2.length m:Nat):Int)*(m:Int)=((sn p.2.2.2.2.2.2.2.2.2.2.2.2.2.2.2.length m*m:Nat):Int):=by push_cast;rfl
  simp only[vG];rw[e1,gV,cC];rfl
theorem LJ (p:aN)(z:Int):(E0 p z).length<=320:=by unfold E0;cases hs:dw p&&dm z 1 128;exact bW _;simp only[ae,bg]at hs;have hb:=BA hs.1;cases (p.2.2.2.2.2.2.2.2.1 !=6)||decide ((p.2.2.2.2.2.2.2.2.2.2.2.2.2.2.2.length:Int)<=z)with|true=>simp only[ah,bA];omega|false=>simp only[ah,af,da,List.length_range];rcases cc 320 (sn p.2.2.2.2.2.2.2.2.2.2.2.2.2.2.2.length z.toNat)with h|h;have:=(NY).1 h;have:320*1<=320*z.toNat:=Nat.mul_le_mul_left _ (by omega);omega;exact h
def Ol (acc:bM)(p:aN):bM:=bif (yo p).2 then acc++[(yo p).1] else acc
theorem QD (acc:bM)(p:aN):(Ol acc p).length<=acc.length+1:=by unfold Ol;cases (yo p).2<;>simp
def Jq (l:aw aN):bM:=l.foldl Ol []
theorem Ic:∀(l:aw aN)(acc:bM),(l.foldl Ol acc).length<=acc.length+l.length
 |[],acc=>by simp
 |p::l,acc=>by have:=Ic l (Ol acc p);have:=QD acc p;simp only[cZ,bc];omega
theorem DV:∀(l:aw aN)(acc:bM),(∀x∈acc,x.length<=382)->∀x∈l.foldl Ol acc,x.length<=382
 |[],acc,h=>h
 |p::l,acc,h=>by rw[cZ];refine DV l _ (λx hx=>?_);unfold Ol at hx;cases hf:(yo p).2 with|false=>rw[hf]at hx;exact h x hx|true=>rw[hf]at hx;simp only[ah,ay,cf]at hx;rcases hx with hx|hx;exact h x hx;rw[hx];exact Ng p
theorem U8 (l:aw aN)(h:l.length<=10^9):vy l=some (Jq l):=by
 unfold vy Jq;have:=Gs (T:=mM (λ(y3:bM) (_:Int)=>some y3) l (l.length:Int)) l (λ(s:bM) i=>(s,(i:Int))) (λi s=>s.length<=i) (λp s=> .ok (Ol s p)) (λs=>some s) (by omega) (λi hi s nx hI=>?hs) (λi hi s s' hI hg=>?hn) (λs nx hI=>?hf) [] (by simp)
 case hs=>
  simp only[mM]
  rw[jU,bf hi,ak (n:=(i:Int)+1)]
  simp only[ah,ab,YK,Ol]
  rw[aP (by simp;omega)]
  cases (yo l[i]).2<;>rfl
 case hn=>cases hg;have:=QD s l[i];omega
 case hf=>
  simp only[mM]
  rw[cC];rfl
 rw[Jx]at this;exact this
def S5 (p:aN)(z:Int):bM:=Jq (E0 p z)
theorem acC (p:aN)(z:Int):sc p z=some (S5 p z):=by have:=LJ p z;simp only[sc,YV,U8 _ (show(E0 p z).length<=10^9 by omega),ab];rfl
theorem aaf (p:aN)(z:Int):(S5 p z).length<=320/\∀x∈S5 p z,x.length<=382:=by have:=LJ p z;have:=Ic (E0 p z) [];exact⟨by unfold S5 Jq;simp only[ef]at this;omega,DV _ [] (by simp)⟩
theorem Cp {a:Int}(h0:0<=a:=by omega)(h:a+2<=(s.length:Int):=by omega):0<=ch s a/\ch s a<=65535:=by have h1:=eE s a.toNat;have h2:=eE s (a.toNat+1);unfold ch eV;rw[ar ⟨h0,h⟩];simp only[ah];omega
theorem Ag {a:Int}(h0:0<=a:=by omega)(h:a+4<=(s.length:Int):=by omega):0<=fF s a/\fF s a<=4294967295:=by have h1:=eE s a.toNat;have h2:=eE s (a.toNat+1);have h3:=eE s (a.toNat+2);have h4:=eE s (a.toNat+3);unfold fF eV;rw[ar ⟨h0,h⟩];simp only[ah];omega
theorem acO {x y:Int}(hx:0<=x/\x<=65535)(hy:0<=y/\y<=4294967295):au (toNat (ga (au (x*2^(oC 32)))|||ga y))=x*4294967296+y:=by have e:(2:Int)^(oC 32)=4294967296:=rfl;obtain⟨x,rfl⟩:=aV hx.1;obtain⟨y,rfl⟩:=aV hy.1;rw[e,ak (n:=(x:Int)*4294967296),show(x:Int)*4294967296=((2^32*x:Nat):Int) by omega,ET x 32 y];omega
theorem Xm {x y:Int}(hx:0<=x/\x<=65535)(hy:0<=y/\y<=4294967295):au (au (x*2^(oC 32))+y)=x*4294967296+y:=by have e:(2:Int)^(oC 32)=4294967296:=rfl;rw[e,ak (n:=x*4294967296),ak]
theorem xO {l:aw α}{n:Int}(h0:0<=n:=by omega)(h1:n<=(l.length:Int):=by omega):sub l 0 n=some (l.take n.toNat):=by unfold sub;rw[zip];simp
theorem uE {l:aw α}(k:Nat)(h:k<=l.length){a:Int}(ha:a=(k:Int)):sub l a (l.length:Int)=some (l.drop k):=by unfold sub;rw[zip];subst ha;simp
theorem Qm {l:aw α}(k:Nat){a n:Int}(ha:a=(k:Int))(h0:a<=n:=by omega)(h1:n<=(l.length:Int):=by omega):sub l a n=some ((l.take n.toNat).drop k):=by unfold sub;rw[zip];subst ha;simp
def AL (s:Bytes):Bytes×Bool:=bif decide ((s.length:Int)<4) then([],false) else bif zG (s.take ((s.length:Int)-4).toNat)==s then(s.take ((s.length:Int)-4).toNat,true) else([],false)
theorem Wd (s:Bytes)(h:s.length<=10^9):vQ s=some (AL s):=by unfold vQ AL;rw[ak (n:=(s.length:Int)-4)];by_cases h4:(s.length:Int)<4;rw[ar h4];rfl;rw[aq h4,xO];simp only[af,ab,XD _ (show(s.take ((s.length:Int)-4).toNat).length<=10^9 by rw[aY];omega)];cases zG (s.take ((s.length:Int)-4).toNat)==s<;>rfl
theorem U5 (s:Bytes)(h:s.length<=10^9):vt s=some (AL s):=by unfold vt AL;rw[ak (n:=(s.length:Int)-4)];by_cases h4:(s.length:Int)<4;rw[ar (show(s.length:Int)-4<0 by omega),ar h4];rfl;rw[aq (show¬(s.length:Int)-4<0 by omega),aq h4,xO];simp only[af,ab,Xf _ (show(s.take ((s.length:Int)-4).toNat).length<=10^9 by rw[aY];omega)];cases zG (s.take ((s.length:Int)-4).toNat)==s<;>rfl
def abP:L4:=(0,0,0,0,([]:Bytes))
def D8 (s:Bytes)(a:Int):Int:=ch s a*4294967296+fF s (a+2)
def EA (s:Bytes):L4:=(D8 s 0,D8 s 6,ch s 14,ch s 16,s.drop 18)
def wg (s:Bytes):L4:=(D8 s 0,D8 s 6, -1,ch s 12,s.drop 14)
def fJ (s:Bytes):L4×Bool:=bif decide ((s.length:Int)<18) then(abP,false) else
 bif ch s 12==33024 then(bif qe (EA s) then(EA s,true) else(abP,false)) else bif qe (wg s) then(wg s,true) else(abP,false)
theorem Qa (s:Bytes)(h:s.length<=10^9):vU s=some (fJ s):=by unfold vU fJ;by_cases h8:(s.length:Int)<18;rw[ar h8];rfl;rw[aq h8];simp only[af,AF s _ h,HU s _ h,ab];rw[lZ,lZ,uE (l:=s) 14 (by omega) (show(14:Int)=((14:Nat):Int) from rfl),ab,uE (l:=s) 18 (by omega) (show(18:Int)=((18:Nat):Int) from rfl)];rw[Xm (Cp (s:=s) (a:=0)) (Ag (s:=s) (a:=2)),Xm (Cp (s:=s) (a:=6)) (Ag (s:=s) (a:=8))];simp only[ab,HS];rw[show((ch s 0*4294967296+fF s 2,ch s 6*4294967296+fF s 8,ch s 14,ch s 16,s.drop 18):L4)=EA s from rfl,show((ch s 0*4294967296+fF s 2,ch s 6*4294967296+fF s 8, -1,ch s 12,s.drop 14):L4)=wg s from rfl];cases ch s 12==33024<;>cases qe (EA s)<;>cases qe (wg s)<;>rfl
theorem FW (s:Bytes)(h:s.length<=10^9):rq s=some (fJ s):=by
 unfold rq fJ;by_cases h4:(s.length:Int)<14;rw[ar h4,ar (show(s.length:Int)<18 by omega)];rfl;rw[aq h4];simp only[af,uP s _ h,ya s _ h,ab];rw[lZ,lZ,uE (l:=s) 14 (by omega) (show(14:Int)=((14:Nat):Int) from rfl),ab];rw[acO (Cp (s:=s) (a:=0)) (Ag (s:=s) (a:=2)),acO (Cp (s:=s) (a:=6)) (Ag (s:=s) (a:=8))];simp only[ab,Nq];rw[show((ch s 0*4294967296+fF s 2,ch s 6*4294967296+fF s 8, -1,ch s 12,s.drop 14):L4)=wg s from rfl];by_cases h8:(s.length:Int)<18;have hB:qe (wg s)=false:=by
  unfold qe wg;have:dm ((s.drop 14).length:Int) 46 400=false:=by rw[Bool.eq_false_iff,ne_eq,bg,aM];omega
  simp only[this,fE]
 rw[ar h8,aq (show¬(s.length:Int)>=18 by omega),hB];cases ch s 12==33024<;>rfl;rw[aq h8,ar (show(s.length:Int)>=18 by omega),uE (l:=s) 18 (by omega) (show(18:Int)=((18:Nat):Int) from rfl)];simp only[ab];rw[show((ch s 0*4294967296+fF s 2,ch s 6*4294967296+fF s 8,ch s 14,ch s 16,s.drop 18):L4)=EA s from rfl];cases ch s 12==33024<;>cases qe (EA s)<;>cases qe (wg s)<;>rfl
def ip0:Ip:=(0,0,0,0,0,0,([]:Bytes))
def Bi (s:Bytes):Ip:=((bG s 1:Int),ch s 4,(bG s 8:Int),(bG s 9:Int),fF s 12,fF s 16,(s.take (ch s 2).toNat).drop 20)
def kK (s:Bytes):Ip×Bool:=bif decide ((s.length:Int)<20)||(decide (ch s 2<20)||decide (ch s 2>(s.length:Int))) then(ip0,false) else
 bif (QA (Bi s)).2&&((QA (Bi s)).1==s.take (ch s 2).toNat) then(Bi s,true) else(ip0,false)
theorem Tg (s:Bytes)(h:s.length<=10^9):xz s=some (kK s):=by
 unfold xz kK;simp only[AF s _ h,HU s _ h,ab];by_cases h1:(s.length:Int)<20;rw[ar h1];rfl;by_cases h2:ch s 2<20;rw[aq h1,ar h2];rfl;by_cases h3:ch s 2>(s.length:Int);rw[aq h1,aq h2,ar h3];rfl;rw[aq h1,aq h2,aq h3];have b1:=mf (s[1]'(by omega));have b8:=mf (s[8]'(by omega));have b9:=mf (s[9]'(by omega));have i1:idx s 1=some (s[1]'(by omega)):=bf (i:=1) (by omega);have i8:idx s 8=some (s[8]'(by omega)):=bf (i:=8) (by omega);have i9:idx s 9=some (s[9]'(by omega)):=bf (i:=9) (by omega);simp only[af,ab,bZ,i1,i8,i9];rw[Qm (l:=s) 20 (show(20:Int)=((20:Nat):Int) from rfl),xO,gV (n:=(s[1]'(by omega)).toNat),gV (n:=(s[8]'(by omega)).toNat),gV (n:=(s[9]'(by omega)).toNat)];have e:(((s[1]'(by omega)).toNat:Int),ch s 4,((s[8]'(by omega)).toNat:Int),((s[9]'(by omega)).toNat:Int),fF s 12,fF s 16,(s.take (ch s 2).toNat).drop 20)=Bi s:=by simp only[Bi,bG,cL (show 1<s.length by omega),cL (show 8<s.length by omega),cL (show 9<s.length by omega)]
 simp only[ab,e,adx];cases (QA (Bi s)).2<;>cases (QA (Bi s)).1==s.take (ch s 2).toNat<;>rfl
theorem RV (s:Bytes)(h:s.length<=10^9):xt s=some (kK s):=by
 unfold xt kK;simp only[uP s _ h,ya s _ h,ab];by_cases h1:(s.length:Int)<20;rw[ar h1];rfl;by_cases h2:ch s 2<20;rw[aq h1,ar h2];rfl;by_cases h3:ch s 2>(s.length:Int);rw[aq h1,aq h2,ar h3];rfl;rw[aq h1,aq h2,aq h3];have b1:=mf (s[1]'(by omega));have b8:=mf (s[8]'(by omega));have b9:=mf (s[9]'(by omega));have i1:idx s 1=some (s[1]'(by omega)):=bf (i:=1) (by omega);have i8:idx s 8=some (s[8]'(by omega)):=bf (i:=8) (by omega);have i9:idx s 9=some (s[9]'(by omega)):=bf (i:=9) (by omega);simp only[af,ab,bZ,i1,i8,i9];rw[Qm (l:=s) 20 (show(20:Int)=((20:Nat):Int) from rfl),xO,gV (n:=(s[1]'(by omega)).toNat),gV (n:=(s[8]'(by omega)).toNat),gV (n:=(s[9]'(by omega)).toNat)];have e:(((s[1]'(by omega)).toNat:Int),ch s 4,((s[8]'(by omega)).toNat:Int),((s[9]'(by omega)).toNat:Int),fF s 12,fF s 16,(s.take (ch s 2).toNat).drop 20)=Bi s:=by simp only[Bi,bG,cL (show 1<s.length by omega),cL (show 8<s.length by omega),cL (show 9<s.length by omega)]
 simp only[ab,e,acr];cases (QA (Bi s)).2<;>cases (QA (Bi s)).1==s.take (ch s 2).toNat<;>rfl
def ah3:eh:=(0,0,0,0,0,0,0,([]:Bytes))
def Lx (k:Int)(s:Bytes):eh:=(k,ch s 0,ch s 2,fF s 4,fF s 8,(bG s 13:Int),ch s 14,s.drop 20)
def P4 (k:Int)(s:Bytes):eh:=(k,ch s 0,ch s 2,0,0,0,0,s.drop 8)
def pV (a b k:Int)(s:Bytes):eh×Bool:=
 bif (k==6)&&decide ((s.length:Int)>=20) then(bif (zW a b (Lx k s)).2&&((zW a b (Lx k s)).1==s) then(Lx k s,true) else(ah3,false)) else
 bif (k==17)&&decide ((s.length:Int)>=8) then(bif (zW a b (P4 k s)).2&&((zW a b (P4 k s)).1==s) then(P4 k s,true) else(ah3,false)) else(ah3,false)
theorem Qb (a b k:Int)(s:Bytes)(h:s.length<=10^9):pA a b k s=some (pV a b k s):=by
 unfold pA pV;simp only[AF s _ h,HU s _ h,ab];rw[show(aa (cond (k==6) (some (decide ((s.length:Int)>=20))) (some false)):(Bool->ax (eh×Bool))->ax (eh×Bool))=λK=>K ((k==6)&&decide ((s.length:Int)>=20)) from by funext K;cases k==6<;>rfl];rw[show(aa (cond (k==17) (some (decide ((s.length:Int)>=8))) (some false)):(Bool->ax (eh×Bool))->ax (eh×Bool))=λK=>K ((k==17)&&decide ((s.length:Int)>=8)) from by funext K;cases k==17<;>rfl];simp only;cases h1:(k==6)&&decide ((s.length:Int)>=20)with
 |true=>
  simp only[ae,aB]at h1;have bb:=mf (s[13]'(by omega));have i:idx s 13=some (s[13]'(by omega)):=bf (i:=13) (by omega);have e:(k,ch s 0,ch s 2,fF s 4,fF s 8,((s[13]'(by omega)).toNat:Int),ch s 14,s.drop 20)=Lx k s:=by simp only[Lx,bG,cL (show 13<s.length by omega)]
  simp only[ah,i,ab];rw[uE (l:=s) 20 (by omega) (show(20:Int)=((20:Nat):Int) from rfl),gV (n:=(s[13]'(by omega)).toNat)];simp only[ab,e,CU];cases (zW a b (Lx k s)).2<;>cases (zW a b (Lx k s)).1==s<;>rfl
 |false=>simp only[af];cases h2:(k==17)&&decide ((s.length:Int)>=8)with|false=>rfl|true=>simp only[ae,aB]at h2;rw[uE (l:=s) 8 (by omega) (show(8:Int)=((8:Nat):Int) from rfl)];simp only[ah,ab,show((k,ch s 0,ch s 2,0,0,0,0,s.drop 8):eh)=P4 k s from rfl,CU];cases (zW a b (P4 k s)).2<;>cases (zW a b (P4 k s)).1==s<;>rfl
theorem Px (a b k:Int)(s:Bytes)(h:s.length<=10^9):pe a b k s=some (pV a b k s):=by
 unfold pe pV;simp only[uP s _ h,ya s _ h,ab];rw[show(aa (cond (k==6) (some (decide ((s.length:Int)>=20))) (some false)):(Bool->ax (eh×Bool))->ax (eh×Bool))=λK=>K ((k==6)&&decide ((s.length:Int)>=20)) from by funext K;cases k==6<;>rfl];rw[show(aa (cond (k==17) (some (decide ((s.length:Int)>=8))) (some false)):(Bool->ax (eh×Bool))->ax (eh×Bool))=λK=>K ((k==17)&&decide ((s.length:Int)>=8)) from by funext K;cases k==17<;>rfl];simp only;cases h1:(k==6)&&decide ((s.length:Int)>=20)with
 |true=>
  simp only[ae,aB]at h1;have bb:=mf (s[13]'(by omega));have i:idx s 13=some (s[13]'(by omega)):=bf (i:=13) (by omega);have e:(k,ch s 0,ch s 2,fF s 4,fF s 8,((s[13]'(by omega)).toNat:Int),ch s 14,s.drop 20)=Lx k s:=by simp only[Lx,bG,cL (show 13<s.length by omega)]
  simp only[ah,i,ab];rw[uE (l:=s) 20 (by omega) (show(20:Int)=((20:Nat):Int) from rfl),gV (n:=(s[13]'(by omega)).toNat)];simp only[ab,e,CB];cases (zW a b (Lx k s)).2<;>cases (zW a b (Lx k s)).1==s<;>rfl
 |false=>simp only[af];cases h2:(k==17)&&decide ((s.length:Int)>=8)with|false=>rfl|true=>simp only[ae,aB]at h2;rw[uE (l:=s) 8 (by omega) (show(8:Int)=((8:Nat):Int) from rfl)];simp only[ah,ab,show((k,ch s 0,ch s 2,0,0,0,0,s.drop 8):eh)=P4 k s from rfl,CB];cases (zW a b (P4 k s)).2<;>cases (zW a b (P4 k s)).1==s<;>rfl
def pk0:aN:=(0,0,0,0,0,0,0,0,0,0,0,0,0,0,0,([]:Bytes))
def jG (s:Bytes):aN×Int:=
 let e:=fJ s
 bif !e.2||(e.1.2.2.2.1 !=2048) then(pk0,2) else
 let i:=kK e.1.2.2.2.2
 bif !i.2 then(pk0,3) else
 let g:=pV i.1.2.2.2.2.1 i.1.2.2.2.2.2.1 i.1.2.2.2.1 i.1.2.2.2.2.2.2
 bif !g.2 then(pk0,4) else
 bif !dw (e.1.1,e.1.2.1,e.1.2.2.1,i.1.1,i.1.2.1,i.1.2.2.1,i.1.2.2.2.2.1,i.1.2.2.2.2.2.1,g.1) then(pk0,5) else
 ((e.1.1,e.1.2.1,e.1.2.2.1,i.1.1,i.1.2.1,i.1.2.2.1,i.1.2.2.2.2.1,i.1.2.2.2.2.2.1,g.1),0)
theorem Bn (s:Bytes):(fJ s).1.2.2.2.2.length<=s.length:=by
 unfold fJ;cases decide ((s.length:Int)<18);case true=>simp[abP]
 cases ch s 12==33024<;>cases qe (EA s)<;>cases qe (wg s)<;>simp[abP,EA,wg]
theorem Iz (s:Bytes):(kK s).1.2.2.2.2.2.2.length<=s.length:=by
 unfold kK;cases decide ((s.length:Int)<20)||(decide (ch s 2<20)||decide (ch s 2>(s.length:Int)));case true=>simp[ip0]
 cases (QA (Bi s)).2&&((QA (Bi s)).1==s.take (ch s 2).toNat)with|false=>simp[ip0]|true=>simp[Bi];omega
theorem aap (s:Bytes)(h:s.length<=10^9):uq s=some (jG s):=by
 have h1:=Bn s;unfold uq jG;rw[Qa s h,ab];generalize fJ s=e at h1⊢;have h2:=Iz e.1.2.2.2.2;simp only;cases e.2;rfl;cases e.1.2.2.2.1 !=2048;case true=>rfl
 simp only[aj,af,ab,bZ,Tg _ (show e.1.2.2.2.2.length<=10^9 by omega)];generalize kK e.1.2.2.2.2=i at h2⊢;cases i.2;rfl;simp only[aj,af,ab,Qb _ _ _ _ (show i.1.2.2.2.2.2.2.length<=10^9 by omega)];generalize pV i.1.2.2.2.2.1 i.1.2.2.2.2.2.1 i.1.2.2.2.1 i.1.2.2.2.2.2.2=g;cases g.2;rfl;simp only[aj,af,ab,HV];cases dw (e.1.1,e.1.2.1,e.1.2.2.1,i.1.1,i.1.2.1,i.1.2.2.1,i.1.2.2.2.2.1,i.1.2.2.2.2.2.1,g.1)<;>rfl
theorem Dv (s:Bytes)(h:s.length<=10^9):ig s=some (jG s):=by
 have h1:=Bn s;unfold ig jG;rw[FW s h,ab];generalize fJ s=e at h1⊢;have h2:=Iz e.1.2.2.2.2;simp only;cases e.2;rfl;cases e.1.2.2.2.1 !=2048;case true=>rfl
 simp only[aj,af,ab,bZ,RV _ (show e.1.2.2.2.2.length<=10^9 by omega)];generalize kK e.1.2.2.2.2=i at h2⊢;cases i.2;rfl;simp only[aj,af,ab,Px _ _ _ _ (show i.1.2.2.2.2.2.2.length<=10^9 by omega)];generalize pV i.1.2.2.2.2.1 i.1.2.2.2.2.2.1 i.1.2.2.2.1 i.1.2.2.2.2.2.2=g;cases g.2;rfl;simp only[aj,af,ab,oH];cases dw (e.1.1,e.1.2.1,e.1.2.2.1,i.1.1,i.1.2.1,i.1.2.2.1,i.1.2.2.2.2.1,i.1.2.2.2.2.2.1,g.1)<;>rfl
def rG (s:Bytes):aN×Int:=
 let c:=AL s
 bif !c.2 then(pk0,1) else
 let r:=jG c.1
 bif r.2 !=0 then(pk0,r.2) else
 bif !fV r.1 then(pk0,5) else(r.1,0)
theorem JU (s:Bytes):(AL s).1.length<=s.length:=by
 unfold AL;cases decide ((s.length:Int)<4);case true=>simp
 cases zG (s.take ((s.length:Int)-4).toNat)==s with|false=>simp|true=>simp;omega
theorem aao (s:Bytes)(h:s.length<=10^9):uo s=some (rG s):=by
 have h1:=JU s;unfold uo rG;rw[Wd s h,ab];generalize AL s=c at h1⊢;simp only;cases c.2;rfl;simp only[aj,af,ab,aap _ (show c.1.length<=10^9 by omega)];generalize jG c.1=r;cases r.2 !=0;case true=>rfl
 simp only[af,ab,LD];cases fV r.1<;>rfl
theorem YO (s:Bytes)(h:s.length<=10^9):tM s=some (rG s):=by
 have h1:=JU s;unfold tM rG;rw[U5 s h,ab];generalize AL s=c at h1⊢;simp only;cases c.2;rfl;simp only[aj,af,ab,Dv _ (show c.1.length<=10^9 by omega)];generalize jG c.1=r;cases r.2 !=0;case true=>rfl
 simp only[af,ab,Bb];cases fV r.1<;>rfl
theorem Ja (l:bM)(h:l.length<=10^9):kh l=some l:=by simp only[kh,mX h,cA]
theorem KC (f:Filter)(h:f.2.2.length<=10^9):si f=some f:=by simp only[si,lj _ h,ab]
theorem LB (f:Filter)(h:f.2.2.length<=10^9):xL f=some f:=by simp only[xL,mX h,cA]
theorem wP (l:aw Stream)(h:l.length<=10^9:=by omega):kg l=some l:=by simp only[kg,mX h,cA]
theorem Mr (t:aw Slot)(h:t.length<=10^9):tT t=some t:=by simp only[tT,mX h,cA]
theorem KD (s:lO)(h:s.2.length<=10^9):sj s=some s:=by simp only[sj,lj _ h,ab]
theorem Mq (s:cS)(h1:s.1.length<=10^9)(h2:s.2.1.length<=10^9)(h3:s.2.2.2.length<=10^9):pk s=some s:=by simp only[pk,mX h1,Mr _ h2,KD _ h3,ab,cA]
theorem Eg (t:aw Slot)(h:t.length<=10^9):ux t=some t:=by simp only[ux,mX h,cA]
theorem MF (s:cS)(h1:s.1.length<=10^9)(h2:s.2.1.length<=10^9)(h3:s.2.2.2.length<=10^9):xI s=some s:=by simp only[xI,mX h1,Eg _ h2,mX h3,ab,cA]
theorem aai (l:aw kO)(i:Nat)(hi:i<l.length):l.take i++[(l[i].1,l[i].2.1,l[i].2.2)]=l.take (i+1):=(bQ hi).symm
theorem FQ (l:aw kO)(h:l.length<=10^9)(hx:∀x∈l,x.2.2.length<=10^9):rz l=some l:=by unfold rz;refine(eG (λi=>(l.take i,(i:Int))) l.length (by omega) (λi nx hi=>?_) (λnx=>?_));simp only[qA];rw[jU,bf hi,ak];simp only[ah,ab,lj _ (hx _ (bk hi))];rw[aP (by simp;omega),aai l i hi];rfl;simp only[qA];rw[cC,eR];rfl
structure aeg (t:dD):Prop where
 p:t.2.1.2.2.2.length<=10^9
 w:t.2.2.1.length<=10^9
 x:∀x∈t.2.2.1,x.2.2.length<=10^9
theorem EK (t:dD)(z:aeg t):pQ t=some t:=by simp only[pQ,sQ _ z.p,FQ _ z.w z.x,ab]
theorem ajA (z:cX 1000000000 dC h):aeg h.2.2.1:=⟨z.2.2.1.2.1.2.2.2.1,z.2.2.1.2.2.1.1,λx hx=>(z.2.2.1.2.2.1.2 x hx).2.2.1⟩
theorem lp (h:Host)(z:cX 1000000000 dC h):gF h=some h:=by have hp:h.2.2.2.2.1.length<=10^9:=z.2.2.2.2.1.1;have hm:h.1.length<=10^9:=z.1.1;unfold gF;simp only[eS _ (show h.1.length<=1073741824 by omega),tS,mX z.2.1.1,EK _ (ajA z),mX z.2.2.2.1.1,ab,cA];refine(eG (λi=>((i:Int),h.1,h.2.1,h.2.2.1,h.2.2.2.1,h.2.2.2.2.1.take i,h.2.2.2.2.2)) h.2.2.2.2.1.length (by omega) (λi nx hi=>?_) (λnx=>?_));simp only[qz];rw[jU,bf hi,ak];simp only[ah,ab,sQ _ (z.2.2.2.2.1.2 _ (bk hi)).2.2.2.1];rw[aP (by simp;omega),<-bQ hi];rfl;simp only[qz];rw[cC,eR];simp only[af,mX z.2.2.2.2.2.1.1,mX z.2.2.2.2.2.2.1.1,KC _ z.2.2.2.2.2.2.2.1.2.2.1,Mq _ z.2.2.2.2.2.2.2.2.1.1.1 z.2.2.2.2.2.2.2.2.1.2.1.1 z.2.2.2.2.2.2.2.2.1.2.2.2.1,wP _ z.2.2.2.2.2.2.2.2.2.1.1,Ja _ z.2.2.2.2.2.2.2.2.2.2.2.1.1,lj _ z.2.2.2.2.2.2.2.2.2.2.2.2.1.1,lj _ z.2.2.2.2.2.2.2.2.2.2.2.2.2.1.1,ab,cA]
theorem WN:∀l:aw kO,(bu l).length<=TM (.sl hG) l
 |[]=>by simp[bu]
 |x::l=>by have:=WN l;simp only[bu,TM,List.flatMap_cons,ai,cV,List.sum_cons,bc]at this⊢;omega
def O3 (v:Move)(h:Host):Host×Bool:=(((v.2.1.foldl (iM h.1) (v.1,([]:cw),v.2.2)).1,h.2),xW (v.2.1.foldl (iM h.1) (v.1,([]:cw),v.2.2)).1 h.1)
def atF (f:Ep)(s:Stream):Bool:=decide (s.1=f)
def Tm (l:aw Stream)(f:Ep):Int:=match l.findIdx? (atF f)with|some i=>(i:Int)|none=> -1
theorem adA (l:aw Stream)(f:Ep)(h:l.length<=10^9):qI l f=some (Tm l f):=by
 unfold qI Tm;rw[Di (p:=atF f) (hit:=λi=>some i) (fin:=some (-1)) l (by omega) (λi hi nx=>?hs) (λnx=>?hf)]
 case hs=>
  simp only[mD]
  rw[jU,bf hi,ak]
  simp only[ah,ab,FA,atF];rfl
 case hf=>
  simp only[mD]
  rw[cC];rfl
 cases l.findIdx? (atF f)<;>rfl
theorem acD (l:aw Stream)(f:Ep)(h:l.length<=10^9):qs l f=some (Tm l f):=by
 unfold qs Tm;rw[Di (p:=atF f) (hit:=λi=>some i) (fin:=some (-1)) l (by omega) (λi hi nx=>?hs) (λnx=>?hf)]
 case hs=>
  simp only[mq]
  rw[jU,bf hi,ak]
  simp only[ah,ab,FA,atF];rfl
 case hf=>
  simp only[mq]
  rw[cC];rfl
 cases l.findIdx? (atF f)<;>rfl
def Wr:Stream:=((0,0,0,0,0),0,([]:Bytes),false)
def body (p:aN):Bytes:=p.2.2.2.2.2.2.2.2.2.2.2.2.2.2.2
def udp (p:aN):Bytes:=bP ((body p).length:Int)++body p
def DN (p:aN)(b:Int):Bool:=au (toNat (ga p.2.2.2.2.2.2.2.2.2.2.2.2.2.1&&&ga b)) !=0
def wI (s:Stream)(p:aN):Int:=(s.2.1-p.2.2.2.2.2.2.2.2.2.2.2.1)%4294967296
def ah7 (s:Stream)(p:aN):Stream:=(s.1,(s.2.1+((body p).length:Int)-wI s p)%4294967296,s.2.2.1++(body p).drop (wI s p).toNat,DN p 1)
def Cd (l:aw Stream)(p:aN):aw Stream:=
 bif !dw p then l else
 match l.findIdx? (atF (kS p))with
 |none=>
  bif p.2.2.2.2.2.2.2.2.1==17 then l++[(kS p,0,udp p,false)] else
  bif DN p 2 then l++[(kS p,tmod (au (p.2.2.2.2.2.2.2.2.2.2.2.1+1)) 4294967296,([]:Bytes),false)] else l
 |some i=>
  bif p.2.2.2.2.2.2.2.2.1==17 then l.set i ((l.getD i Wr).1,(l.getD i Wr).2.1,(l.getD i Wr).2.2.1++udp p,(l.getD i Wr).2.2.2) else
  bif DN p 2 then l else
  bif (l.getD i Wr).2.2.2||DN p 4 then l else
  bif decide (wI (l.getD i Wr) p<=((body p).length:Int)) then l.set i (ah7 (l.getD i Wr) p) else l
theorem aaT (s:Stream)(p:aN):0<=wI s p/\wI s p<4294967296:=by unfold wI;omega
theorem ahI (x:Int):au (toNat (ga x&&&ga 4294967295))=x%4294967296:=by have:=BZ x 32;rw[show((2:Int)^32-1)=4294967295 from rfl,show((2:Int)^32)=4294967296 from rfl]at this;rw[this,ak]
theorem agq (x:Int):au x%4294967296=x%4294967296:=by have:=AI x 32;rwa[show((2:Int)^32)=4294967296 from rfl]at this
theorem P6 (l:aw α)(x y:α):(l++[x]).set l.length y=l++[y]:=by rw[List.set_append_right _ _ (aU _),kW,List.set_cons_zero]
theorem aeH {l:aw α}(h:i<l.length)(x:α):idx (l.set i x) (i:Int)=some x:=by rw[Pq,List.getElem?_set_self h]
theorem FO (l:aw α)(x:α):idx (l++[x]) (l.length:Int)=some x:=by rw[Pq,bq (aU _),kW];rfl
theorem QM (h:dw p=true):(body p).length<=320:=BA h
theorem Ps (l:aw Stream)(p:aN)(h:cX 900000000 (.sl dG) l):xp l p=some (Cd l p):=by
 have hl:l.length<=900000000:=h.1;unfold xp Cd;simp only[wP l,oH,ab,KF,acD l _ (show l.length<=10^9 by omega),kt];cases hs:dw p;rfl;have hb:=QM hs;have hw:=bD ((body p).length:Int);simp only[aj,af];rw[show p.2.2.2.2.2.2.2.2.2.2.2.2.2.2.2=body p from rfl];cases hf:l.findIdx? (atF (kS p))with
 |none=>
  have e1:Tm l (kS p)= -1:=by rw[Tm,hf]
  simp only[e1,show decide ((-1:Int)<0)=true from rfl,ah];cases p.2.2.2.2.2.2.2.2.1==17 with|true=>simp only[ah];rw[aP (by simp;omega),FO,ab];simp only;rw[aP,aP (by simp only[ai,ef];omega),ab,az];simp only[ab,FO,P6,cA];rfl|false=>simp only[af];rw[show(au (toNat (ga p.2.2.2.2.2.2.2.2.2.2.2.2.2.1&&&ga 2)) !=0)=DN p 2 from rfl];cases DN p 2 with|true=>simp only[ah];rw[lZ,aP (by simp;omega)]|false=>rfl
 |some i=>
  obtain⟨hi,_⟩:=List.findIdx?_eq_some_iff_getElem.1 hf;have hd:(l[i].2.2.1).length<=900000000:=(h.2 _ (bk hi)).2.2.1;have e1:Tm l (kS p)=(i:Int):=by rw[Tm,hf]
  simp only[e1,aq (show¬(i:Int)<0 by omega),af,bf hi,ab,cL hi,az];cases p.2.2.2.2.2.2.2.2.1==17 with
  |true=>simp only[ah];rw[aP,aP (by simp only[ai];omega)];rfl
  |false=>
   simp only[af];rw[show(au (toNat (ga p.2.2.2.2.2.2.2.2.2.2.2.2.2.1&&&ga 2)) !=0)=DN p 2 from rfl,show(au (toNat (ga p.2.2.2.2.2.2.2.2.2.2.2.2.2.1&&&ga 4)) !=0)=DN p 4 from rfl,show(au (toNat (ga p.2.2.2.2.2.2.2.2.2.2.2.2.2.1&&&ga 1)) !=0)=DN p 1 from rfl];cases DN p 2;case true=>rfl
   simp only[af];rw[show(aa (cond l[i].2.2.2 (some true) (some (DN p 4))):(Bool->ax (aw Stream))->ax (aw Stream))=λK=>K (l[i].2.2.2||DN p 4) from by funext K;cases l[i].2.2.2<;>rfl];simp only;cases l[i].2.2.2||DN p 4;case true=>rfl
   simp only[af,Hy _ 4294967296,ab,agq];rw[show(l[i].2.1-p.2.2.2.2.2.2.2.2.2.2.2.1)%4294967296=wI l[i] p from rfl];have ha:=aaT l[i] p;by_cases hq:wI l[i] p<=((body p).length:Int)
   rw[ar hq,uE (l:=body p) (wI l[i] p).toNat (by omega) (by omega)];simp only[ah,ab];rw[aP (by rw[aM];omega)];simp only[aeH hi,ab,List.set_set];refine congrArg some (congrArg (l.set i) ?_);simp only[ah7];rw[show(au (l[i].2.1+((body p).length:Int))-wI l[i] p)%4294967296=(l[i].2.1+((body p).length:Int)-wI l[i] p)%4294967296 from by rw[Int.sub_emod,agq,<-Int.sub_emod]];rw[aq hq];rfl
theorem OV {l:aw Stream}(h:cX n (.sl dG) l):cX (n+322) (.sl dG) (Cd l p):=by
 have h':cX (n+322) (.sl dG) l:=h.mono;unfold Cd;cases hs:dw p;exact h';have hb:=QM hs;have hw:=bD ((body p).length:Int);have hu:(udp p).length<=322:=by simp only[udp,ai];omega
 simp only[aj,af];have app:∀x:Stream,x.2.2.1.length<=n+322->cX (n+322) (.sl dG) (l++[x]):=by intro x hx;refine⟨?_,λy hy=>?_⟩;have:l.length<=n:=h.1;simp only[ai,bA];omega;rcases ay.1 hy with g|g;exact h'.2 y g;rw[cf.1 g];exact⟨⟨cv,cv,cv,cv,cv⟩,cv,hx,cv⟩
 have put:∀(i:Nat)(x:Stream),x.2.2.1.length<=n+322->cX (n+322) (.sl dG) (l.set i x):=by intro i x hx;refine⟨?_,λy hy=>?_⟩;show(l.set i x).length<=_;rw[aC];exact h'.1;rcases List.mem_or_eq_of_mem_set hy with g|rfl;exact h'.2 y g;exact⟨⟨cv,cv,cv,cv,cv⟩,cv,hx,cv⟩
 split;cases p.2.2.2.2.2.2.2.2.1==17 with|true=>exact app _ (show(udp p).length<=_ by omega)|false=>cases DN p 2 with|true=>exact app _ (bW _)|false=>exact h'
 ·rename_i i hf;obtain⟨hi,_⟩:=List.findIdx?_eq_some_iff_getElem.1 hf;have hd:(l[i].2.2.1).length<=n:=(h.2 _ (bk hi)).2.2.1;simp only[cL hi];cases p.2.2.2.2.2.2.2.2.1==17 with
  |true=>exact put _ _ (by simp only[ai];omega)
  |false=>
   cases DN p 2;case true=>exact h'
   cases l[i].2.2.2||DN p 4;case true=>exact h'
   cases decide (wI l[i] p<=((body p).length:Int))with|false=>exact h'|true=>exact put _ _ (by simp only[ah7,ai,aM];omega)
theorem jb {y:Bytes}(h:i<x.length):bG (x++y) i=bG x i:=by unfold bG;rw[cm,cm,bz h]
theorem sP {y:Bytes}(h:x.length<=i):bG (x++y) i=bG y (i-x.length):=by unfold bG;rw[cm,cm,bq h]
theorem QR (h:i<n):bG (x.take n) i=bG x i:=by unfold bG;rw[cm,cm,dQ h]
theorem lg:bG (x.drop n) i=bG x (n+i):=by unfold bG;rw[cm,cm,bI]
theorem PT {p:Bytes}(h:i<a\/a+p.length<=i:=by omega):bG (uV s (a:Int) p) i=bG s i:=by
 unfold uV eV;by_cases hw:(0:Int)<=a/\(a:Int)+(p.length:Int)<=(s.length:Int)
 rw[ar hw,ah,az];have ht:(s.take a).length=a:=by rw[aY];omega
 rcases h with h|h;rw[jb (by rw[ai];omega),jb (by omega),QR h];rw[sP (by rw[ai];omega),lg,ai,ht];congr 1;omega;rw[aq hw];rfl
theorem Xs {p:Bytes}{j:Nat}(hw:a+p.length<=s.length)(hj:j<p.length:=by omega):bG (uV s (a:Int) p) (a+j)=bG p j:=by
 unfold uV eV;rw[ar ⟨by omega,by omega⟩,ah,az];have ht:(s.take a).length=a:=by rw[aY];omega
 rw[jb (by rw[ai];omega),sP (by omega),ht];congr 1;omega
theorem sS:ch s (a:Int)=bif decide (a+2<=s.length) then((bG s a*256+bG s (a+1):Nat):Int) else-1:=by unfold ch eV;rw[az,show decide ((0:Int)<=a/\(a:Int)+2<=(s.length:Int))=decide (a+2<=s.length) from decide_eq_decide.2 (by omega)]
theorem Co (hl:s.length=t.length)(h0:bG s a=bG t a)(h1:bG s (a+1)=bG t (a+1)):ch s (a:Int)=ch t (a:Int):=by rw[sS,sS,hl,h0,h1]
theorem Kk {k:Nat}:ch (s.drop k) (a:Int)=ch s ((k+a:Nat):Int):=by rw[sS,sS,lg,lg,aM,show k+(a+1)=k+a+1 by omega,show decide (a+2<=s.length-k)=decide (k+a+2<=s.length) from decide_eq_decide.2 (by omega)]
theorem Dm:fF s (a:Int)=bif decide (a+4<=s.length) then(((bG s a*256+bG s (a+1))*65536+(bG s (a+2)*256+bG s (a+3)):Nat):Int) else-1:=by unfold fF eV;rw[az,show decide ((0:Int)<=a/\(a:Int)+4<=(s.length:Int))=decide (a+4<=s.length) from decide_eq_decide.2 (by omega)]
theorem Kl {k:Nat}:fF (s.drop k) (a:Int)=fF s ((k+a:Nat):Int):=by rw[Dm,Dm,lg,lg,lg,lg,aM,show k+(a+1)=k+a+1 by omega,show k+(a+2)=k+a+2 by omega,show k+(a+3)=k+a+3 by omega,show decide (a+4<=s.length-k)=decide (k+a+4<=s.length) from decide_eq_decide.2 (by omega)]
theorem Rm (hl:s.length=t.length)(h:∀j,j<4->bG s (a+j)=bG t (a+j)):fF s (a:Int)=fF t (a:Int):=by rw[Dm,Dm,hl,show bG s a=bG t a from h 0 (by omega),h 1 (by omega),h 2 (by omega),h 3 (by omega)]
def dk (s:Bytes):Nat:=bif ch s 12==33024 then 18 else 14
def jY (s:Bytes):Nat:=bG s (dk s+9)
def LH (k:Nat):Nat:=bif (k:Int)==6 then 16 else 6
def zX (s:Bytes):Nat:=dk s+10
def xP (s:Bytes):Nat:=dk s+20+LH (jY s)
theorem GC (k:Nat):LH k=16/\k=6\/LH k=6/\k≠6:=by unfold LH;by_cases h:k=6;subst h;exact .inl ⟨rfl,rfl⟩;exact .inr ⟨by rw[show((k:Int)==6)=false from by rw[cI];omega];rfl,h⟩
theorem JN (s:Bytes):dk s=18/\(ch s 12==33024)=true\/dk s=14/\(ch s 12==33024)=false:=by unfold dk;cases ch s 12==33024 with|true=>exact .inl ⟨rfl,rfl⟩|false=>exact .inr ⟨rfl,rfl⟩
theorem Hk (k:Nat)(h:k<256):fj (k:Int)=some (LH k:Int):=by unfold fj LH;cases (k:Int)==6<;>rfl
theorem F1 (s:Bytes)(h:s.length<=10^9):pU s=some ((zX s:Int),(xP s:Int)):=by
 unfold pU;rw[uP s 12 h,ab];have hk:=eE s (dk s+9)
 have core:∀o:Nat,dk s=o->(o=18\/o=14)->(bif decide (au ((o:Int)+9)<(s.length:Int)) then
  aa (idx s (au ((o:Int)+9))) λx2=>aa (fj (au ((UInt8.toNat x2:Int)))) λr3=>some (au ((o:Int)+10),au ((au ((o:Int)+20))+r3))
  else aa (fj 0) λr4=>some (au ((o:Int)+10),au ((au ((o:Int)+20))+r4)))=some ((zX s:Int),(xP s:Int)):=by
  intro o ho h2
  have hs:=GC (jY s)
  rw[ak (n:=(o:Int)+9),ak (n:=(o:Int)+10),ak (n:=(o:Int)+20)]
  unfold zX xP
  rw[ho]
  by_cases hl:o+9<s.length
  ·obtain⟨x,hx,ex⟩:=ln hl
   rw[jU,ah,show(o:Int)+9=((o+9:Nat):Int) by omega,hx,ab,ex,gV (by rw[<-ho];omega),Hk _ (by rw[<-ho];exact hk),ab,show bG s (o+9)=jY s by unfold jY;rw[ho],ak]
   congr 1
  ·have hz:jY s=0:=by unfold jY;rw[ho];exact Ev
   have h0:fj 0=some (LH 0:Int):=Hk 0 (by omega)
   rw[cC,af,h0,ab,<-hz,ak]
   congr 1
 rcases JN s with⟨h1,h2⟩|⟨h1,h2⟩;rw[h2,ah];exact core 18 h1 (.inl rfl);rw[h2,af];exact core 14 h1 (.inr rfl)
theorem Xn {a:Int}(h:dm a 0 281474976710655=true):(Zm a).length=6:=by
 have ha:=bg.1 h;have e:Zm a=bP (fdiv a (2^(oC 32)))++iP (au (toNat (ga a&&&ga 4294967295))):=by unfold Zm iy;rw[lZ];simp only[nN,pY,ab];have h1:=bD (fdiv a (2^(oC 32)));have h2:=ez (au (toNat (ga a&&&ga 4294967295)));rw[aP];rfl
 have e2:(2:Int)^(oC 32)=4294967296:=rfl;rw[e,ai,E6,L1,ahI,e2];rw[show dm (fdiv a 4294967296) 0 65535=true from bg.2 (by rw[Int.fdiv_eq_ediv_of_nonneg _ (by omega)];omega),show dm (a%4294967296) 0 4294967295=true from bg.2 (by omega)];rfl
theorem RM (h:dw p=true):dk (dy p).1+46<=(dy p).1.length:=by
 have hh:oV p=true:=by simp only[dw,ae]at h;exact h.1
 have hp:=PQ (Ze p).1;have hi:=Dt h;unfold dy aeu Q4 at hi⊢;rw[h,ah]at hi⊢;cases he:qe (p.1,p.2.1,p.2.2.1,2048,pad (Ze p).1)with|false=>rw[he]at hi;cases hi|true=>?_
 simp only[ah];simp only[oV,ae]at hh;have m1:=Xn hh.1;have m2:=Xn hh.2.1;have hv:=bg.1 hh.2.2.1;have w1:(bP 33024).length=2:=rfl;have w3:(bP 2048).length=2:=rfl;generalize pad (Ze p).1=bd at hp⊢;unfold M6;simp only;generalize Zm p.1=M1 at m1⊢;generalize Zm p.2.1=M2 at m2⊢;by_cases hc:p.2.2.1>=0;have w2:(bP p.2.2.1).length=2:=by rw[E6,bg.2 (by omega)];rfl
 rw[ar hc,ah];have hb:dk (((((M1++M2)++bP 33024)++bP p.2.2.1)++bP 2048)++bd)=18:=by
  unfold dk;have e12:ch (((((M1++M2)++bP 33024)++bP p.2.2.1)++bP 2048)++bd) ((12:Nat):Int)=33024:=by rw[sS,ar (by simp only[ai];omega),ah];rw[jb (by simp only[ai];omega),jb (by simp only[ai];omega),jb (by simp only[ai];omega),sP (by simp only[ai];omega)];rw[jb (by simp only[ai];omega),jb (by simp only[ai];omega),jb (by simp only[ai];omega),sP (by simp only[ai];omega)];rw[ai,m1,m2];rfl
  rw[show(12:Int)=((12:Nat):Int) from rfl,e12];rfl
 rw[hb];simp only[ai];omega;rw[aq hc,af];have hb:dk (((M1++M2)++bP 2048)++bd)=14:=by
  unfold dk;have e12:ch (((M1++M2)++bP 2048)++bd) ((12:Nat):Int)=2048:=by rw[sS,ar (by simp only[ai];omega),ah];rw[jb (by simp only[ai];omega),sP (by simp only[ai];omega)];rw[jb (by simp only[ai];omega),sP (by simp only[ai];omega)];rw[ai,m1,m2];rfl
  rw[show(12:Int)=((12:Nat):Int) from rfl,e12];rfl
 rw[hb];simp only[ai];omega
def lD (t:Bytes)(x y:Bytes):Bytes:=uV (uV t (zX t:Int) x) (xP t:Int) y
theorem CM (t x y:Bytes):(lD t x y).length=t.length:=by unfold lD;rw[wB,wB]
def jT (p:aN):Bytes×Bool:=bif dw p then(lD (dy p).1 (bP 0) (bP 0),true) else([],false)
theorem aci (h:dw p=false):dy p=([],false):=by unfold dy;rw[h];rfl
theorem Nz (p:aN):lQ p=some (jT p):=by have hl:=xZ p;have w0:=bD 0;unfold lQ jT lD;rw[Du,ab];cases h:dw p with|false=>rw[aci h];rfl|true=>rw[Dt h];simp only[aj,af,ah,F1 _ (show(dy p).1.length<=10^9 by omega),ab,kt,Bc _ _ _ (show(dy p).1.length<=10^9 by omega) (show(bP 0).length<=10^9 by omega),Bc _ _ _ (show(uV (dy p).1 (zX (dy p).1:Int) (bP 0)).length<=10^9 by rw[wB];omega) (show(bP 0).length<=10^9 by omega)]
def BF (s t:Bytes):Prop:=s.length=t.length/\∀i,i<zX t\/(zX t+2<=i/\i<xP t)\/xP t+2<=i->bG s i=bG t i
theorem yE (t:Bytes):(dk t=14\/dk t=18)/\zX t=dk t+10/\dk t+26<=xP t/\xP t<=dk t+36/\(xP t=dk t+36/\jY t=6\/xP t=dk t+26/\jY t≠6):=by have h1:=JN t;have h2:=GC (jY t);unfold zX xP;omega
theorem Ed (t:Bytes){y:Bytes}(hx:x.length<=2)(hy:y.length<=2):BF (lD t x y) t:=by have:=yE t;refine⟨CM t x y,λi hi=>?_⟩;unfold lD;rw[PT,PT]
theorem BF.body (h:BF s t):dk s=dk t:=by have:=yE t;unfold dk;have e:ch s ((12:Nat):Int)=ch t ((12:Nat):Int):=Co h.1 (h.2 _ (by omega)) (h.2 _ (by omega));rw[show(12:Int)=((12:Nat):Int) from rfl,e]
theorem BF.kind (h:BF s t):jY s=jY t:=by have:=yE t;unfold jY;rw[h.body,h.2 _ (by omega)]
theorem BF.ahX (h:BF s t):zX s=zX t/\xP s=xP t:=by unfold zX xP;rw[h.body,h.kind];exact⟨rfl,rfl⟩
theorem BF.ajz (h:BF s t):ch s ((dk t+2:Nat):Int)=ch t ((dk t+2:Nat):Int):=by have:=yE t;exact Co h.1 (h.2 _ (by omega)) (h.2 _ (by omega))
structure TOk (t:Bytes):Prop where
 eth:(fJ t).2=true
 bd:(fJ t).1.2.2.2.2=t.drop (dk t)
 l1:dk t+46<=t.length
 n1:20+LH (jY t)+2<=ch t ((dk t+2:Nat):Int)
 n2:ch t ((dk t+2:Nat):Int)<=(t.length:Int)-(dk t:Int)
theorem HF (h:(fJ s).2=true):(fJ s).1.2.2.2.2=s.drop (dk s)/\18<=s.length/\46<=s.length-dk s/\s.length-dk s<=400:=by
 unfold fJ at h⊢;by_cases h8:(s.length:Int)<18;rw[ar h8]at h;cases h;rw[aq h8]at h⊢;simp only[af]at h⊢;rcases JN s with⟨h1,h2⟩|⟨h1,h2⟩;rw[h2]at h⊢;simp only[ah]at h⊢;cases he:qe (EA s)with|false=>rw[he]at h;cases h|true=>rw[h1];simp only[qe,ae,bg,EA,aM]at he;simp only[ah,EA];refine⟨cv,by omega,by omega,by omega⟩
 rw[h2]at h⊢;simp only[af]at h⊢;cases he:qe (wg s)with|false=>rw[he]at h;cases h|true=>rw[h1];simp only[qe,ae,bg,wg,aM]at he;simp only[ah,wg];refine⟨cv,by omega,by omega,by omega⟩
theorem Lo (h:(jG s).2=0):(fJ s).2=true/\(kK (fJ s).1.2.2.2.2).2=true/\dw (jG s).1=true/\ (pV (kK (fJ s).1.2.2.2.2).1.2.2.2.2.1 (kK (fJ s).1.2.2.2.2).1.2.2.2.2.2.1 (kK (fJ s).1.2.2.2.2).1.2.2.2.1 (kK (fJ s).1.2.2.2.2).1.2.2.2.2.2.2).2=true:=by
 unfold jG at h⊢;simp only at h⊢;generalize fJ s=e at h⊢;cases h1: !e.2||(e.1.2.2.2.1 !=2048)with|true=>rw[h1]at h;cases h|false=>?_
 rw[h1]at h;simp only[af]at h⊢;generalize kK e.1.2.2.2.2=i at h⊢;cases h2:i.2 with|false=>rw[h2]at h;cases h|true=>?_
 rw[h2]at h;simp only[aj,af]at h⊢;generalize pV i.1.2.2.2.2.1 i.1.2.2.2.2.2.1 i.1.2.2.2.1 i.1.2.2.2.2.2.2=g at h⊢;cases h3:g.2 with|false=>rw[h3]at h;cases h|true=>?_
 rw[h3]at h;simp only[aj,af]at h⊢;cases h4:dw (e.1.1,e.1.2.1,e.1.2.2.1,i.1.1,i.1.2.1,i.1.2.2.1,i.1.2.2.2.2.1,i.1.2.2.2.2.2.1,g.1)with|false=>rw[h4]at h;cases h|true=>?_
 simp only[cg,dz]at h1;exact⟨h1.1,cv,h4,cv⟩
theorem ac8 (h:(kK b).2=true):20<=ch b 2/\ch b 2<=(b.length:Int)/\(kK b).1=Bi b:=by
 unfold kK at h⊢;cases h1:decide ((b.length:Int)<20)||(decide (ch b 2<20)||decide (ch b 2>(b.length:Int)))with|true=>rw[h1]at h;cases h|false=>?_
 rw[h1]at h;simp only[af]at h⊢;cases h2:(QA (Bi b)).2&&((QA (Bi b)).1==b.take (ch b 2).toNat)with|false=>rw[h2]at h;cases h|true=>?_
 simp only[cg,cP]at h1;exact⟨by omega,by omega,rfl⟩
theorem ZR {a b k:Int}(h:(pV a b k s).2=true):k=6/\20<=s.length\/k=17/\8<=s.length:=by unfold pV at h;cases h1:(k==6)&&decide ((s.length:Int)>=20)with|true=>simp only[ae,aS,aB]at h1;exact .inl ⟨h1.1,by omega⟩|false=>rw[h1]at h;simp only[af]at h;cases h2:(k==17)&&decide ((s.length:Int)>=8)with|true=>simp only[ae,aS,aB]at h2;exact .inr ⟨h2.1,by omega⟩|false=>rw[h2]at h;cases h
theorem Ya (hl:s.length=t.length)(h:∀i,i<18->bG s i=bG t i)(hs:(fJ s).2=true):(fJ t).2=true:=by
 have g16:∀a,a+2<=18->ch s ((a:Nat):Int)=ch t ((a:Nat):Int):=λa ha=>Co hl (h _ (by omega)) (h _ (by omega));have g32:∀a,a+4<=18->fF s ((a:Nat):Int)=fF t ((a:Nat):Int):=λa ha=>Rm hl (λj hj=>h _ (by omega));have e0:D8 s 0=D8 t 0:=by unfold D8;rw[show(0:Int)=((0:Nat):Int) from rfl,g16 0 (by omega),show((0:Nat):Int)+2=((2:Nat):Int) from rfl,g32 2 (by omega)]
 have e6:D8 s 6=D8 t 6:=by unfold D8;rw[show(6:Int)=((6:Nat):Int) from rfl,g16 6 (by omega),show((6:Nat):Int)+2=((8:Nat):Int) from rfl,g32 8 (by omega)]
 have e12:ch s 12=ch t 12:=g16 12 (by omega);have e14:ch s 14=ch t 14:=g16 14 (by omega);have e16:ch s 16=ch t 16:=g16 16 (by omega);have b1:qe (EA s)=qe (EA t):=by unfold qe EA;rw[e0,e6,e14,e16];simp only[aM,hl]
 have b2:qe (wg s)=qe (wg t):=by unfold qe wg;rw[e0,e6,e12];simp only[aM,hl]
 unfold fJ at hs⊢;rw[hl,e12,b1,b2]at hs;cases h8:decide ((t.length:Int)<18)with|true=>rw[h8]at hs;cases hs|false=>?_
 rw[h8]at hs;cases h12:ch t 12==33024 with
 |true=>rw[h12]at hs;cases hb:qe (EA t)with|true=>rfl|false=>rw[hb]at hs;cases hs
 |false=>rw[h12]at hs;cases hb:qe (wg t)with|true=>rfl|false=>rw[hb]at hs;cases hs
theorem ah8 (ha:BF s t)(h:(jG s).2=0):TOk t:=by
 have hp:=yE t;obtain⟨h1,h2,_,h4⟩:=Lo h;have he:=HF h1;rw[he.1]at h2 h4;have hi:=ac8 h2;have hs:=ZR h4;rw[hi.2.2]at hs;have e1:(fJ t).2=true:=Ya ha.1 (λi hi=>ha.2 i (by omega)) h1;have e2:=HF e1;have en:ch (s.drop (dk s)) 2=ch t ((dk t+2:Nat):Int):=by have:ch (s.drop (dk s)) ((2:Nat):Int)=ch s ((dk s+2:Nat):Int):=Kk;rw[show(2:Int)=((2:Nat):Int) from rfl,this,ha.body,ha.ajz]
 have ek:(Bi (s.drop (dk s))).2.2.2.1=(jY t:Int):=by show(bG (s.drop (dk s)) 9:Int)=_;rw[lg,<-ha.kind];rfl
 have eg:(Bi (s.drop (dk s))).2.2.2.2.2.2.length=(ch t ((dk t+2:Nat):Int)).toNat-20:=by show(((s.drop (dk s)).take (ch (s.drop (dk s)) 2).toNat).drop 20).length=_;rw[en,aM,aY];have:=hi.2.1;rw[en]at this;omega
 rw[ek,eg]at hs;rw[en]at hi;have hn:=hi.2.1;rw[aM,ha.1,ha.body]at hn;have hk:=GC (jY t);exact⟨e1,e2.1,by omega,by omega,by omega⟩
theorem aaz (h:(jT p).1=t)(hs:dw p=true)(ht:TOk t):ch t (zX t:Int)=0/\ch t (xP t:Int)=0:=by
 unfold jT at h;rw[hs]at h;simp only[ah]at h;have w0:(bP 0).length=2:=rfl;have ha:BF (lD (dy p).1 (bP 0) (bP 0)) (dy p).1:=Ed _ (by omega) (by omega);rw[h]at ha;have hp:=yE t;have Dr:=ha.ahX;have hl:=ht.l1;have xY:=ha.1;have Fb:=ht.n1;have AJ:=ht.n2;have hk:=GC (jY t);have hB:xP t+2<=t.length:=by omega
 have b0:bG (bP 0) 0=0:=rfl;have b1:bG (bP 0) 1=0:=rfl;rw[sS,sS,jU,ar hB,ah,ah];have eB:∀j,j<2->bG t (xP t+j)=bG (bP 0) j:=by intro j hj;rw[<-h];unfold lD;rw[show xP (uV (uV (dy p).1 (zX (dy p).1:Int) (bP 0)) (xP (dy p).1:Int) (bP 0))=xP (dy p).1 from by have:=Dr.2;rw[<-h]at this;exact this];exact Xs (by rw[wB,w0];omega)
 have eA:∀j,j<2->bG t (zX t+j)=bG (bP 0) j:=by intro j hj;rw[<-h];unfold lD;rw[show zX (uV (uV (dy p).1 (zX (dy p).1:Int) (bP 0)) (xP (dy p).1:Int) (bP 0))=zX (dy p).1 from by have:=Dr.1;rw[<-h]at this;exact this];rw[PT];exact Xs (by rw[w0];omega)
 have a0:=eA 0 (by omega);have a1:=eA 1 (by omega);have c0:=eB 0 (by omega);have c1:=eB 1 (by omega);rw[dT]at a0 c0;rw[a0,a1,c0,c1,b0,b1];exact⟨rfl,rfl⟩
theorem JR (s:Bytes):aJ (dj s)=s:=by
 unfold aJ dj;rw[List.map_map];conv=>rhs;rw[<-List.map_id s]
 refine List.map_congr_left λb _=>?_;simp
theorem acH (s t:Bytes):dj (s++t)=dj s++dj t:=List.map_append
theorem F6 (s:Bytes):(dj s).length=s.length:=da ..
theorem JA (l:aw α)(i j:Nat)(h:i<=j:=by omega)(h2:j<=l.length:=by omega):sub l (i:Int) (j:Int)=some ((l.drop i).take (j-i)):=by unfold sub;rw[zip];simp[List.take_drop,Nat.add_sub_cancel' h]
theorem Ts (a k:Nat):Int.tdiv (a:Int) (k:Int)=((a/k:Nat):Int):=(Int.ofNat_tdiv a k).symm
theorem Ob (a k:Nat):tmod (a:Int) (k:Int)=((a%k:Nat):Int):=(Int.ofNat_tmod a k).symm
theorem mem_iff:cE m=true↔(∀x∈m,x.length=128)/\m.length<=64:=by simp only[cE,ae,aG,aS,aB];constructor;rintro⟨h1,h2⟩;exact⟨λx hx=>by have:=h1 x hx;omega,by omega⟩;rintro⟨h1,h2⟩;exact⟨λx hx=>by have:=h1 x hx;omega,by omega⟩
theorem Rc:∀{m:bM},(∀x∈m,x.length=128)->m.flatten.length=128*m.length
 |[],_=>rfl
 |x::m,h=>by have:=Rc (m:=m) (λy hy=>h y (by simp[hy]));have:=h x (by simp);simp only[List.flatten_cons,ai,bc];omega
theorem Nd:∀{m:bM}(_:∀x∈m,x.length=128)(p:Nat)(hp:p<m.length)(o c:Nat),o+c<=128->(m.flatten.drop (128*p+o)).take c=(m[p].drop o).take c
 |x::m,h,0,hp,o,c,ho=>by have:=h x (by simp);simp only[List.flatten_cons,List.getElem_cons_zero];rw[List.drop_append_of_le_length (by omega),List.take_append_of_le_length (by simp;omega)];simp
 |x::m,h,p+1,hp,o,c,ho=>by have hx:=h x (by simp);simp only[List.flatten_cons,List.getElem_cons_succ];rw[show 128*(p+1)+o=x.length+(128*p+o) by omega,List.drop_length_add_append];exact Nd (m:=m) (λy hy=>h y (by simp[hy])) p (by simpa using hp) o c ho
def AB (m:bM)(a n:Nat):Bytes:=(m.flatten.drop a).take n
theorem HM (h:cE m=true)(hn:a+n<=128*m.length):(AB m a n).length=n:=by have:=Rc (mem_iff.1 h).1;simp only[AB,aY,aM];omega
theorem adf (m:bM)(a n:Nat):(AB m a n).length<=n:=by simp[AB];omega
theorem Z2 (m:bM)(a k c:Nat):AB m a (k+c)=AB m a k++AB m (a+k) c:=by unfold AB;rw[List.take_add,eH]
theorem VZ (h:cE m=true){p:Nat}(hp:p<m.length){o:Nat}(ho:o+c<=128)(ha:a=128*p+o):(m[p].drop o).take c=AB m a c:=by subst ha;exact(Nd (mem_iff.1 h).1 p hp o c ho).symm
def gr (m:bM)(a n:Int):Bool:=cE m&&decide (0<=n/\0<=a/\a+n<=128*(m.length:Int))
theorem CC (m:bM)(a n:Int)(h:m.length<=10^9):sW m a n=some (gr m a n):=by unfold sW gr;rw[EL m h,ab,ak (n:=(m.length:Int)*128)];cases hm:cE m with|false=>rfl|true=>simp only[ah,bp];by_cases h1:n>=0;by_cases h2:n<=(m.length:Int)*128;rw[ak (n:=(m.length:Int)*128-n)];by_cases h3:a>=0;simp only[ar h1,ar h2,ar h3,ah,ab];exact congrArg some (decide_eq_decide.2 (by omega));simp only[ar h1,ar h2,aq h3,ah,af,ab];exact congrArg some (cC).symm;simp only[ar h1,aq h2,ah,af,ab];exact congrArg some (cC).symm;simp only[aq h1,af,ab];exact congrArg some (cC).symm
theorem IK (m:bM)(a n:Int)(h:m.length<=10^9):nj m a n=some (gr m a n):=by unfold nj gr;rw[EX m h,ab,ak (n:=128*(m.length:Int))];cases hm:cE m with|false=>rfl|true=>simp only[ah,bp];by_cases h1:n>=0;by_cases h3:a>=0;by_cases h2:a<=128*(m.length:Int);rw[ak (n:=128*(m.length:Int)-a)];simp only[ar h1,ar h2,ar h3,ah,ab];exact congrArg some (decide_eq_decide.2 (by omega));simp only[ar h1,aq h2,ar h3,ah,af,ab];exact congrArg some (cC).symm;simp only[ar h1,aq h3,ah,af,ab];exact congrArg some (cC).symm;simp only[aq h1,af,ab];exact congrArg some (cC).symm
theorem FY (hm:cE m=true)(K:Int->cw->ax R):∀(n r k a f:Nat),r<=n->n<f->a+k+r<=128*m.length->
 aX (kv K ((k+r:Nat):Int) m) f (((a+k:Nat):Int),dj (AB m a k))=K ((a+k+r:Nat):Int) (dj (AB m a (k+r)))
 |n,r,k,a,0,_,hf,_=>by omega
 |n,0,k,a,f+1,hr,hf,hb=>by rw[aX];simp only[kv,F6,HM hm (show a+k<=128*m.length by omega),dT];rw[cC,af]
 |0,r+1,k,a,f+1,hr,hf,hb=>by omega
 |n+1,r+1,k,a,f+1,hr,hf,hb=>by
  have h64:=(mem_iff.1 hm).2;have hl:=HM hm (show a+k<=128*m.length by omega);obtain⟨p,hp⟩:∃p,(a+k)/128=p:=⟨_,rfl⟩
  obtain⟨o,ho⟩:∃o,(a+k)%128=o:=⟨_,rfl⟩
  have hpo:a+k=128*p+o:=by omega
  have ho2:o<128:=by omega
  have Dr:p<m.length:=by omega
  obtain⟨c,hc⟩:∃c,min (r+1) (128-o)=c:=⟨_,rfl⟩
  have hpg:=(mem_iff.1 hm).1 _ (bk Dr);have e1:Int.tdiv ((a+k:Nat):Int) 128=(p:Int):=by rw[<-hp];exact Ts (a+k) 128
  have e2:tmod ((a+k:Nat):Int) 128=(o:Int):=by rw[<-ho];exact Ob (a+k) 128
  have key:=FY hm K n (r+1-c) (k+c) a f (by omega) (by omega) (by omega);rw[aX];simp only[kv,F6,hl,e1,e2];rw[jU,ah,lZ,ak (n:=(p:Int)),bf Dr,ab,lZ];rw[ak (n:=(o:Int)+((k+(r+1):Nat):Int)),ak (n:=(o:Int)+((k+(r+1):Nat):Int)-(k:Int))];rw[show(if(o:Int)+((k+(r+1):Nat):Int)-(k:Int)<128 then(o:Int)+((k+(r+1):Nat):Int)-(k:Int) else 128)=((o+c:Nat):Int) by split<;>omega];rw[JA _ _ _,ab,show o+c-o=c by omega,VZ hm Dr (show o+c<=128 by omega) hpo];have xY:=HM hm (show a+k+c<=128*m.length by omega);rw[xY,aP,ak,<-acH,<-Z2];rw[show((a+k:Nat):Int)+(c:Int)=((a+(k+c):Nat):Int) by omega];rw[show k+c+(r+1-c)=k+(r+1) by omega,show a+(k+c)+(r+1-c)=a+k+(r+1) by omega]at key;exact key
theorem acA (m:bM)(a n:Int)(h:m.length<=10^9):oa m a n=some (bif gr m a n then(AB m a.toNat n.toNat,true) else([],false)):=by have Ak:=dR;unfold oa;rw[CC m a n h,ab];cases hw:gr m a n with|false=>rfl|true=>simp only[gr,ae,aB]at hw;obtain⟨hm,h1,h2,h3⟩:=hw;have h64:=(mem_iff.1 hm).2;simp only[aj,af,ah];rw[zip,aP];obtain⟨a,rfl⟩:=aV h2;obtain⟨n,rfl⟩:=aV h1;have:=FY hm (λ(y4:Int) (y5:cw)=>some (aJ y5,true)) n n 0 a fuel (by omega) (by omega) (by omega);rw[ca,dT]at this;refine Eq.trans this ?_;simp only[JR,az]
def EP (d p:Int)(w:Bool)(x:aA):Bool:=kB d p x&&(x.2.2.2|| !w)
def rF (l:aw aA)(d p:Int)(w:Bool):Int:=match l.findIdx? (EP d p w)with|some i=>(l.getD i Hu).2.2.1|none=> -1
theorem adz (l:aw aA)(d p:Int)(w:Bool)(h:l.length<=10^9):xJ l d p w=some (rF l d p w):=by unfold xJ rF;refine Eq.trans (Di (p:=EP d p w) (hit:=λi=>aa (idx l i) λx=>some x.2.2.1) (fin:=some (-1)) l (by omega) (λi hi nx=>?_) (λnx=>?_)) ?_;simp only[sE];rw[jU,bf hi,ak];simp only[ah,ab,EP,kB];cases l[i].1==d<;>cases l[i].2.1==p<;>cases l[i].2.2.2<;>cases w<;>rfl;simp only[sE];rw[cC];rfl;cases hf:l.findIdx? (EP d p w)with|none=>rfl|some i=>obtain⟨hi,_⟩:=List.findIdx?_eq_some_iff_getElem.1 hf;simp only[bf hi,ab,cL hi]
theorem Gd (h:dF l=true)(hi:i<l.length):EO l[i]=true/\∀j (hj:j<i),kB l[i].1 l[i].2.1 (l[j]'(by omega))=false:=by simp only[dF,ae,aG,bT]at h;have:=h.2 i hi;simp only[Ht,ae,aG,bT,cL hi,aK]at this;exact⟨this.1,λj hj=>by have:=this.2 j hj;rwa[cL (by omega)]at this⟩
theorem Hs {d p:Int}{m:aA}:kB d p m=true↔m.1=d/\m.2.1=p:=by simp[kB]
theorem acR (h:dF l=true){d p:Int}{j:Nat}(hi:i<l.length)(hj:j<l.length)(h1:kB d p l[i]=true)(h2:kB d p l[j]=true):i=j:=by have a:=Hs.1 h1;have b:=Hs.1 h2;rcases Nat.lt_trichotomy i j with h3|h3|h3;have:=(Gd h hj).2 i h3;rw[b.1,b.2,h1]at this;cases this;exact h3;have:=(Gd h hi).2 j h3;rw[a.1,a.2,h2]at this;cases this
theorem La (h:dF l=true)(d p:Int)(w:Bool)(h1:0<=rF l d p w):rF l d p w<=63/\0<=p/\p<=1023:=by unfold rF at h1⊢;cases hf:l.findIdx? (EP d p w)with|none=>rw[hf]at h1;simp at h1|some i=>obtain⟨hi,h2,_⟩:=List.findIdx?_eq_some_iff_getElem.1 hf;have h3:=(Gd h hi).1;simp only[EP,ae,Hs]at h2;simp only[EO,ae,bg]at h3;simp only[cL hi];omega
theorem YM (l:aw aA)(d:Int)(a:Nat)(w:Bool)(h:l.length<=10^9)(hm:dF l=true)(ha:a<=9223372036854775807): Bg l d (a:Int) w=some (if 0<=rF l d ((a/128:Nat):Int) w then rF l d ((a/128:Nat):Int) w*128+((a%128:Nat):Int) else-1):=by
 have e1:Int.tdiv (a:Int) 128=((a/128:Nat):Int):=Ts a 128;have e2:tmod (a:Int) 128=((a%128:Nat):Int):=Ob a 128;unfold Bg;rw[cC,af,lZ,e1,e2,ak,KH l _ _ h,ab];generalize ((a/128:Nat):Int)=p;have sJ:=La hm d p w;unfold NU;cases hf:l.findIdx? (kB d p)with
 |none=>
  have hn:rF l d p w= -1:=by unfold rF;rw[List.findIdx?_eq_none_iff]at hf;rw[List.findIdx?_eq_none_iff.2 (λx hx=>by rw[EP,hf x hx];rfl)]
  rw[hn];rfl
 |some i=>
  obtain⟨hi,h2,h3⟩:=List.findIdx?_eq_some_iff_getElem.1 hf;simp only;rw[cC,bf hi];simp only[af,ab];cases hq:l[i].2.2.2|| !w with
  |true=>
   have hF:rF l d p w=l[i].2.2.1:=by unfold rF;rw[List.findIdx?_eq_some_iff_getElem.2 ⟨hi,by rw[EP,h2,hq];rfl,λj hj=>by have:=h3 j hj;rw[EP,Bool.eq_false_iff.2 this];simp⟩];exact congrArg (λx:aA=>x.2.2.1) (cL hi Hu)
   have h4:=(Gd hm hi).1;simp only[EO,ae,bg]at h4
   rw[hF,aE (show 0<=l[i].2.2.1 by omega),show(aa (cond w (some (!l[i].2.2.2)) (some false)) λq3=>cond q3 (some (-1:Int)) _)=_ from by
    have:(cond w (some (!l[i].2.2.2)) (some false))=some false:=by cases w<;>cases hz:l[i].2.2.2<;>rw[hz]at hq<;>first|rfl|cases hq
    rw[this,ab,af]]
   rw[aH (show¬(128:Nat)=0 by omega),ak (n:=l[i].2.2.1*128),ak]
  |false=>
   have hF:rF l d p w= -1:=by unfold rF;rw[List.findIdx?_eq_none_iff.2 (λx hx=>by obtain⟨j,hj,rfl⟩:=eZ hx;cases Xb:kB d p l[j]with|false=>rw[EP,Xb];rfl|true=>have:=acR hm hi hj h2 Xb;subst this;rw[EP,hq];simp)]
   rw[hF,aH (show¬(0:Int)<= -1 by omega)];cases w with|false=>simp at hq|true=>simp only[aj,Bool.or_false]at hq;simp only[ah,hq,ab,bF]
def kU (l:aw aA)(m:bM)(d:Int)(w:Bool):Nat->Nat->Nat->ax (aw (Int×Int))
 |0,_,_=>some []
 |n+1,a,r=>if r=0 then some [] else
  if 0<=rF l d ((a/128:Nat):Int) w/\rF l d ((a/128:Nat):Int) w<(m.length:Int) then
   (kU l m d w n (a+min (128-a%128) r) (r-min (128-a%128) r)).map (λq=>(rF l d ((a/128:Nat):Int) w*128+((a%128:Nat):Int),((min (128-a%128) r:Nat):Int))::q)
  else none
theorem Qu (hm:cE m=true){f:Int}(h0:0<=f){o:Nat}(hc:0<c)(ho:o+c<=128):gr m (f*128+(o:Int)) (c:Int)=decide (f<(m.length:Int)):=by rw[gr,hm,bp];exact decide_eq_decide.2 (by omega)
theorem TC (hm:cE m=true){f:Int}(h0:0<=f):gr m (f*128) 128=decide (f<(m.length:Int)):=by rw[gr,hm,bp];exact decide_eq_decide.2 (by omega)
theorem FZ (hl:dF l=true)(hL:l.length<=10^9)(hm:cE m=true)(d:Int)(w:Bool):∀(n a r f:Nat)(acc:aw (Int×Int)),r<=n->n<f->acc.length+n<=1000000->a<=9223372036854775807->
 aX (pR (λ(y9:Int) (DK:Int) (C7:aw (Int×Int))=>some (C7,true)) (λ(GR:Int) (C8:Int) (BW:aw (Int×Int)) (Fh:Bool) (H2:aw (Int×Int))=>some (BW,Fh)) l d w ([]:aw (Int×Int)) false m) f ((a:Int),(r:Int),acc)
  =match kU l m d w n a r with|some q=>some (acc++q,true)|none=>some ([],false)
 |n,a,r,0,acc,_,hf,_,_=>by omega
 |0,a,r,f+1,acc,hr,hf,hA,ha=>by rw[aX];simp only[pR];rw[cC];simp[kU]
 |n+1,a,r,f+1,acc,hr,hf,hA,ha=>by
  have h64:=(mem_iff.1 hm).2;rw[aX];simp only[pR,kU];by_cases h0:r=0;rw[cC,aE h0];simp;have e2:tmod (a:Int) 128=((a%128:Nat):Int):=Ob a 128;have sJ:=La hl d ((a/128:Nat):Int) w;rw[jU,aH h0,YM l d a w hL hl ha,ab,lZ,e2,ak (n:=128-((a%128:Nat):Int))];obtain⟨c,hc⟩:∃c,min (128-a%128) r=c:=⟨_,rfl⟩
  rw[hc,show(if 128-((a%128:Nat):Int)<(r:Int) then 128-((a%128:Nat):Int) else(r:Int))=(c:Int) by split<;>omega];generalize hP:rF l d ((a/128:Nat):Int) w=P at sJ⊢;by_cases hP0:0<=P;have sJ:=sJ hP0;simp only[aE hP0,ah];rw[aq (show¬P*128+((a%128:Nat):Int)<0 by omega),CC m _ _ (by omega),Qu hm hP0 (by omega) (by omega)];simp only[af,ab];by_cases hP1:P<(m.length:Int);rw[ar hP1,aE ⟨hP0,hP1⟩];simp only[aj,af];rw[aP (by simp;omega),ak (n:=(a:Int)+(c:Int)),ak (n:=(r:Int)-(c:Int)),aq (show¬(a:Int)+(c:Int)<0 by omega)];simp only[af,ab];have key:=FZ hl hL hm d w n (a+c) (r-c) f (acc++[(P*128+((a%128:Nat):Int),(c:Int))]) (by omega) (by omega) (by simp;omega) (by omega);rw[show((a+c:Nat):Int)=(a:Int)+(c:Int) by omega,show((r-c:Nat):Int)=(r:Int)-(c:Int) by omega]at key;rw[key];cases kU l m d w n (a+c) (r-c)with|none=>rfl|some q=>simp
  rw[aq hP1,lZ];rfl;simp only[aH hP0,ah];rw[lZ,jU];rfl
theorem GB (hl:dF l=true)(hL:l.length<=10^9)(hm:cE m=true)(d:Int)(w:Bool):∀(n a r f:Nat)(acc:aw (Int×Int)),r<=n->n<f->acc.length+n<=1000000->a<=9223372036854775807->
 aX (kl (λ(DK:Int) (C7:Int) (GR:cw) (C8:cw)=>some (GR,C8,true)) (λ(BW:Int) (Fh:Int) (H2:cw) (Qv:cw) (JE:Bool) (TE:cw) (WC:cw)=>some (H2,Qv,JE)) l d w ([]:cw) ([]:cw) false m) f ((a:Int),(r:Int),acc.map (·.1),acc.map (·.2))
  =match kU l m d w n a r with|some q=>some ((acc++q).map (·.1),(acc++q).map (·.2),true)|none=>some ([],[],false)
 |n,a,r,0,acc,_,hf,_,_=>by omega
 |0,a,r,f+1,acc,hr,hf,hA,ha=>by rw[aX];simp only[kl];rw[cC];simp[kU]
 |n+1,a,r,f+1,acc,hr,hf,hA,ha=>by
  have h64:=(mem_iff.1 hm).2;rw[aX];simp only[kl,kU];by_cases h0:r=0;rw[cC,aE h0];simp;have e1:Int.tdiv (a:Int) 128=((a/128:Nat):Int):=Ts a 128;have e2:tmod (a:Int) 128=((a%128:Nat):Int):=Ob a 128;have sJ:=La hl d ((a/128:Nat):Int) w;rw[ar (show(r:Int)>0 by omega),ar (show(a:Int)>=0 by omega),aH h0];simp only[ah];rw[lZ,e1,e2,ak (n:=((a/128:Nat):Int)),adz l _ _ w hL,ab,lZ,ak (n:=128-((a%128:Nat):Int))];obtain⟨c,hc⟩:∃c,min (128-a%128) r=c:=⟨_,rfl⟩
  rw[hc,show(if 128-((a%128:Nat):Int)<(r:Int) then 128-((a%128:Nat):Int) else(r:Int))=(c:Int) by split<;>omega];generalize hP:rF l d ((a/128:Nat):Int) w=P at sJ⊢;by_cases hP0:0<=P;have sJ:=sJ hP0;rw[aq (show¬P<0 by omega),ak (n:=P*128),IK m _ _ (by omega),TC hm hP0];simp only[af,ab];by_cases hP1:P<(m.length:Int);rw[ar hP1,aE ⟨hP0,hP1⟩];simp only[aj,af];rw[aP (by simp;omega),aP (by simp;omega),ak (n:=P*128+((a%128:Nat):Int)),ak (n:=(a:Int)+(c:Int)),ak (n:=(r:Int)-(c:Int))];have key:=GB hl hL hm d w n (a+c) (r-c) f (acc++[(P*128+((a%128:Nat):Int),(c:Int))]) (by omega) (by omega) (by simp;omega) (by omega);rw[show((a+c:Nat):Int)=(a:Int)+(c:Int) by omega,show((r-c:Nat):Int)=(r:Int)-(c:Int) by omega,List.map_append,List.map_append]at key;refine Eq.trans key ?_;cases kU l m d w n (a+c) (r-c)with|none=>rfl|some q=>simp
  rw[aq hP1,lZ];rfl;rw[lZ,jU];rfl
def kD (l:aw aA)(m:bM)(d a n:Int)(w:Bool):aw (Int×Int)×Bool:=
 bif dF l&&(cE m&&dm n 0 4096) then
  (bif n==0 then([],true) else bif decide (a<0) then([],false) else match kU l m d w n.toNat a.toNat n.toNat with|some q=>(q,true)|none=>([],false))
 else([],false)
theorem RZ (l:aw aA)(m:bM)(d a n:Int)(w:Bool)(hl:l.length<=10^9)(hm:m.length<=10^9)(ha:a<=9223372036854775807):wq l m d a n w=some (kD l m d a n w):=by
 have Ak:=dR;unfold wq kD;simp only[FV l hl,EL m hm,di,ab];cases hB:dF l;rfl;cases hM:cE m;rfl;cases hN:dm n 0 4096;rfl;have hn:=bg.1 hN;simp only[aj,af,ab,eY,ah];cases h0:n==0;case true=>rfl
 by_cases hA:a<0;rw[ar hA];rfl;rw[aq hA];simp only[af];obtain⟨a,rfl⟩:=aV (show 0<=a by omega);obtain⟨n,rfl⟩:=aV hn.1;rw[FZ hB hl hM d w n a n fuel [] (by omega) (by omega) (by simp;omega) (by omega)];simp only[az];cases kU l m d w n a n<;>rfl
theorem aan (l:aw aA)(m:bM)(d a n:Int)(w:Bool)(hl:l.length<=10^9)(hm:m.length<=10^9)(ha:a<=9223372036854775807):vZ l m d a n w=some ((kD l m d a n w).1.map (·.1),(kD l m d a n w).1.map (·.2),(kD l m d a n w).2):=by
 have Ak:=dR;unfold vZ kD;simp only[P9 l hl,EX m hm,eu,ab];cases hB:dF l;rfl;cases hM:cE m;rfl;cases hN:dm n 0 4096;rfl;have hn:=bg.1 hN;simp only[aj,af,ab,eY,ah];obtain⟨n,rfl⟩:=aV hn.1;cases h0:((n:Int)==0)with
 |true=>
  have:n=0:=by simpa using h0
  subst this;obtain⟨f,hf⟩:∃f,fuel=f+1:=⟨fuel-1,by omega⟩
  rw[hf,aX];rfl
 |false=>
  have hn0:n≠0:=by simpa using h0
  by_cases hA:a<0;obtain⟨f,hf⟩:∃f,fuel=f+1:=⟨fuel-1,by omega⟩
  rw[ar hA,hf,aX];simp only[kl];rw[jU,cC];rfl;rw[aq hA];simp only[af];obtain⟨a,rfl⟩:=aV (show 0<=a by omega);refine Eq.trans (GB hB hl hM d w n a n fuel [] (by omega) (by omega) (by simp;omega) (by omega)) ?_;simp only[az];cases kU l m d w n a n<;>rfl
end
end Go.Pu
