import Derived.Test.YtnmppgnbjfdffaaGreatDnData
import Derived.Test.YtnmppgnbjfdffaaGreatPure
namespace Go.Pu
open Go.Dn
open List (range)
open BitVec (toNat)
open Int (fdiv tmod)
set_option linter.unusedSimpArgs false
set_option linter.unusedVariables false
noncomputable section
variable {b s t x:Bytes} {h:Host} {f:Int->ay Int} {a c i n o:Nat} {p:aO} {R X α σ:Type} {l:aw aA} {m:bT}
/- Plain laws of the partial operations and of loops. -/
theorem ak {n:Int}(h1: -9223372036854775808<=n:=by omega)(h2:n<=9223372036854775807:=by omega):aq n=n:=by simp only[aq,fS,IntKind.wrap,IntKind.bits,IntKind.signed];simp;omega
@[simp] theorem ab (a:α)(k:α->ay R):aa (some a) k=k a:=rfl
@[simp] theorem ae3 (k:α->ay R):aa none k=none:=rfl
@[simp] theorem AO (c:Bool)(x y:α)(k:α->ay R):aa (cond c (some x) (some y)) k=k (cond c x y):=by cases c<;>rfl
theorem bX (c:Bool)(x y:α):cond c (some x) (some y)=some (cond c x y):=by cases c<;>rfl
theorem aR {k:ay R}(h:n<=1073741824:=by omega):room n k=k:=by simp[room,h]
theorem Ok (xs:aw α)(i:Nat):idx xs (i:Int)=xs[i]?:=rfl
theorem bz {xs:aw α}(h:i<xs.length):idx xs (i:Int)=some xs[i]:=by rw[Ok];exact al h
def upK (step:Nat->σ->(σ->ay R)->ay R)(fin:σ->ay R)(N:Nat):Nat->Nat->σ->ay R
 |0,_,s=>fin s
 |n+1,i,s=>step i s (λs'=>upK step fin N n (i+1) s')
theorem Fm {T:(X->ay R)->X->ay R}(N:Nat)(e:σ->Nat->X)(step:Nat->σ->(σ->ay R)->ay R)(fin:σ->ay R)(hs:∀i s nx,i<N->T nx (e s i)=step i s (λs'=>nx (e s' (i+1))))(hf:∀s nx,T nx (e s N)=fin s): ∀n i s,i<=N->N-i<n->aW T n (e s i)=upK step fin N (N-i) i s:=by
 intro n;induction n with
 |zero=>intro i s _ h;omega
 |succ n ih=>
  intro i s hi hn;rw[aW];rcases bW i N with hG|yc;rw[hs i s _ hG,show N-i=(N-(i+1))+1 by omega,upK];congr 1;funext s';exact ih (i+1) s' (by omega) (by omega);have:i=N:=by omega
  subst this;rw[hf,kK,upK]
def AR (step:α->σ->(σ->ay R)->ay R)(fin:σ->ay R):aw α->σ->ay R
 |[],s=>fin s
 |x::xs,s=>step x s (AR step fin xs)
theorem CP {T:(X->ay R)->X->ay R}(xs:aw α)(e:σ->Nat->X)(step:α->σ->(σ->ay R)->ay R)(fin:σ->ay R)(hs:∀i (h:i<xs.length) s nx,T nx (e s i)=step xs[i] s (λs'=>nx (e s' (i+1))))(hf:∀s nx,T nx (e s xs.length)=fin s): ∀n i s,i<=xs.length->xs.length-i<n->aW T n (e s i)=AR step fin (xs.drop i) s:=by
 intro n;induction n with
 |zero=>intro i s _ h;omega
 |succ n ih=>
  intro i s hi hn;rw[aW];rcases bW i xs.length with hG|yc;rw[hs i hG s _,bK hG,AR];congr 1;funext s';exact ih (i+1) s' (by omega) (by omega);have:i=xs.length:=by omega
  subst this;rw[hf,List.drop_length,AR]
def SB:(t:CT)->t.D->Nat
 | .int _,_=>0
 | .bool,_=>0
 | .str,s=>s.length
 | .sl e,xs=>xs.length+(xs.map (SB e)).sum
 | .pair a b,x=>SB a x.1+SB b x.2
def cX (n:Nat):(t:CT)->t.D->Prop
 | .int _,_=>True
 | .bool,_=>True
 | .str,s=>s.length<=n
 | .sl e,xs=>xs.length<=n/\∀x∈xs,cX n e x
 | .pair a b,x=>cX n a x.1/\cX n b x.2
theorem J9 (f:α->Nat):∀(xs:aw α)(x:α),x∈xs->f x<=(xs.map f).sum
 |y::ys,x,h=>by rcases cg.1 h with rfl|h;simp;have:=J9 f ys x h;simp;omega
theorem IK:∀{t:CT}{x:t.D},SB t x<=n->cX n t x
 | .int _,_,_=>trivial
 | .bool,_,_=>trivial
 | .str,_,h=>h
 | .sl e,xs,h=>by simp only[SB]at h;exact⟨by omega,λx hx=>IK (by have:=J9 (SB e) xs x hx;omega)⟩
 | .pair a b,x,h=>by simp only[SB]at h;exact⟨IK (by omega),IK (by omega)⟩
theorem cX.mono {m:Nat}(h:n<=m:=by omega):∀{t:CT}{x:t.D},cX n t x->cX m t x
 | .int _,_,_=>trivial
 | .bool,_,_=>trivial
 | .str,_,k=>bk k h
 | .sl _,_,k=>⟨bk k.1 h,λx hx=>cX.mono h (k.2 x hx)⟩
 | .pair _ _,_,k=>⟨cX.mono h k.1,cX.mono h k.2⟩
def Zv:(t:CT)->t.D->Prop
 | .int k,n=>k.min<=n/\n<=k.max
 | .bool,_=>True
 | .str,s=>s.length<=9223372036854775807
 | .sl e,xs=>xs.length<=9223372036854775807/\∀x∈xs,Zv e x
 | .pair a b,x=>Zv a x.1/\Zv b x.2
def kq (l n:Int):Int:=if n<=l then l-n else-1
def IL (f:α->Int->ay Int)(k0:Int->Int->ay R)(k1:Int->Int->Int->ay R)(v0:aw α)(nx:Int×Int->ay R)(x:Int×Int):ay R:=
 cond (decide (x.2<((List.length v0:Int)))) (
  aa (idx v0 x.2) λx1=>
  aa (f x1 x.1) λr2=>
  cond (decide (r2<0)) (
   k1 r2 (-1) x.2) (
   nx (r2,aq (x.2+1)))) (
  k0 x.1 x.2)
noncomputable def Pe (f:α->Int->ay Int)(a0:aw α)(a1:Int):ay Int:=
 cond (decide ((aq (a1-((List.length a0:Int))))<0)) (
  some (-1)) (
  aW (IL f (λy3 _=>some y3) (λ_ y6 _=>some y6) a0) fuel (aq (a1-((List.length a0:Int))),0))
theorem Vb {f:α->Int->ay Int}{s:α->Nat}{a:aw α}{l:Int}(h0:0<=l)(h1:l<=1048576)(hm:a.length<=9223372036854775807)(hf:∀x∈a,∀l:Int,0<=l->l<=1048576->∃r,f x l=some r/\((s x:Int)<=l->r=l-s x)/\(¬(s x:Int)<=l->r<0)):Pe f a l=some (kq l ((a.length+(a.map s).sum:Nat):Int)):=by
 unfold Pe;have Ab:=dR;rw[ak];rcases Int.lt_or_le (l-a.length) 0 with alJ|Xc;rw[au alJ];simp only[ah,kq];rw[lF];rw[cW];simp only[af];have key:=CP (T:=IL f (λy3 _=>some y3) (λ_ y6 _=>some y6) a) a (λ(q:Int) i=>(q,(i:Int))) (λx q k=>aa (f x q) λr=>cond (decide (r<0)) (some (-1)) (k r)) (λq=>some q) (λi hi q nx=>by simp only[IL];rw[lE];simp only[ah,bz hi,ab];rw[ak];rfl) (λq nx=>by simp only[IL];rw[cW];rfl) fuel 0 (l-a.length) (by omega) (by omega);have e:((0:Nat):Int)=0:=rfl;rw[e,eD]at key;rw[key];have main:∀(b:aw α)(q:Int),0<=q->q<=1048576->(∀x∈b,x∈a)->AR (λx q k=>aa (f x q) λr=>cond (decide (r<0)) (some (-1)) (k r)) (λq=>some q) b q=some (kq q ((b.map s).sum:Nat)):=by intro b;induction b with|nil=>intro q hq _ _;simp[AR,kq,hq]|cons x b ih=>intro q hq hq2 hb;obtain⟨r,hr,hr1,Lr⟩:=hf x (hb x (by simp)) q hq hq2;rw[AR,hr,ab];by_cases hle:(s x:Int)<=q;have:=hr1 hle;subst this;rw[cW];simp only[af];rw[ih _ (by omega) (by omega) (λy hy=>hb y (by simp[hy]))];simp only[kq,cD,List.sum_cons];congr 1;split<;>split<;>omega;rw[au (Lr hle)];simp only[ah,kq,cD,List.sum_cons];rw[lF]
 rw[main a _ (by omega) (by omega) (λx h=>h)];simp only[kq];congr 1;split<;>split<;>omega
def yL (f:Int->ay Int)(n:Nat):Prop:=∀l:Int,0<=l->l<=1048576->f l=some (kq l n)
theorem yL.nil:yL (λl=>some l) 0:=λl h0 _=>by simp[kq,h0]
theorem yL.len {m:Nat}(hn:n<=9223372036854775807){k:Int->ay Int}(h:yL k m): yL (λl=>cond (decide (aq (l-(n:Int))<0)) (some (-1)) (k (aq (l-(n:Int))))) (n+m):=by intro l h0 h1;simp only;rw[ak];by_cases hl:l-(n:Int)<0;rw[au hl];simp only[ah,kq];rw[lF];rw[ar hl];simp only[af];rw[h _ (by omega) (by omega)];simp only[kq];congr 1;split<;>split<;>omega
theorem yL.sub {k:Int->ay Int}{m:Nat}(hf:yL f n)(h:yL k m):yL (λl=>aa (f l) λr=>cond (decide (r<0)) (some (-1)) (k r)) (n+m):=by
 intro l h0 h1;simp only;rw[hf l h0 h1,ab];by_cases hl:(n:Int)<=l;have e:kq l n=l-n:=by simp[kq,hl]
 rw[e,cW];simp only[af];rw[h _ (by omega) (by omega)];simp only[kq];congr 1;split<;>split<;>omega;have e:kq l n= -1:=by simp[kq,hl]
 rw[e];simp only[kq];rw[lF];rfl
theorem yL.cast {m:Nat}(h:yL f n)(e:n=m):yL f m:=e▸h
theorem yL.list {f:α->Int->ay Int}{s:α->Nat}{a:aw α}(hm:a.length<=9223372036854775807)(hf:∀x∈a,yL (f x) (s x)):yL (Pe f a) (a.length+(a.map s).sum):=λ_ h0 h1=>Vb h0 h1 hm (λx hx l h0 h1=>⟨_,hf x hx l h0 h1,λh=>by simp[kq,h],λh=>by simp[kq,h]⟩)
theorem yL.flat (hn:n<=9223372036854775807):yL (λl=>cond (decide (aq (l-(n:Int))<0)) (some (-1)) (some (aq (l-(n:Int))))) n:=(yL.len (n:=n) hn yL.nil).cast (by omega)
theorem yL.use (hf:yL f n){l:Int}(h0:0<=l)(h1:l<=1048576){k:Int->ay Bool}(hk:(n:Int)<=l->k (l-n)=some true): (aa (f l) λr=>cond (decide (r<0)) (some true) (k r))=some true:=by
 rw[hf l h0 h1,ab];by_cases hl:(n:Int)<=l;have e:kq l n=l-n:=by simp[kq,hl]
 rw[e,cW];exact hk hl;have e:kq l n= -1:=by simp[kq,hl]
 rw[e];rfl
theorem EA {T:(Int->ay R)->Int->ay R}{fin hit:ay R}(p:α->Bool)(a:aw α)(h:a.length<=1000000000000)(hs:∀i (hi:i<a.length) nx,T nx (i:Int)=cond (p a[i]) hit (nx ((i+1:Nat):Int)))(hf:∀nx,T nx (a.length:Int)=fin): aW T fuel 0=cond (a.any p) hit fin:=by
 have Ab:=dR;have key:∀n i,i<=a.length->a.length-i<n->aW T n (i:Int)=cond ((a.drop i).any p) hit fin:=by
  intro n;induction n with
  |zero=>intro i _ h;omega
  |succ n ih=>
   intro i hi hn;rw[aW];rcases bW i a.length with hG|yc;rw[hs i hG,bK hG,List.any_cons];cases hq:p a[i]with|true=>rfl|false=>exact ih (i+1) (by omega) (by omega)
   have:i=a.length:=by omega
   subst this;rw[hf,List.drop_length];rfl
 exact key fuel 0 (by omega) (by omega)
theorem py {T:(Int->ay R)->Int->ay R}{fin hit:ay R}(p:Nat->Bool)(N:Nat)(h:N<=1000000000000)(hs:∀i nx,i<N->T nx (i:Int)=cond (!(p i)) hit (nx ((i+1:Nat):Int)))(hf:∀nx,T nx (N:Int)=fin): aW T fuel 0=cond ((range N).all p) fin hit:=by
 have Ab:=dR;have key:∀n i,i<=N->N-i<n->aW T n (i:Int)=cond ((List.range' i (N-i)).all p) fin hit:=by
  intro n;induction n with
  |zero=>intro i _ h;omega
  |succ n ih=>
   intro i hi hn;rw[aW];rcases bW i N with hG|yc;rw[hs i _ hG,show N-i=(N-(i+1))+1 by omega,List.range'_succ,bV];cases hq:p i with|false=>rfl|true=>exact ih (i+1) (by omega) (by omega)
   have:i=N:=by omega
   subst this;rw[hf,kK];rfl
 have:=key fuel 0 (by omega) (by omega);rw[Nat.sub_zero,<-List.range_eq_range']at this;exact this
theorem px {T:(Int->ay R)->Int->ay R}{fin hit:ay R}(p:α->Bool)(a:aw α)(h:a.length<=1000000000000)(hs:∀i (hi:i<a.length) nx,T nx (i:Int)=cond (!(p a[i])) hit (nx ((i+1:Nat):Int)))(hf:∀nx,T nx (a.length:Int)=fin): aW T fuel 0=cond (a.all p) fin hit:=by
 have:=EA (T:=T) (fin:=fin) (hit:=hit) (λx=> !(p x)) a h hs hf;rw[this];have e:a.any (λx=> !(p x))= !(a.all p):=by rw[dC];simp
 rw[e];cases a.all p<;>rfl
theorem LY {T:(X->ay R)->X->ay R}{fin hit:ay R}(e:Nat->X)(p:Nat->Bool)(N:Nat)(h:N<=1000000000000)(hs:∀i nx,i<N->(∀j,j<i->p j=true)->T nx (e i)=cond (!(p i)) hit (nx (e (i+1))))(hf:(∀j,j<N->p j=true)->∀nx,T nx (e N)=fin): aW T fuel (e 0)=cond ((range N).all p) fin hit:=by
 have Ab:=dR;have key:∀n i,i<=N->N-i<n->(∀j,j<i->p j=true)->aW T n (e i)=cond ((List.range' i (N-i)).all p) fin hit:=by
  intro n;induction n with
  |zero=>intro i _ h;omega
  |succ n ih=>
   intro i hi hn hp;rw[aW];rcases bW i N with hG|yc;rw[hs i _ hG hp,show N-i=(N-(i+1))+1 by omega,List.range'_succ,bV];cases hq:p i with|false=>rfl|true=>refine ih (i+1) (by omega) (by omega) λj hj=>?_;by_cases hji:j=i;rw[hji];exact hq;exact hp j (by omega)
   have:i=N:=by omega
   subst this;rw[hf hp,kK];rfl
 have:=key fuel 0 (by omega) (by omega) (λj hj=>absurd hj (by omega));rw[Nat.sub_zero,<-List.range_eq_range']at this;exact this
theorem CB {T:(Int->ay R)->Int->ay R}{fin:ay R}{hit:Int->ay R}(p:α->Bool)(a:aw α)(h:a.length<=1000000000000)(hs:∀i (hi:i<a.length) nx,T nx (i:Int)=cond (p a[i]) (hit (i:Int)) (nx ((i+1:Nat):Int)))(hf:∀nx,T nx (a.length:Int)=fin): aW T fuel 0=(match a.findIdx? p with|some i=>hit (i:Int)|none=>fin):=by
 have Ab:=dR;have key:∀n i,i<=a.length->a.length-i<n->aW T n (i:Int)=(match (a.drop i).findIdx? p with|some j=>hit ((i+j:Nat):Int)|none=>fin):=by
  intro n;induction n with
  |zero=>intro i _ h;omega
  |succ n ih=>
   intro i hi hn;rw[aW];rcases bW i a.length with hG|yc;rw[hs i hG,bK hG,List.findIdx?_cons];cases hq:p a[i]with|true=>rfl|false=>have:=ih (i+1) (by omega) (by omega);simp only[af];refine this.trans ?_;cases (a.drop (i+1)).findIdx? p with|none=>rfl|some j=>simp only[da,aU,bQ];congr 2;omega
   have:i=a.length:=by omega
   subst this;rw[hf,List.drop_length];rfl
 have:=key fuel 0 (by omega) (by omega);refine this.trans ?_;rw[eD];cases a.findIdx? p with|none=>rfl|some j=>simp only[cl]
theorem cF (a b:Bool):(bif a then b else false)=(a&&b):=by cases a<;>rfl
theorem cT (a b:Bool):(bif a then true else b)=(a||b):=by cases a<;>rfl
theorem cN (a b:Bool):(bif a then false else b)=(!a&&b):=by cases a<;>rfl
def OU (g:α->σ->Except (ay R) σ)(fin:σ->ay R):aw α->σ->ay R
 |[],s=>fin s
 |x::xs,s=>match g x s with| .error r=>r| .ok s'=>OU g fin xs s'
theorem FF {T:(X->ay R)->X->ay R}(xs:aw α)(e:σ->Nat->X)(Inv:Nat->σ->Prop)(g:α->σ->Except (ay R) σ)(fin:σ->ay R)(h:xs.length<=1000000000000)(hs:∀i (hi:i<xs.length) s nx,Inv i s->T nx (e s i)=match g xs[i] s with| .error r=>r| .ok s'=>nx (e s' (i+1)))(hn:∀i (hi:i<xs.length) s s',Inv i s->g xs[i] s=.ok s'->Inv (i+1) s')(hf:∀s nx,Inv xs.length s->T nx (e s xs.length)=fin s)(s:σ)(h0:Inv 0 s): aW T fuel (e s 0)=OU g fin xs s:=by
 have key:∀n i s,i<=xs.length->xs.length-i<n->Inv i s->aW T n (e s i)=OU g fin (xs.drop i) s:=by
  intro n;induction n with
  |zero=>intro i s _ h;omega
  |succ n ih=>
   intro i s hi AY hI;rw[aW];rcases bW i xs.length with hG|yc;rw[hs i hG s _ hI,bK hG,OU];cases hg:g xs[i] s with|error r=>rfl|ok s'=>exact ih (i+1) s' (by omega) (by omega) (hn i hG s s' hI hg)
   have:i=xs.length:=by omega
   subst this;rw[hf s _ hI,List.drop_length,OU]
 have Ab:=dR;have:=key fuel 0 s (by omega) (by omega) h0;rwa[eD]at this
theorem IH (f:σ->α->σ)(fin:σ->ay R):∀(xs:aw α)(s:σ),OU (λx s=> .ok (f s x)) fin xs s=fin (xs.foldl f s)
 |[],_=>rfl
 |x::xs,s=>by rw[OU];exact IH f fin xs (f s x)
theorem ew {T:(X->ay R)->X->ay R}{fin:ay R}(e:Nat->X)(N:Nat)(h:N<=1000000000000)(hs:∀i nx,i<N->T nx (e i)=nx (e (i+1)))(hf:∀nx,T nx (e N)=fin):aW T fuel (e 0)=fin:=by rw[LY (hit:=fin) (fin:=fin) e (λ_=>true) N h (λi nx hi _=>by rw[hs i nx hi];rfl) (λ_ nx=>hf nx)];cases (range N).all (λ_=>true)<;>rfl
theorem mC {l:aw α}{k:ay R}(h:l.length<=10^9):room (List.length ([]:aw α)+l.length) k=k:=aR (by simp only[eG];omega)
def dk (a lo hi:Int):Bool:=decide (lo<=a)&&decide (a<=hi)
theorem bf {a lo hi:Int}:dk a lo hi=true↔lo<=a/\a<=hi:=by simp[dk]
theorem ed (a b c:Int):aY a b c=some (dk a b c):=by simp only[aY,bX,ab,dk];cases h:decide (a>=b)<;>rfl
theorem dh (a b c:Int):aD a b c=some (dk a b c):=ed a b c
theorem dg {l:aw α}(h:i<l.length)(d:α):l.getD i d=l[i]:=by rw[cJ,al h];rfl
def K1 (l:cP)(i:Nat):Bool:=dk (l.getD i 0) 0 4095&& !(decide (0<i)&&decide (l.getD i 0<=l.getD (i-1) 0))
def pC (f:Filter):Bool:=(range f.2.2.length).all (K1 f.2.2)&&(dk f.1 0 281474976710654&&decide ((f.2.2.length:Int)<=8))
theorem UW (f:Filter)(h:f.2.2.length<=10^9):vh f=some (pC f):=by
 unfold vh;rw[py (hit:=some false) (fin:=some (dk f.1 0 281474976710654&&decide ((f.2.2.length:Int)<=8))) (K1 f.2.2) f.2.2.length (by omega) (λi nx hi=>?hs) (λnx=>?hf)]
 case hs=>
  simp only[qb]
  rw[lE,bz hi,ak (n:=(i:Int)+1)]
  simp only[ah,ab,ed,K1,dg hi]
  by_cases h0:0<i
  ·have e:aq ((i:Int)-1)=((i-1:Nat):Int):=by rw[ak];omega
   have hp:i-1<f.2.2.length:=by omega
   rw[e,bz hp,au (show(i:Int)>0 by omega),au h0,dg hp]
   simp only[ah,ab,bF]
   cases dk f.2.2[i] 0 4095<;>cases decide (f.2.2[i]<=f.2.2[i-1])<;>rfl
  ·rw[ar (show¬(i:Int)>0 by omega),ar h0]
   simp only[af,ez]
   cases dk f.2.2[i] 0 4095<;>rfl
 case hf=>
  simp only[qb]
  rw[cW]
  simp only[af,ed,ab,AO,bX]
  cases dk f.1 0 281474976710654<;>rfl
 unfold pC;cases (range f.2.2.length).all (K1 f.2.2)<;>rfl
theorem JP (f:Filter)(h:f.2.2.length<=10^9):qF f=some (pC f):=by
 unfold qF;rw[py (hit:=some false) (fin:=some (dk f.1 0 281474976710654&&decide ((f.2.2.length:Int)<=8))) (K1 f.2.2) f.2.2.length (by omega) (λi nx hi=>?hs) (λnx=>?hf)]
 case hs=>
  simp only[pE]
  rw[lE,bz hi,ak (n:=(i:Int)+1)]
  simp only[ah,ab,dh,K1,dg hi]
  by_cases h0:0<i
  ·have e:aq ((i:Int)-1)=((i-1:Nat):Int):=by rw[ak];omega
   have hp:i-1<f.2.2.length:=by omega
   rw[e,bz hp,au (show(i:Int)>0 by omega),au h0,dg hp]
   simp only[ah,ab,bF,ge_iff_le]
   cases dk f.2.2[i] 0 4095<;>cases decide (f.2.2[i]<=f.2.2[i-1])<;>rfl
  ·rw[ar (show¬(i:Int)>0 by omega),ar h0]
   simp only[af,ez]
   cases dk f.2.2[i] 0 4095<;>rfl
 case hf=>
  simp only[pE]
  rw[cW]
  simp only[af,dh,ab,AO,bX]
  cases dk f.1 0 281474976710654<;>rfl
 unfold pC;cases (range f.2.2.length).all (K1 f.2.2)<;>rfl
def yD (r:jz):Bool:=(lh r).getD false
theorem R9 (r:jz):lh r=some (yD r):=by
 have:∃b,lh r=some b:=by simp only[lh,ed,ab,bX];exact⟨_,rfl⟩
 obtain⟨b,hb⟩:=this;simp[yD,hb]
theorem aa4 (r:jz):yv r=some (yD r):=R9 r
theorem RQ {r:jz}(h:yD r=true):r.2.2.2.2.2.2.2.1=0\/r.2.2.2.2.2.2.2.2=0:=by
 by_cases h0:r.2.2.2.2.2.2.2.1=0;exact .inl h0;by_cases h1:r.2.2.2.2.2.2.2.2=0;exact .inr h1;exfalso;have e0:(r.2.2.2.2.2.2.2.1==0)=false:=by simp[h0]
 have e1:(r.2.2.2.2.2.2.2.2==0)=false:=by simp[h1]
 revert h;unfold yD;simp only[lh,ed,ab,bX,e0,e1,af,fj];have z:∀c:Bool,(bif c then false else false)=false:=by intro c;cases c<;>rfl
 simp only[z];intro h;cases h
def wc (l:aw jz):Bool:=l.all yD&&decide ((l.length:Int)<=12)
theorem M8 (l:aw jz)(h:l.length<=10^9):wU l=some (wc l):=by
 unfold wU;rw[px (hit:=some false) (fin:=some (decide ((l.length:Int)<=12))) yD l (by omega) (λi hi nx=>?hs) (λnx=>?hf)]
 case hs=>
  simp only[rD]
  rw[lE,bz hi,ak]
  simp only[ah,ab,R9];rfl
 case hf=>
  simp only[rD]
  rw[cW];rfl
 unfold wc;cases l.all yD<;>rfl
theorem Mz (l:aw jz)(h:l.length<=10^9):wM l=some (wc l):=by rw[<-M8 l h];rfl
theorem ak0 (x:Int):((BitVec.ofInt 64 x&&&BitVec.ofInt 64 7).toNat:Int)=x%8:=by
 have h7:(BitVec.ofInt 64 7).toNat=2^3-1:=by decide
 rw[BitVec.toNat_and,h7,Nat.and_two_pow_sub_one_eq_mod];simp only[BitVec.toNat_ofInt];omega
theorem ag4 (x:Int):((fY x&&&fY 7).toNat:Int)=x%8:=ak0 x
theorem adz (x:Int):ix x 8=some (x%8):=by unfold ix;rw[lF,Int.tmod_eq_emod];split;rw[cW];simp;rw[au (by simp;omega),ak (by simp;omega) (by simp;omega)];simp
def zx (f:iz):Int:=(f.1%8+f.2.1%8+f.2.2.1%8+f.2.2.2.1%8+f.2.2.2.2%8)%8
theorem JF (f:iz):0<=zx f/\zx f<8:=by unfold zx;omega
theorem acr {n:Int}(h:0<=n:=by omega):tmod n 8=n%8:=cv h
theorem R5 (f:iz):qU f=some (zx f):=by
 unfold qU;generalize hL:[f.1,f.2.1,f.2.2.1,f.2.2.2.1,f.2.2.2.2]=L;have hlen:L.length=5:=by rw[<-hL];rfl
 have Ab:=dR;have key:=CP (R:=Int) (T:=mI (λ(y2:Int) (y3:Int)=>if 8=0 then none else(some (tmod y2 8))) L) L (λ(s:Int) i=>(s,(i:Int))) (λx s k=>k (aq (s+aq (x%8)))) (λs=>some (tmod s 8)) (λi hi s nx=>by simp only[mI];rw[lE,bz hi,ak (n:=(i:Int)+1)];simp only[ah,ab];rw[ag4 L[i]];rfl) (λs nx=>by simp only[mI];rw[cW];rfl) fuel 0 0 (by omega) (by omega);refine key.trans ?_;rw[<-hL];simp only[eD,AR];rw[ak (n:=f.1%8),ak (n:=f.2.1%8),ak (n:=f.2.2.1%8),ak (n:=f.2.2.2.1%8),ak (n:=f.2.2.2.2%8)];rw[ak (n:=0+f.1%8),ak (n:=0+f.1%8+_),ak (n:=0+f.1%8+_+_),ak (n:=0+f.1%8+_+_+_),ak (n:=0+f.1%8+_+_+_+_)];rw[acr,zx,Int.zero_add]
theorem aaW (f:iz):uO f=some (zx f):=by
 unfold uO;generalize hL:[f.1,f.2.1,f.2.2.1,f.2.2.2.1,f.2.2.2.2]=L;have hlen:L.length=5:=by rw[<-hL];rfl
 have Ab:=dR;have key:=CP (R:=Int) (T:=mm (λ(y2:Int) (y3:Int)=>if 8=0 then none else(some (tmod y2 8))) L (L.length:Int)) L (λ(s:Int) i=>(s,(i:Int))) (λx s k=>k (aq (s+(x%8)))) (λs=>some (tmod s 8)) (λi hi s nx=>by simp only[mm];rw[lE,bz hi,ak (n:=(i:Int)+1)];simp only[ah,ab,adz];rfl) (λs nx=>by simp only[mm];rw[cW];rfl) fuel 0 0 (by omega) (by omega);refine key.trans ?_;rw[<-hL];simp only[eD,AR];rw[ak (n:=0+f.1%8),ak (n:=0+f.1%8+_),ak (n:=0+f.1%8+_+_),ak (n:=0+f.1%8+_+_+_),ak (n:=0+f.1%8+_+_+_+_)];rw[acr,zx,Int.zero_add]
def fO (t:aw Slot)(i:Nat):Slot:=t.getD i (0,(0,0,0,0,0),0)
theorem uv {t:aw Slot}(h:i<t.length):fO t i=t[i]:=dg h _
def kE (f:iz)(k:Nat):Nat:=((zx f).toNat+k)%8
theorem C0 (f:iz)(k:Nat):kE f k<8:=Nat.mod_lt _ (by omega)
theorem Sq (f:iz)(k:Nat)(h:k<8):tmod (aq (zx f+(k:Int))) 8=(kE f k:Int):=by have:=JF f;rw[ak,acr,kE];omega
def nU (s:Slot)(f:iz):Bool:=(s.1==1)&&decide (s.2.1=f)
theorem EO (p q:iz):((p.1==q.1)&&((p.2.1==q.2.1)&&((p.2.2.1==q.2.2.1)&&((p.2.2.2.1==q.2.2.2.1)&&((p.2.2.2.2==q.2.2.2.2)&&true)))))=decide (p=q):=by obtain⟨a,b,c,d,e⟩:=p;obtain⟨a',b',c',d',e'⟩:=q;rw[dC];simp
def walk (t:aw Slot)(f:iz):Nat->Nat->Int
 |0,_=> -1
 |n+1,k=>if(fO t (kE f k)).1=0 then-1 else if nU (fO t (kE f k)) f then(kE f k:Int) else walk t f n (k+1)
theorem R4 (t:aw Slot)(f:iz)(ht:t.length=8):tL t f=some (walk t f 8 0):=by
 unfold tL;have Ab:=dR
 have key:=Fm (R:=Int) (T:=nQ (λ(y6:Int)=>some (-1)) (λ(y7:Int) (y8:Int)=>some y7) 0 t f) 8 (λ(_:Unit) i=>(i:Int))
  (λi s k=>if(fO t (kE f i)).1=0 then some (-1) else if nU (fO t (kE f i)) f then some (kE f i:Int) else k s) (λ_=>some (-1))
  (λi s nx hi=>by
   have hw:kE f i<t.length:=by have:=C0 f i;omega
   simp only[nQ,R5];rw[lE,ak (n:=(i:Int)+1)];simp only[ah,ab,Sq f i hi,bz hw,uv hw,EO,nU,bX,ab];rw[lF];by_cases h0:t[kE f i].1=0;simp[h0];have e0:(t[kE f i].1==0)=false:=by simp[h0]
   rw[e0,aG h0];cases (t[kE f i].1==1)<;>cases decide (t[kE f i].2.1=f)<;>rfl)
  (λs nx=>by simp only[nQ];rfl)
  fuel 0 () (by omega) (by omega)
 refine key.trans ?_;have main:∀n i,upK (R:=Int) (λi (s:Unit) k=>if(fO t (kE f i)).1=0 then some (-1) else if nU (fO t (kE f i)) f then some (kE f i:Int) else k s) (λ_=>some (-1)) 8 n i ()=some (walk t f n i):=by intro n;induction n with|zero=>intro i;rfl|succ n ih=>intro i;rw[upK,walk];split;rfl;split;rfl;exact ih (i+1)
 exact main 8 0
def vW (f:iz):aw Slot->Int->Int
 |[],_=> -1
 |s::r,i=>if nU s f then i else vW f r (i+1)
theorem QS (t:aw Slot)(f:iz)(h:t.length<=10^9):vF t f=some (vW f t 0):=by
 unfold vF;have Ab:=dR;have key:∀n i,i<=t.length->t.length-i<n->aW (tk (λ(y3:Int)=>some (-1)) (λ(y4:Int) (y5:Int)=>some y4) 0 t ((List.length t:Int)) f) n (i:Int)=some (vW f (t.drop i) i):=by
  intro n;induction n with
  |zero=>intro i _ h;omega
  |succ n ih=>
   intro i hi hn;rw[aW];simp only[tk];rcases bW i t.length with hG|yc;rw[lE,bz hG,bK hG,vW,ak];simp only[ah,ab,EO,bX];have e:(bif t[i].1==1 then decide (t[i].2.1=f) else false)=nU t[i] f:=by unfold nU;cases (t[i].1==1)<;>rfl
   rw[e];cases nU t[i] f with|true=>rfl|false=>exact ih (i+1) (by omega) (by omega)
   have:i=t.length:=by omega
   subst this;rw[cW,List.drop_length];rfl
 exact key fuel 0 (by omega) (by omega)
theorem adj (f:iz):Am f=some ((range 8).map λk=>(kE f k:Int)):=by unfold Am;have Ab:=dR;have key:=Fm (R:=cP) (T:=qO (λ(y2:cP) (y3:Int)=>some y2) f) 8 (λ(_:Unit) i=>((range i).map (λk=>(kE f k:Int)),(i:Int))) (λ_ s k=>k s) (λ_=>some ((range 8).map λk=>(kE f k:Int))) (λi s nx hi=>by simp only[qO,aaW];rw[lE,ak (n:=(i:Int)+1)];simp only[ah,ab,Sq f i hi];rw[lF,aR (by simp;omega),List.range_succ,cY];rfl) (λs nx=>by simp only[qO];rfl) fuel 0 () (by omega) (by omega);exact key
def clear (t:aw Slot)(f:iz)(i:Nat):Nat->Nat->Bool
 |0,_=>true
 |n+1,k=>if kE f k=i then true else if(fO t (kE f k)).1=0 then false else clear t f i n (k+1)
theorem Xj (k0:Int->ay R)(k1:Bool->Int->ay R)(hit fin:ay R)(h0:∀x,k0 x=fin)(h1:∀x,k1 false x=hit)(v2:Bool)(i:Nat)(Wx:aw Slot)(Ve v14:Int)(t:aw Slot)(f:iz)(ht:t.length=8): aW (jW k0 k1 v2 (i:Int) Wx Ve v14 ((range 8).map λk=>(kE f k:Int)) (((range 8).map λk=>(kE f k:Int)).length:Int) t) fuel 0=cond (clear t f i 8 0) fin hit:=by
 have Ab:=dR;have hl:((range 8).map λk=>(kE f k:Int)).length=8:=by simp
 have key:=Fm (R:=R) (T:=jW k0 k1 v2 (i:Int) Wx Ve v14 ((range 8).map λk=>(kE f k:Int)) (((range 8).map λk=>(kE f k:Int)).length:Int) t) 8 (λ(_:Unit) i=>(i:Int))
  (λk s c=>if kE f k=i then fin else if(fO t (kE f k)).1=0 then hit else c s) (λ_=>fin)
  (λk s nx hk=>by
   have hw:kE f k<t.length:=by have:=C0 f k;omega
   simp only[jW];rw[lE,bz (show k<((range 8).map λk=>(kE f k:Int)).length by omega),ak (n:=(k:Int)+1)];simp only[ah,ab,List.getElem_map,List.getElem_range,bz hw,uv hw,h0,h1];by_cases e1:kE f k=i;subst e1;simp;have:((kE f k:Int)==(i:Int))=false:=by simp;omega
   rw[this,aG e1];by_cases e2:t[kE f k].1=0;simp[e2];have:(t[kE f k].1==0)=false:=by simp[e2]
   rw[this,aG e2];rfl)
  (λs nx=>by simp only[jW];rw[cW];exact h0 _)
  fuel 0 () (by omega) (by omega)
 refine key.trans ?_;have main:∀n k,upK (R:=R) (λk (s:Unit) c=>if kE f k=i then fin else if(fO t (kE f k)).1=0 then hit else c s) (λ_=>fin) 8 n k ()=cond (clear t f i n k) fin hit:=by intro n;induction n with|zero=>intro k;rfl|succ n ih=>intro k;rw[upK,clear];split;rfl;split;rfl;exact ih (k+1)
 exact main 8 0
def P9:iz:=(0,0,0,0,0)
theorem Qa (p:iz):((p.1==0)&&((p.2.1==0)&&((p.2.2.1==0)&&((p.2.2.2.1==0)&&((p.2.2.2.2==0)&&true)))))=decide (p=P9):=EO p P9
def M7 (s:Slot):Bool:=dk s.1 0 2&&dk s.2.2 0 3&&((s.1==1)||(s.2.2==0)&&decide (s.2.1=P9))
def mE (t:aw Slot)(i:Nat):Bool:=M7 (fO t i)&&(!((fO t i).1==1)||(walk t (fO t i).2.1 8 0==(i:Int)))
def si (t:aw Slot)(i:Nat):Bool:=M7 (fO t i)&&(!((fO t i).1==1)||(vW (fO t i).2.1 t 0==(i:Int))&&clear t (fO t i).2.1 i 8 0)
def nu (t:aw Slot):Bool:=(t.length==8)&&(range 8).all (mE t)
theorem M9 (t:aw Slot):tG t=some (nu t):=by
 unfold tG nu;by_cases ht:t.length=8
 ·have e:((t.length:Int) !=8)=false:=by rw[ht];rfl
  have e2:(t.length==8)=true:=by rw[ht];rfl
  rw[e,e2];simp only[af,bF];rw[py (hit:=some false) (fin:=some true) (mE t) 8 (by omega) (λi nx hi=>?hs) (λnx=>?hf)]
  case hs=>
   have hl:i<t.length:=by omega
   simp only[rF]
   rw[lE,bz hl,ak]
   simp only[ah,ab,ed,bX,Qa,R4 t _ ht,mE,uv hl,M7,bne]
   cases dk t[i].1 0 2<;>cases dk t[i].2.2 0 3<;>cases (t[i].1==1)<;>cases (t[i].2.2==0)<;>cases decide (t[i].2.1=P9)<;>first|rfl|(cases (walk t t[i].2.1 8 0==(i:Int))<;>rfl)
  case hf=>
   simp only[rF]
   rw[cW];rfl
  cases (range 8).all (mE t)<;>rfl
 have e:((t.length:Int) !=8)=true:=by simp;omega
 have e2:(t.length==8)=false:=by simp[ht]
 rw[e,e2];rfl
theorem T1 (t:aw Slot):pQ t=some ((t.length==8)&&(range 8).all (si t)):=by
 unfold pQ;by_cases ht:t.length=8
 ·have e:((t.length:Int) !=8)=false:=by rw[ht];rfl
  have e2:(t.length==8)=true:=by rw[ht];rfl
  rw[e,e2];simp only[af,bF];rw[py (hit:=some false) (fin:=some true) (si t) 8 (by omega) (λi nx hi=>?hs) (λnx=>?hf)]
  case hs=>
   have hl:i<t.length:=by omega
   simp only[rl]
   rw[lE,bz hl,ak]
   simp only[ah,ab,dh,bX,Qa,QS t _ (show t.length<=10^9 by omega),adj,si,uv hl,M7,bne]
   rw[Xj (λ_=>nx ((i:Int)+1)) (λ(y:Bool) (_:Int)=>some y) (some false) (nx ((i:Int)+1)) (λ_=>rfl) (λ_=>rfl) _ _ _ _ _ _ _ ht]
   cases dk t[i].1 0 2<;>cases dk t[i].2.2 0 3<;>cases (t[i].1==1)<;>cases (t[i].2.2==0)<;>cases decide (t[i].2.1=P9)<;>first|rfl|(cases (vW t[i].2.1 t 0==(i:Int))<;>first|rfl|(cases clear t t[i].2.1 i 8 0<;>rfl))
  case hf=>
   simp only[rl]
   rw[cW];rfl
  cases (range 8).all (si t)<;>rfl
 have e:((t.length:Int) !=8)=true:=by simp;omega
 have e2:(t.length==8)=false:=by simp[ht]
 rw[e,e2];rfl
theorem Ni (t:aw Slot)(f:iz)(i:Nat):∀n k,walk t f n k=(i:Int)->nU (fO t i) f=true/\clear t f i n k=true/\∃j,j<n/\kE f (k+j)=i
 |0,k,h=>by unfold walk at h;omega
 |n+1,k,h=>by
  unfold walk at h;unfold clear;by_cases h0:(fO t (kE f k)).1=0;rw[aF h0]at h;omega;rw[aG h0]at h;by_cases h1:nU (fO t (kE f k)) f=true;rw[aF h1]at h;have:kE f k=i:=by omega
  subst this;exact⟨h1,by simp,0,by omega,rfl⟩;rw[aG h1]at h;obtain⟨a,b,j,hj,e⟩:=Ni t f i n (k+1) h;refine⟨a,?_,j+1,by omega,by rw[<-e];congr 1;omega⟩;rw[aG h0,b];split<;>rfl
theorem Wz (t:aw Slot)(f:iz)(i:Nat)(hu:nU (fO t i) f=true)(aew:∀j,j<8->nU (fO t j) f=true->j=i):∀n k,clear t f i n k=true->(∃j,j<n/\kE f (k+j)=i)->walk t f n k=(i:Int)
 |0,k,_,h=>by obtain⟨j,hj,_⟩:=h;omega
 |n+1,k,hc,⟨j,hj,e⟩=>by unfold walk;unfold clear at hc;by_cases h1:kE f k=i;rw[h1,aG,aF hu];intro h0;unfold nU at hu;rw[h0]at hu;simp at hu;rw[aG h1]at hc;by_cases h0:(fO t (kE f k)).1=0;rw[aF h0]at hc;cases hc;rw[aG h0]at hc;rw[aG h0,aG (λOi=>h1 (aew _ (C0 f k) Oi))];refine Wz t f i hu aew n (k+1) hc ?_;cases j with|zero=>exact absurd e h1|succ j=>exact⟨j,by omega,by rw[<-e];congr 1;omega⟩
theorem ad1 (f:iz)(i:Nat)(hi:i<8):∃j,j<8/\kE f (0+j)=i:=by have:=JF f;refine⟨(i+8-(zx f).toNat)%8,by omega,?_⟩;unfold kE;omega
theorem Bz (f:iz):∀(t:aw Slot)(m:Nat),(∃j,j<t.length/\nU (fO t j) f=true)->∃j,j<t.length/\nU (fO t j) f=true/\vW f t m=((m+j:Nat):Int)
 |[],_,h=>by obtain⟨j,hj,_⟩:=h;simp at hj
 |s::r,m,⟨j,hj,e⟩=>by
  unfold vW;by_cases hs:nU s f=true;rw[aF hs];exact⟨0,by simp,by simpa[fO]using hs,by simp⟩;rw[aG hs];cases j with
  |zero=>exact absurd (by simpa[fO]using e) hs
  |succ j=>
   obtain⟨j',h1,h2,h3⟩:=Bz f r (m+1) ⟨j,by simpa using hj,by simpa[fO]using e⟩;refine⟨j'+1,by simpa using h1,by simpa[fO]using h2,?_⟩;have:((m:Int)+1)=((m+1:Nat):Int):=by omega
   rw[this,h3];congr 1;omega
theorem UT (t:aw Slot)(ht:t.length=8):(range 8).all (si t)=(range 8).all (mE t):=by
 rw[dC,aI,aI];simp only[ch];constructor;intro h i hi;have hI:=h i hi;unfold si at hI;unfold mE;simp only[ae,cz,aL,bc]at hI⊢;refine⟨hI.1,?_⟩;rcases hI.2 with h1|⟨h1,h2⟩;exact .inl h1;by_cases hu:((fO t i).1==1)=true;right;have Oi:nU (fO t i) (fO t i).2.1=true:=by unfold nU;rw[hu];simp
 refine Wz t _ i Oi (λj hj huj=>?_) 8 0 h2 (ad1 _ i hi);have hJ:=h j hj;unfold si at hJ;unfold nU at huj;simp only[ae,aC]at huj;simp only[ae,cz,aL,bc]at hJ;rcases hJ.2 with h3|⟨h3,_⟩;rw[huj.1]at h3;cases h3;rw[huj.2]at h3;omega;exact .inl (by simpa using hu);intro h i hi;have hI:=h i hi;unfold mE at hI;unfold si;simp only[ae,cz,aL,bc]at hI⊢;refine⟨hI.1,?_⟩;rcases hI.2 with h1|h1;exact .inl h1;right;obtain⟨hu,hc,_⟩:=Ni t _ i 8 0 h1;refine⟨?_,hc⟩;obtain⟨j,hj,huj,e⟩:=Bz (fO t i).2.1 t 0 ⟨i,by omega,hu⟩;have hJ:=h j (by omega);unfold mE at hJ;unfold nU at huj;simp only[ae,aC]at huj;simp only[ae,cz,aL,bc]at hJ;rcases hJ.2 with h3|h3;rw[huj.1]at h3;cases h3;rw[huj.2,h1]at h3;have e':vW (fO t i).2.1 t 0=((0+j:Nat):Int):=e;rw[e'];omega
theorem MD (t:aw Slot):pQ t=some (nu t):=by
 rw[T1,nu];by_cases ht:t.length=8;rw[UT t ht];have e2:(t.length==8)=false:=by simp[ht]
 rw[e2];rfl
def Wi (n:Int):Bool:=(n==1)||(n==2)||(n==4)||(n==8)||(n==16)
theorem Ub (n:Int):wY n=some (Wi n):=by simp only[wY,bX,ab,Wi];cases (n==1)<;>cases (n==2)<;>cases (n==4)<;>cases (n==8)<;>rfl
def qm (s:lp)(q:Int):Bool:=dk q 1 4&&((s.1.length:Int)==16)&&Wi s.2.length&&s.2.all λx=>dk x 0 (q-1)
theorem KM (s:lp)(q:Int)(h:s.2.length<=10^9):vk s q=some (qm s q):=by
 unfold vk qm;simp only[ed,Ub,ab,bX,bne];by_cases hq:dk q 1 4=true
 ·rw[px (hit:=some false) (fin:=some true) (λx=>dk x 0 (q-1)) s.2 (by omega) (λi hi nx=>?hs) (λnx=>?hf)]
  case hs=>
   rw[bf]at hq
   simp only[qe]
   rw[lE,bz hi,ak (n:=(i:Int)+1),ak (n:=q-1)]
   simp only[ah,ab,ed];rfl
  case hf=>
   simp only[qe]
   rw[cW];rfl
  rw[hq];cases ((s.1.length:Int)==16)<;>cases Wi s.2.length<;>cases s.2.all (λx=>dk x 0 (q-1))<;>rfl
 have hq':dk q 1 4=false:=by simpa using hq
 rw[hq'];rfl
theorem JU (s:lp)(q:Int)(h:s.2.length<=10^9):uU s q=some (qm s q):=by rw[<-KM s q h];rfl
def fe (s:dc)(q:Int):Bool:=wc s.1&&nu s.2.1&&qm s.2.2 q&&s.1.all (λr=> !(decide (r.2.2.2.2.2.2.2.2>=q)))&&s.2.1.all (λx=> !(decide (x.2.2>=q)))
theorem O3 (s:dc)(q:Int)(h1:s.1.length<=10^9)(h2:s.2.1.length<=10^9)(h3:s.2.2.2.length<=10^9):rE s q=some (fe s q):=by
 unfold rE fe;simp only[M8 _ h1,M9,KM _ _ h3,ab,bX];rw[px (hit:=some false) (fin:=cond (s.2.1.all (λx=> !(decide (x.2.2>=q)))) (some true) (some false)) (λr:jz=> !(decide (r.2.2.2.2.2.2.2.2>=q))) s.1 (by omega) (λi hi nx=>?hs) (λnx=>?hf)]
 case hs=>
  simp only[ns]
  rw[lE,bz hi,ak]
  simp only[ah,ab,fX];rfl
 case hf=>
  simp only[ns]
  rw[cW]
  simp only[af]
  rw[px (hit:=some false) (fin:=some true) (λx:Slot=> !(decide (x.2.2>=q))) s.2.1 (by omega) (λi hi nx=>?hs) (λnx=>?hf)]
  case hs=>
   simp only[nt]
   rw[lE,bz hi,ak]
   simp only[ah,ab,fX];rfl
  case hf=>
   simp only[nt]
   rw[cW];rfl
 cases wc s.1<;>cases nu s.2.1<;>cases qm s.2.2 q<;>cases s.1.all (λr=> !(decide (r.2.2.2.2.2.2.2.2>=q)))<;>cases s.2.1.all (λx=> !(decide (x.2.2>=q)))<;>rfl
theorem Fc (s:dc)(q:Int)(h1:s.1.length<=10^9)(h2:s.2.1.length<=10^9)(h3:s.2.2.2.length<=10^9):nE s q=some (fe s q):=by
 unfold nE fe;simp only[Mz _ h1,MD,JU _ _ h3,ab,bX];rw[px (hit:=some false) (fin:=cond (s.2.1.all (λx=> !((x.1==1)&&decide (x.2.2>=q)))) (some true) (some false)) (λr:jz=> !((r.2.2.2.2.2.2.2.1==0)&&decide (r.2.2.2.2.2.2.2.2>=q))) s.1 (by omega) (λi hi nx=>?hs) (λnx=>?hf)]
 case hs=>
  simp only[nb]
  rw[lE,bz hi,ak]
  simp only[ah,ab,fX,bX]
  cases (s.1[i].2.2.2.2.2.2.2.1==0)<;>rfl
 case hf=>
  simp only[nb]
  rw[cW]
  simp only[af]
  rw[px (hit:=some false) (fin:=some true) (λx:Slot=> !((x.1==1)&&decide (x.2.2>=q))) s.2.1 (by omega) (λi hi nx=>?hs) (λnx=>?hf)]
  case hs=>
   simp only[lQ]
   rw[lE,bz hi,ak]
   simp only[ah,ab,fX,bX]
   cases (s.2.1[i].1==1)<;>rfl
  case hf=>
   simp only[lQ]
   rw[cW];rfl
 cases hr:wc s.1 with
 |false=>rfl
 |true=>
  cases ht:nu s.2.1 with
  |false=>rfl
  |true=>
   cases hs:qm s.2.2 q with
   |false=>rfl
   |true=>
    have hq:1<=q:=by unfold qm at hs;simp only[ae,bf]at hs;exact hs.1.1.1.1
    have e1:s.1.all (λr=> !((r.2.2.2.2.2.2.2.1==0)&&decide (r.2.2.2.2.2.2.2.2>=q)))=s.1.all (λr=> !(decide (r.2.2.2.2.2.2.2.2>=q))):=by unfold wc at hr;simp only[ae,aI]at hr;rw[dC,aI,aI];refine forall_congr' λr=>forall_congr' λhm=>?_;rcases RQ (hr.1 r hm)with h0|h0;rw[h0];simp;rw[h0];simp only[ar (show¬(0:Int)>=q by omega),fz]
    have e2:s.2.1.all (λx=> !((x.1==1)&&decide (x.2.2>=q)))=s.2.1.all (λx=> !(decide (x.2.2>=q))):=by unfold nu at ht;simp only[ae,aI,ch,bc]at ht;rw[dC,aI,aI];refine forall_congr' λx=>forall_congr' λhm=>?_;obtain⟨i,hi,rfl⟩:=List.mem_iff_getElem.1 hm;have hsl:=ht.2 i (by omega);unfold mE M7 at hsl;rw[uv hi]at hsl;simp only[ae,cz,bc]at hsl;rcases hsl.1.2 with h0|⟨h0,_⟩;rw[h0];simp;rw[h0];simp only[ar (show¬(0:Int)>=q by omega),fz]
    rw[e1,e2];cases s.1.all (λr=> !(decide (r.2.2.2.2.2.2.2.2>=q)))<;>cases s.2.1.all (λx=> !(decide (x.2.2>=q)))<;>rfl
theorem gW (h:n<9223372036854775808:=by omega):aq (n:Int)=(n:Int):=ak
theorem F4 (h:n<4294967296:=by omega):IntKind.wrap .u32 (n:Int)=(n:Int):=by simp only[aq,fS,IntKind.wrap,IntKind.bits,IntKind.signed];simp;omega
theorem lL (b:UInt8):b.toNat<256:=b.toNat_lt
def bN (v:Int):Bytes:=(de v).getD []
theorem nn (v:Int):de v=some (bN v):=by
 unfold bN;have:∃x,de v=some x:=by simp only[de,ed,ab];cases dk v 0 65535<;>exact⟨_,rfl⟩
 obtain⟨x,hx⟩:=this;rw[hx];rfl
theorem kh (v:Int):bR v=some (bN v):=nn v
theorem Ek (v:Int):(bN v).length=bif dk v 0 65535 then 2 else 0:=by have h:=nn v;simp only[de,ed,ab]at h;cases hb:dk v 0 65535<;>rw[hb]at h<;>(rw[<-dm h];rfl)
theorem bD (v:Int):(bN v).length<=2:=by rw[Ek];cases dk v 0 65535<;>simp
def iM (v:Int):Bytes:=(fN v).getD []
theorem pn (v:Int):fN v=some (iM v):=by
 unfold iM;have:∃x,fN v=some x:=by simp only[fN,ed,ab];cases dk v 0 4294967295<;>exact⟨_,rfl⟩
 obtain⟨x,hx⟩:=this;rw[hx];rfl
theorem xN (v:Int):fU v=some (iM v):=pn v
theorem K4 (v:Int):(iM v).length=bif dk v 0 4294967295 then 4 else 0:=by have h:=pn v;simp only[fN,ed,ab]at h;cases hb:dk v 0 4294967295<;>rw[hb]at h<;>(rw[<-dm h];rfl)
theorem ef (v:Int):(iM v).length<=4:=by rw[K4];cases dk v 0 4294967295<;>simp
def bH (s:Bytes)(i:Nat):Nat:=(s.getD i 0).toNat
theorem eo (s:Bytes)(i:Nat):bH s i<256:=lL _
theorem kT (h:i<s.length:=by omega):∃x,idx s (i:Int)=some x/\x.toNat=bH s i:=⟨s[i],bz h,by rw[bH,dg h]⟩
def eQ (s:Bytes)(a n:Int):Bool:=decide (0<=a/\a+n<=(s.length:Int))
theorem Cf (s:Bytes)(a n:Int)(h:s.length<=10^9)(hn:0<=n:=by omega):mJ s a n=some (eQ s a n):=by
 unfold mJ eQ;by_cases h0:0<=a;by_cases h1:a<=(s.length:Int)
 rw[au (show a>=0 from h0),au h1,ak];simp only[ah,ab];congr 1;rw[decide_eq_decide];omega;rw[au (show a>=0 from h0),ar h1,ar (show¬(0<=a/\a+n<=(s.length:Int)) by omega)];rfl;rw[ar (show¬a>=0 from h0),ar (show¬(0<=a/\a+n<=(s.length:Int)) by omega)];rfl
def cd (s:Bytes)(a:Int):Int:=bif eQ s a 2 then((bH s a.toNat*256+bH s (a.toNat+1):Nat):Int) else-1
def fA (s:Bytes)(a:Int):Int:=bif eQ s a 4 then(((bH s a.toNat*256+bH s (a.toNat+1))*65536+(bH s (a.toNat+2)*256+bH s (a.toNat+3)):Nat):Int) else-1
theorem zM (s:Bytes)(a:Int)(h:s.length<=10^9):gL s a=some (cd s a):=by unfold gL cd;rw[Cf s a 2 h,ab];cases hw:eQ s a 2 with|false=>rfl|true=>simp only[eQ,aC]at hw;obtain⟨n,rfl⟩:=aV hw.1;obtain⟨x,hx,ex⟩:=kT (s:=s) (i:=n);obtain⟨y,hy,ey⟩:=kT (s:=s) (i:=n+1);have hxl:=eo s n;have hyl:=eo s (n+1);rw[ak (n:=(n:Int)+1),hx,show(n:Int)+1=((n+1:Nat):Int) by omega,hy];simp only[aj,af,ab,az,ah];rw[lF,ex,ey,gW,gW];have e8:nW 8=8:=rfl;rw[e8,ak (n:=((bH s n:Nat):Int)*2^8),ak];congr 1;all_goals omega
theorem G8 (s:Bytes)(a:Int)(h:s.length<=10^9):nq s a=some (fA s a):=by
 unfold nq fA;rw[Cf s a 4 h,ab];cases hw:eQ s a 4 with
 |false=>rfl
 |true=>
  simp only[eQ,aC]at hw;obtain⟨n,rfl⟩:=aV hw.1;have w1:eQ s (n:Int) 2=true:=by simp only[eQ,aC];omega
  have w2:eQ s ((n:Int)+2) 2=true:=by simp only[eQ,aC];omega
  have b0:=eo s n;have b1:=eo s (n+1);have b2:=eo s (n+2);have b3:=eo s (n+3);rw[ak (n:=(n:Int)+2),zM s _ h,zM s _ h];simp only[aj,af,ab,ah,cd,w1,w2,az];rw[lF,show((n:Int)+2).toNat=n+2 by omega,show n+2+1=n+3 by omega];have e8:nW 16=16:=rfl;rw[e8,ak (n:=((bH s n*256+bH s (n+1):Nat):Int)*2^16),ak];congr 1;all_goals omega
theorem amh (a b:Nat)(ha:a<9223372036854775808)(hb:b<9223372036854775808):toNat (fY (a:Int)|||fY (b:Int))=a|||b:=by show(BitVec.ofInt 64 (a:Int)|||BitVec.ofInt 64 (b:Int)).toNat=_;rw[dv,dv,BitVec.toNat_or,dG,dG,dL (by omega),dL (by omega)]
theorem aea (a b:Nat)(ha:a<9223372036854775808:=by omega)(hb:b<9223372036854775808:=by omega):toNat (fY (a:Int)&&&fY (b:Int))=a&&&b:=by show(BitVec.ofInt 64 (a:Int)&&&BitVec.ofInt 64 (b:Int)).toNat=_;rw[dv,dv,BitVec.toNat_and,dG,dG,dL (by omega),dL (by omega)]
theorem acA (a b:Nat)(ha:a<9223372036854775808)(hb:b<9223372036854775808):toNat (fY (a:Int)^^^fY (b:Int))=a^^^b:=by show(BitVec.ofInt 64 (a:Int)^^^BitVec.ofInt 64 (b:Int)).toNat=_;rw[dv,dv,BitVec.toNat_xor,dG,dG,dL (by omega),dL (by omega)]
theorem ag3 (a b:Nat)(ha:a<4294967296)(hb:b<4294967296):toNat (BitVec.ofInt (IntKind.bits .u32) (a:Int)&&&BitVec.ofInt (IntKind.bits .u32) (b:Int))=a&&&b:=by show(BitVec.ofInt 32 (a:Int)&&&BitVec.ofInt 32 (b:Int)).toNat=_;rw[dv,dv,BitVec.toNat_and,dG,dG,dL (by omega),dL (by omega)]
theorem aeN (a b:Nat)(ha:a<4294967296)(hb:b<4294967296):toNat (BitVec.ofInt (IntKind.bits .u32) (a:Int)^^^BitVec.ofInt (IntKind.bits .u32) (b:Int))=a^^^b:=by show(BitVec.ofInt 32 (a:Int)^^^BitVec.ofInt 32 (b:Int)).toNat=_;rw[dv,dv,BitVec.toNat_xor,dG,dG,dL (by omega),dL (by omega)]
theorem D7 (x k y:Nat)(hy:y<2^k:=by omega)(h:2^k*x+y<9223372036854775808:=by omega):aq (toNat (fY ((2^k*x:Nat):Int)|||fY (y:Int)):Int)=((2^k*x+y:Nat):Int):=by rw[amh _ _ (by omega) (by omega),<-Nat.two_pow_add_eq_or_of_lt hy];exact gW h
theorem H5 (s:Bytes)(a n:Int):(cond (decide (a<0)) (some true) (some (decide (a>(s.length:Int)-n))))=some (!eQ s a n):=by cases hw:eQ s a n with|true=>simp only[eQ,aC]at hw;rw[ar (show¬a<0 by omega),ar (show¬a>(s.length:Int)-n by omega)];rfl|false=>simp only[eQ,cM]at hw;by_cases h0:a<0;rw[au h0];rfl;rw[ar h0,au (show a>(s.length:Int)-n by omega)];rfl
theorem ue (s:Bytes)(a:Int)(h:s.length<=10^9):eR s a=some (cd s a):=by unfold eR cd;rw[ak (n:=(s.length:Int)-2)];rw[H5,ab];cases hw:eQ s a 2 with|false=>rfl|true=>simp only[eQ,aC]at hw;obtain⟨n,rfl⟩:=aV hw.1;obtain⟨x,hx,ex⟩:=kT (s:=s) (i:=n);obtain⟨y,hy,ey⟩:=kT (s:=s) (i:=n+1);have hxl:=eo s n;have hyl:=eo s (n+1);rw[ak (n:=(n:Int)+1),hx,show(n:Int)+1=((n+1:Nat):Int) by omega,hy];simp only[aj,af,ah,ab,az];rw[lF,ex,ey,gW (n:=bH s n),gW (n:=bH s (n+1))];have e8:nW 8=8:=rfl;rw[e8,show((bH s n:Nat):Int)*2^8=((2^8*bH s n:Nat):Int) by omega,gW (n:=2^8*bH s n),D7 (bH s n) 8 (bH s (n+1))];congr 1;all_goals omega
theorem xq (s:Bytes)(a:Int)(h:s.length<=10^9):ig s a=some (fA s a):=by
 unfold ig fA;rw[ak (n:=(s.length:Int)-4)];rw[H5,ab];cases hw:eQ s a 4 with
 |false=>rfl
 |true=>
  simp only[eQ,aC]at hw;obtain⟨n,rfl⟩:=aV hw.1;obtain⟨x0,h0,e0⟩:=kT (s:=s) (i:=n);obtain⟨x1,h1,e1⟩:=kT (s:=s) (i:=n+1);obtain⟨x2,h2,e2⟩:=kT (s:=s) (i:=n+2);obtain⟨x3,h3,e3⟩:=kT (s:=s) (i:=n+3);have b0:=eo s n;have b1:=eo s (n+1);have b2:=eo s (n+2);have b3:=eo s (n+3)
  rw[ak (n:=(n:Int)+1),ak (n:=(n:Int)+2),ak (n:=(n:Int)+3),h0,show(n:Int)+1=((n+1:Nat):Int) by omega,h1,
   show(n:Int)+2=((n+2:Nat):Int) by omega,h2,show(n:Int)+3=((n+3:Nat):Int) by omega,h3]
  simp only[aj,af,ah,ab,az];rw[lF,lF,lF,e0,e1,e2,e3];generalize bH s n=p0 at*;generalize bH s (n+1)=p1 at*;generalize bH s (n+2)=p2 at*;generalize bH s (n+3)=p3 at*;have f24:nW 24=24:=rfl;have f16:nW 16=16:=rfl;have f8:nW 8=8:=rfl
  rw[gW (n:=p0),gW (n:=p1),gW (n:=p2),gW (n:=p3),f24,f16,f8,
   show((p0:Nat):Int)*2^24=((2^24*p0:Nat):Int) by omega,show((p1:Nat):Int)*2^16=((2^16*p1:Nat):Int) by omega,show((p2:Nat):Int)*2^8=((2^8*p2:Nat):Int) by omega,
   gW (n:=2^24*p0),gW (n:=2^16*p1),gW (n:=2^8*p2),D7 p0 24 (2^16*p1),
   show 2^24*p0+2^16*p1=2^16*(2^8*p0+p1) by omega,D7 _ 16 (2^8*p2),
   show 2^16*(2^8*p0+p1)+2^8*p2=2^8*(2^8*(2^8*p0+p1)+p2) by omega,D7 _ 8 p3]
  congr 1;all_goals omega
def DL (c:Nat):Nat:=if c%2=1 then(c/2)^^^3988292384 else c/2
def sy:Nat->Nat->Nat
 |0,c=>c
 |n+1,c=>DL (sy n c)
def ak1 (c:Nat)(s:Bytes):Nat:=s.foldl (λc b=>sy 8 (c^^^b.toNat)) c
def ZM (s:Bytes):Int:=4294967295-(ak1 4294967295 s:Int)
theorem AJ {b:Nat}(ha:a<4294967296:=by omega)(hb:b<4294967296:=by omega):a^^^b<4294967296:=Nat.xor_lt_two_pow (n:=32) ha hb
theorem WL (h:c<4294967296):DL c<4294967296:=by unfold DL;split;exact AJ;omega
theorem EH (h:c<4294967296):∀n,sy n c<4294967296
 |0=>h
 |n+1=>WL (EH h n)
theorem abQ (k0:Int->Int->ay R)(k:Int->ay R)(hk:∀x y,k0 x y=k x)(v0:Bytes)(v4:Int)(c:Nat)(h:c<4294967296):aW (oe k0 v0 v4) fuel ((c:Int),0)=k (sy 8 c:Int):=by
 have Ab:=dR
 have key:=Fm (T:=oe k0 v0 v4) 8 (λ(_:Unit) i=>((sy i c:Int),(i:Int))) (λ_ s nx=>nx s) (λ_=>k (sy 8 c:Int))
  (λi s nx hi=>by
   have hc:=EH h i;simp only[oe];have a1:=aea (sy i c) 1;have x1:=acA (sy i c/2) 3988292384 (by omega) (by omega);simp only[Int.natCast_one]at a1
   rw[lE,ah,a1,Nat.and_one_is_mod,
    show nW 1=1 from rfl,show fdiv ((sy i c:Nat):Int) (2^1)=((sy i c/2:Nat):Int) from by rw[Int.fdiv_eq_ediv_of_nonneg _ (by omega)];rfl,
    show(3988292384:Int)=((3988292384:Nat):Int) from rfl,x1,
    gW (n:=sy i c%2),gW (n:=(sy i c/2)^^^3988292384) (by have:=AJ (a:=sy i c/2) (b:=3988292384);omega),lF,lF,ak (n:=(i:Int)+1)]
   show _=nx ((DL (sy i c):Int),((i+1:Nat):Int));unfold DL;by_cases hp:sy i c%2=1;rw[hp,aF rfl];rfl;have h0:sy i c%2=0:=by omega
   rw[h0,lF];rfl)
  (λs nx=>by simp only[oe];rw[cW,af,hk])
  fuel 0 () (by omega) (by omega)
 refine key.trans ?_;rfl
theorem aaT (k0:Int->Int->ay R)(k:Int->ay R)(hk:∀x y,k0 x y=k x)(v0:Bytes)(v4:Int)(c:Nat)(h:c<4294967296):aW (nZ k0 v0 v4) fuel ((c:Int),0)=k (sy 8 c:Int):=by
 have Ab:=dR
 have key:=Fm (T:=nZ k0 v0 v4) 8 (λ(_:Unit) i=>((sy i c:Int),(i:Int))) (λ_ s nx=>nx s) (λ_=>k (sy 8 c:Int))
  (λi s nx hi=>by
   have hc:=EH h i;simp only[nZ];have a1:=ag3 (sy i c) 1 (by omega) (by omega);have x1:=aeN (sy i c/2) 3988292384 (by omega) (by omega);simp only[Int.natCast_one]at a1
   rw[lE,ah,a1,Nat.and_one_is_mod,
    show min (Int.toNat 1) (IntKind.bits .u32)=1 from rfl,show fdiv ((sy i c:Nat):Int) (2^1)=((sy i c/2:Nat):Int) from by rw[Int.fdiv_eq_ediv_of_nonneg _ (by omega)];rfl,
    show(3988292384:Int)=((3988292384:Nat):Int) from rfl,x1,
    F4 (n:=sy i c%2),F4 (n:=(sy i c/2)^^^3988292384) (AJ),lF,ak (n:=(i:Int)+1)]
   show _=nx ((DL (sy i c):Int),((i+1:Nat):Int));unfold DL;by_cases hp:sy i c%2=1;rw[hp,aF rfl];rfl;have h0:sy i c%2=0:=by omega
   rw[h0,lF];rfl)
  (λs nx=>by simp only[nZ];rw[cW,af,hk])
  fuel 0 () (by omega) (by omega)
 refine key.trans ?_;rfl
theorem adL (s:Bytes)(h:s.length<=10^9):AA s=some (ZM s):=by
 unfold AA;have:=FF (T:=qS (λ(y4:Int) (_:Int)=>some (aq (4294967295-y4))) s) s (λ(c:Nat) i=>((c:Int),(i:Int))) (λ_ c=>c<4294967296) (λb c=> .ok (sy 8 (c^^^b.toNat))) (λc=>some (4294967295-(c:Int))) (by omega) (λi hi c nx hI=>?hs) (λi hi c c' hI hg=>?hn) (λc nx hI=>?hf) 4294967295 (by omega)
 case hs=>
  have hb:=lL s[i]
  simp only[qS]
  rw[lE,bz hi,ah,ab,gW (n:=s[i].toNat),acA c s[i].toNat (by omega) (by omega)]
  have hx:=AJ hI (show s[i].toNat<4294967296 by omega)
  rw[gW,abQ _ (λy=>nx (y,(i:Int)+1)) (λx y=>by rw[ak]) _ _ _ hx];rfl
 case hn=>
  cases hg
  exact EH (AJ hI (by have:=lL s[i];omega)) 8
 case hf=>
  simp only[qS]
  rw[cW,af,ak]
 rw[IH]at this;exact this
theorem not_xor (c:Nat)(h:c<4294967296):toNat (BitVec.ofInt (IntKind.bits .u32) (IntKind.max .u32)^^^BitVec.ofInt (IntKind.bits .u32) (c:Int))=4294967295-c:=by show(BitVec.ofInt 32 4294967295^^^BitVec.ofInt 32 (c:Int)).toNat=_;rw[show BitVec.ofInt 32 4294967295=BitVec.allOnes 32 by decide,dv,BitVec.allOnes_xor,BitVec.toNat_not,dG,dL (show c<2^32 by omega)]
theorem ac9 (s:Bytes)(h:s.length<=10^9):Ai s=some (ZM s):=by
 unfold Ai;have:=FF (T:=qE (λ(y4:Int) (_:Int)=>some (aq (IntKind.wrap .u32 (toNat (BitVec.ofInt (IntKind.bits .u32) (IntKind.max .u32)^^^BitVec.ofInt (IntKind.bits .u32) y4))))) s) s (λ(c:Nat) i=>((c:Int),(i:Int))) (λ_ c=>c<4294967296) (λb c=> .ok (sy 8 (c^^^b.toNat))) (λc=>some (4294967295-(c:Int))) (by omega) (λi hi c nx hI=>?hs) (λi hi c c' hI hg=>?hn) (λc nx hI=>?hf) 4294967295 (by omega)
 case hs=>
  have hb:=lL s[i]
  simp only[qE]
  rw[lE,bz hi,ah,ab,F4 (n:=s[i].toNat),aeN c s[i].toNat (by omega) (by omega)]
  have hx:=AJ hI (show s[i].toNat<4294967296 by omega)
  rw[F4 hx,aaT _ (λy=>nx (y,(i:Int)+1)) (λx y=>by rw[ak]) _ _ _ hx];rfl
 case hn=>
  cases hg
  exact EH (AJ hI (by have:=lL s[i];omega)) 8
 case hf=>
  simp only[qE]
  rw[cW,af,not_xor c hI,F4,gW]
  congr 1
  all_goals omega
 rw[IH]at this;exact this
def SR (s:Bytes)(i:Nat):Nat:=bH s (i/8)/2^(7-i%8)%2
theorem Ns (s:Bytes)(i:Nat):SR s i<2:=Nat.mod_lt _ (by omega)
theorem ZG (b k:Nat)(hb:b<256)(hk:k<=7):aq (toNat (fY (aq (fdiv (b:Int) ((2^k:Nat):Int)))&&&fY 1))=((b/2^k%2:Nat):Int):=by have e:fdiv (b:Int) ((2^k:Nat):Int)=((b/2^k:Nat):Int):=(Int.ofNat_fdiv b (2^k)).symm;have h1:b/2^k<=b:=Nat.div_le_self _ _;rw[e,gW (n:=b/2^k)];have:=aea (b/2^k) 1;rw[show((1:Nat):Int)=1 from rfl]at this;rw[this,Nat.and_one_is_mod];exact gW
theorem VU (s:Bytes)(i:Nat)(hi:i/8<s.length:=by omega)(h:s.length<=10^9:=by omega):vC s (i:Int)=some ((SR s i:Nat):Int):=by
 have e1:Int.tdiv (i:Int) 8=((i/8:Nat):Int):=(Int.ofNat_tdiv i 8).symm;have e2:tmod (i:Int) 8=((i%8:Nat):Int):=(Int.ofNat_tmod i 8).symm;unfold vC;rw[lF,e1,ak (n:=((i/8:Nat):Int)),bz hi,ab,lF,e2,ak (n:=7-((i%8:Nat):Int)),lF];have e3:(2:Int)^(min (Int.toNat (7-((i%8:Nat):Int))) (IntKind.bits .u8))=((2^(7-i%8):Nat):Int):=by rw[show min (Int.toNat (7-((i%8:Nat):Int))) (IntKind.bits .u8)=7-i%8 from by show min _ 8=_;omega];push_cast;rfl
 rw[e3,ZG _ _ (lL _) (by omega),SR,bH,dg hi]
def win (s:Bytes)(a:Nat):Nat->Nat
 |0=>0
 |j+1=>2*win s a j+SR s (a+j)
theorem acz (s:Bytes)(a:Nat):∀j,win s a j<2^j
 |0=>by simp[win]
 |j+1=>by have:=acz s a j;have:=Ns s (a+j);rw[win,Nat.pow_succ];omega
theorem Vg (s:Bytes)(a j:Nat)(hj:j<=32:=by omega):win s a j<4294967296:=Nat.lt_of_lt_of_le (acz s a j) (Nat.pow_le_pow_right (n:=2) (by omega) hj)
def ad2 (s:Bytes)(a:Int):Int:=bif ((s.length:Int) !=16)|| !dk a 0 96 then-1 else((win s a.toNat 32:Nat):Int)
theorem adk (s:Bytes)(a:Int):sT s a=some (ad2 s a):=by
 unfold sT ad2;rw[dh];cases hs:(s.length:Int) !=16;case true=>rfl
 cases ha:dk a 0 96;rfl;have h1:=bf.1 ha;have h2:s.length=16:=by simp at hs;omega
 obtain⟨a,rfl⟩:=aV h1.1;simp only[af,ab,aj,bS,az];refine ew (λi=>(((win s a i:Nat):Int),((a+i:Nat):Int))) 32 (by omega) (λi nx hi=>?_) (λnx=>?_);have hw:=Vg s a i;have hb:=Ns s (a+i);simp only[oC];rw[ak (n:=(a:Int)+32),lE,ah,lF,VU s (a+i),ab,ak (n:=((a+i:Nat):Int)+1)];have e1:aq (((win s a i:Nat):Int)*2^(nW 1))=((2^1*win s a i:Nat):Int):=by have:(2:Int)^(nW 1)=2:=rfl;rw[this,ak];omega
 rw[e1,D7 _ _ _];rw[show(((a+i:Nat):Int)+1)=((a+(i+1):Nat):Int) by omega];rfl;simp only[oC];rw[ak (n:=(a:Int)+32),cW];rfl
def Hs (s v:Bytes):Nat->Nat
 |0=>0
 |i+1=>if SR v i=1 then Hs s v i^^^win s i 32 else Hs s v i
theorem Qo (s v:Bytes):∀i,Hs s v i<4294967296
 |0=>by simp[Hs]
 |i+1=>by have:=Qo s v i;rw[Hs];split;exact AJ this (Vg s i 32);exact this
def xG (s v:Bytes):Int:=bif ((s.length:Int) !=16)||decide ((v.length:Int)>12) then-1 else((Hs s v (8*v.length):Nat):Int)
theorem aaV (s v:Bytes):sP s v=some (xG s v):=by
 unfold sP xG;cases hs:(s.length:Int) !=16;case true=>rfl
 cases hv:decide ((v.length:Int)>12);case true=>rfl
 have h2:s.length=16:=by simp at hs;omega
 have h3:v.length<=12:=by simp at hv;omega
 simp only[af,ab,bS];refine ew (λi=>(((Hs s v i:Nat):Int),(i:Int))) (8*v.length) (by omega) (λi nx hi=>?_) (λnx=>?_);have hw:=Vg s i 32;have hh:=Qo s v i;have hb:=Ns v i;have eW:ad2 s (i:Int)=((win s i 32:Nat):Int):=by unfold ad2;rw[hs,bf.2 (show(0:Int)<=(i:Int)/\(i:Int)<=96 by omega)];rfl
 simp only[oy];rw[ak (n:=8*(v.length:Int)),lE,ah,VU v i,ab,adk,ab,eW,acA _ _ (by omega) (by omega),ak (n:=(i:Int)+1),gW (Nat.lt_trans (AJ hh hw) (by omega)),Hs];by_cases h1:SR v i=1;rw[h1,aF rfl];rfl;rw[aG h1,show(((SR v i:Nat):Int)==1)=false from by simp;omega];rfl;simp only[oy];rw[ak (n:=8*(v.length:Int)),cW];rfl
def sK (f:DE):Bytes:=((iM f.2.1++iM f.2.2.1)++bN f.2.2.2.1)++bN f.2.2.2.2
theorem TW (f:DE):sQ f=some (sK f):=by have:=ef f.2.1;have:=ef f.2.2.1;have:=bD f.2.2.2.1;have:=bD f.2.2.2.2;simp only[sQ,xN,kh,ab];rw[aR,aR (by simp only[ai];omega),aR (by simp only[ai];omega)];rfl
theorem E6 (s:Bytes)(f:DE):qG s f=some (xG s (sK f)):=by simp only[qG,TW,aaV,ab]
def zV (s:lp)(f:DE):Int:=bif ((s.2.length:Int)==0)||decide (xG s.1 (sK f)<0) then-1 else tmod (xG s.1 (sK f)) (s.2.length:Int)
theorem Xk (s:lp)(f:DE):wJ s f=some (zV s f):=by
 unfold wJ zV;rw[E6,ab];cases h0:(s.2.length:Int)==0;case true=>rfl
 cases decide (xG s.1 (sK f)<0);case true=>rfl
 simp only[af,ab,bS];rw[aG (by simpa using h0)]
theorem Mc (s:lp)(f:DE)(h:¬zV s f<0):∃n:Nat,zV s f=(n:Int)/\n<s.2.length:=by
 unfold zV at h⊢;cases hc:((s.2.length:Int)==0)||decide (xG s.1 (sK f)<0)with
 |true=>rw[hc]at h;simp at h
 |false=>
  rw[hc]at h;simp only[cc,cI,cM]at hc;simp only[af]at h⊢;have h1:0<=xG s.1 (sK f):=by omega
  rw[cv h1]at h⊢;have:=eH (xG s.1 (sK f)) (show(0:Int)<s.2.length by omega);obtain⟨n,hn⟩:=aV (show 0<=xG s.1 (sK f)%(s.2.length:Int) by omega);exact⟨n,hn,by omega⟩
def IJ (s:lp)(q:Int)(f:DE):Int:=bif !qm s q||decide (zV s f<0) then-1 else s.2.getD (zV s f).toNat 0
theorem QT (s:lp)(q:Int)(f:DE)(h:s.2.length<=10^9):pM s q f=some (IJ s q f):=by
 unfold pM IJ;rw[Xk,ab,JU s q h,ab];cases qm s q;rfl;have rP:=Mc s f;cases hd:decide (zV s f<0);case true=>rfl
 obtain⟨n,hn,hl⟩:=rP (fi hd);simp only[aj,af,ab,bS,hn,bz hl,az,dg hl]
theorem Nh (t:aw Slot)(f:DE)(h:∀j,j<8->nU (fO t j) f=false):∀n k,walk t f n k= -1
 |0,_=>rfl
 |n+1,k=>by unfold walk;rw[h _ (C0 f k),Nh t f h n (k+1)];split<;>rfl
theorem Hn (f:DE):∀(t:aw Slot)(m:Int),(∀s∈t,nU s f=false)->vW f t m= -1
 |[],_,_=>rfl
 |s::r,m,h=>by unfold vW;rw[h s (by simp)];exact Hn f r (m+1) (λx hx=>h x (by simp[hx]))
theorem Tz (t:aw Slot)(f:DE)(h:nu t=true):vW f t 0=walk t f 8 0:=by simp only[nu,ae,bc,aI,ch]at h;obtain⟨h8,hs⟩:=h;by_cases hex:∃j,j<t.length/\nU (fO t j) f=true;obtain⟨j,hj,hu,e⟩:=Bz f t 0 hex;have:=hs j (by omega);simp only[mE,ae,cz,aL,bc]at this;simp only[nU,ae,bc,aC]at hu;rcases this.2 with g|g;rw[hu.1]at g;simp at g;rw[hu.2]at g;rw[show((0:Int))=((0:Nat):Int) from rfl,e,g];omega;have hn:∀j,j<t.length->nU (fO t j) f=false:=λj hj=>Bool.eq_false_iff.2 λhu=>hex ⟨j,hj,hu⟩;rw[Nh t f (λj hj=>hn j (by omega)),Hn];intro s vZ;obtain⟨j,hj,rfl⟩:=List.getElem_of_mem vZ;have:=hn j hj;rwa[uv hj]at this
def findF (t:aw Slot)(f:DE):Int:=bif nu t then walk t f 8 0 else-1
theorem Oo (t:aw Slot)(f:DE)(h:t.length<=10^9):uL t f=some (findF t f):=by unfold uL findF;rw[MD,ab];cases ht:nu t;rfl;simp only[aj,af,ah,QS t f h,ab,Tz t f ht]
theorem Wy (t:aw Slot)(f:DE):∀n k,walk t f n k= -1\/∃m:Nat,walk t f n k=(m:Int)/\m<8
 |0,_=> .inl rfl
 |n+1,k=>by unfold walk;split;exact .inl rfl;split;exact .inr ⟨_,rfl,C0 f k⟩;exact Wy t f n (k+1)
theorem P4 (t:aw Slot)(f:DE)(h:findF t f>=0):∃m:Nat,findF t f=(m:Int)/\m<t.length:=by
 unfold findF at h⊢;cases ht:nu t with
 |false=>rw[ht]at h;simp at h
 |true=>
  rw[ht]at h;simp only[ah]at h⊢;have h8:t.length=8:=by simp only[nu,ae,bc]at ht;exact ht.1
  rcases Wy t f 8 0 with g|⟨m,g,hm⟩;omega;exact⟨m,g,by omega⟩
def cB (m:bT):Bool:=m.all (λx=>(x.length:Int)==128)&&decide ((m.length:Int)<=64)
theorem Ea (m:bT)(h:m.length<=10^9):qV m=some (cB m):=by
 unfold qV cB;rw[px (hit:=some false) (fin:=some (decide ((m.length:Int)<=64))) (λx:Bytes=>(x.length:Int)==128) m (by omega) (λi hi nx=>?hs) (λnx=>?hf)]
 case hs=>
  simp only[qc]
  rw[lE,bz hi,ak];rfl
 case hf=>
  simp only[qc]
  rw[cW];rfl
 cases m.all (λx=>(x.length:Int)==128)<;>rfl
theorem D0 (m:bT)(h:m.length<=10^9):qH m=some (cB m):=Ea m h
def Ij:aA:=(0,0,0,false)
def GC (m:aA):Bool:=dk m.1 0 7&&(dk m.2.1 0 1023&&dk m.2.2.1 0 63)
def pe (d p:Int)(m:aA):Bool:=(m.1==d)&&(m.2.1==p)
def J8 (l:aw aA)(i:Nat):Bool:=GC (l.getD i Ij)&&(range i).all (λj=> !(pe (l.getD i Ij).1 (l.getD i Ij).2.1 (l.getD j Ij)))
def fw (l:aw aA):Bool:=decide ((l.length:Int)<=96)&&(range l.length).all (J8 l)
theorem O0 (l:aw aA)(h:l.length<=10^9):rC l=some (fw l):=by
 unfold rC fw;rw[py (hit:=some false) (fin:=some true) (J8 l) l.length (by omega) (λi nx hi=>?hs) (λnx=>?hf)]
 case hs=>
  simp only[nr]
  rw[lE,bz hi,ak]
  simp only[ah,ab,ed,bX]
  rw[py (hit:=some false) (fin:=nx ((i:Int)+1)) (λj=> !(pe l[i].1 l[i].2.1 (l.getD j Ij))) i (by omega) (λj nx hj=>?hs2) (λnx=>?Aa)]
  case hs2=>
   have hjl:j<l.length:=by omega
   simp only[lW]
   rw[lE,bz hjl,ak]
   simp only[ah,ab,bX,dg hjl,pe,cF,fX];rfl
  case Aa=>
   simp only[lW]
   rw[cW];rfl
  simp only[J8,GC,dg hi,cT]
  cases dk l[i].1 0 7<;>cases dk l[i].2.1 0 1023<;>cases dk l[i].2.2.1 0 63<;>cases (range i).all (λj=> !(pe l[i].1 l[i].2.1 (l.getD j Ij)))<;>rfl
 case hf=>
  simp only[nr]
  rw[cW];rfl
 have e:decide ((l.length:Int)>96)= !decide ((l.length:Int)<=96):=by rw[dC];simp
 rw[e];cases decide ((l.length:Int)<=96)<;>cases (range l.length).all (J8 l)<;>rfl
def Ru (l:aw aA)(d p:Int):Int:=match l.findIdx? (pe d p)with|some i=>(i:Int)|none=> -1
theorem QM (l:aw aA)(d p:Int)(h:l.length<=10^9):mu l d p=some (Ru l d p):=by
 unfold mu Ru;rw[CB (hit:=λi=>some i) (fin:=some (-1)) (pe d p) l (by omega) (λi hi nx=>?hs) (λnx=>?hf)]
 case hs=>
  simp only[lU]
  rw[lE,bz hi,ak]
  simp only[ah,ab,bX,cF,pe];rfl
 case hf=>
  simp only[lU]
  rw[cW];rfl
 cases l.findIdx? (pe d p)<;>rfl
theorem UB (l:aw aA)(i:Nat)(hi:i<l.length):(Ru l l[i].1 l[i].2.1==(i:Int))=(range i).all (λj=> !(pe l[i].1 l[i].2.1 (l.getD j Ij))):=by
 have yt:pe l[i].1 l[i].2.1 l[i]=true:=by simp[pe]
 unfold Ru;cases hq:l.findIdx? (pe l[i].1 l[i].2.1)with
 |none=>rw[List.findIdx?_eq_none_iff]at hq;rw[hq l[i] (bC hi)]at yt;cases yt
 |some k=>
  rw[List.findIdx?_eq_some_iff_getElem]at hq;obtain⟨hk,hpk,hG⟩:=hq;rw[dC,aI];simp only[ch,bc,aL];constructor;intro e j hj;have hjl:j<l.length:=by omega
  rw[dg hjl];have:=hG j (by omega);simpa using this;intro DV;rcases Nat.lt_trichotomy k i with Zj|Zj|Zj;have:=DV k Zj;rw[dg hk,hpk]at this;cases this;omega;have:=hG i Zj;rw[yt]at this;simp at this
theorem E7 (l:aw aA)(h:l.length<=10^9):nC l=some (fw l):=by
 unfold nC fw;rw[py (hit:=some false) (fin:=some (decide ((l.length:Int)<=96))) (J8 l) l.length (by omega) (λi nx hi=>?hs) (λnx=>?hf)]
 case hs=>
  simp only[mW]
  rw[lE,bz hi,ak]
  simp only[ah,ab,dh,bX,QM _ _ _ h,bne,UB l i hi,J8,GC,dg hi]
  cases dk l[i].1 0 7<;>cases dk l[i].2.1 0 1023<;>cases dk l[i].2.2.1 0 63<;>cases (range i).all (λj=> !(pe l[i].1 l[i].2.1 (l.getD j Ij)))<;>rfl
 case hf=>
  simp only[mW]
  rw[cW];rfl
 cases decide ((l.length:Int)<=96)<;>cases (range l.length).all (J8 l)<;>rfl
def BD (n:Int)(l:cP)(i:Nat):Bool:=dk (l.getD i 0) 0 (n-1)&& !((l.take i).contains (l.getD i 0))
def dw (p:df):Bool:=dk p.1 0 130944&&(dk p.2.1 1 512&&(dk p.2.2.1 0 16&&(range p.2.2.2.length).all (BD p.2.2.1 p.2.2.2)))
def Bb (n:Int)(l:cP):aw Bool:=(range n.toNat).map λk:Nat=>l.contains (k:Int)
theorem M6 (n:Int)(l:cP):(Bb n l).length=n.toNat:=by simp[Bb]
theorem CU (n:Int)(l:cP)(k:Nat)(h:k<(Bb n l).length):(Bb n l)[k]=l.contains (k:Int):=by simp[Bb]
theorem Yy (n:Int)(l:cP)(k:Nat)(h:k<n.toNat):(Bb n l).set k true=Bb n (l++[(k:Int)]):=by
 apply List.ext_getElem;simp[Bb];intro j h1 h2;rw[List.getElem_set];split;rename_i e;subst e;rw[CU];simp;rename_i e;rw[CU,CU];simp only[List.contains_append];have:([(k:Int)].contains (j:Int))=false:=by simp;omega
 rw[this];simp
theorem RA {T:(aw Bool×Int->ay Bool)->aw Bool×Int->ay Bool}(n:Int)(l:cP)(hl:l.length<=10^9)
 (hs:∀i (hi:i<l.length)(s:aw Bool) nx,T nx (s,(i:Int))=aa (cond (!(dk l[i] 0 (n-1))) (some true) (aa (idx s l[i]) λx=>some x)) λq=>
  cond q (some false) (aa (idx s l[i]) λ_=>aa (idx s l[i]) λ_=>nx (s.set l[i].toNat true,((i+1:Nat):Int)))) (hf:∀s nx,T nx (s,(l.length:Int))=some true):
 aW T fuel (List.replicate n.toNat false,0)=some ((range l.length).all (BD n l)):=by
 have e0:(List.replicate n.toNat false,(0:Int))=(Bb n (l.take 0),((0:Nat):Int)):=by congr 1;simp only[Bb,List.take_zero,List.contains_nil,List.map_const',List.length_range]
 rw[e0,LY (hit:=some false) (fin:=some true) (λi=>(Bb n (l.take i),(i:Int))) (BD n l) l.length (by omega) (λi nx hi hp=>?hs) (λ_ nx=>hf _ nx)]
 case hs=>
  rw[hs i hi]
  unfold BD
  rw[dg hi]
  by_cases rP:dk l[i] 0 (n-1)=true
  ·have hb:=rP
   rw[bf]at hb
   obtain⟨k,hk⟩:∃k:Nat,l[i]=(k:Int):=⟨l[i].toNat,by omega⟩
   have Zk:k<(Bb n (l.take i)).length:=by rw[M6];omega
   rw[rP,hk,bz Zk,CU]
   simp only[aj,af,ab,bF,fX,az]
   rw[Yy _ _ _ (by rw[M6]at Zk;exact Zk),<-hk,<-bG hi]
  ·have afk:dk l[i] 0 (n-1)=false:=by simpa using rP
   rw[afk];rfl
 cases (range l.length).all (BD n l)<;>rfl
theorem FM (p:df)(h:p.2.2.2.length<=10^9):sr p=some (dw p):=by
 unfold sr dw;simp only[ed,ab,bX];by_cases hn:dk p.2.2.1 0 16=true
 ·have hb:=hn;rw[bf]at hb;rw[zip,aR,RA p.2.2.1 p.2.2.2 h (λi hi s nx=>?hs) (λs nx=>?hf)]
  case hs=>
   simp only[tD]
   rw[lE,bz hi,ak (n:=(i:Int)+1),ak (n:=p.2.2.1-1)]
   simp only[ah,ab,ed];rfl
  case hf=>
   simp only[tD]
   rw[cW];rfl
  rw[hn];cases dk p.1 0 130944<;>cases dk p.2.1 1 512<;>rfl
 have AY:dk p.2.2.1 0 16=false:=by simpa using hn
 rw[AY];cases dk p.1 0 130944<;>cases dk p.2.1 1 512<;>rfl
theorem sM (p:df)(h:p.2.2.2.length<=10^9):iw p=some (dw p):=by
 unfold iw dw;simp only[dh,ab,bX];by_cases hn:dk p.2.2.1 0 16=true
 ·have hb:=hn;rw[bf]at hb;rw[zip,aR,RA p.2.2.1 p.2.2.2 h (λi hi s nx=>?hs) (λs nx=>?hf)]
  case hs=>
   simp only[sW]
   rw[lE,bz hi,ak (n:=(i:Int)+1),ak (n:=p.2.2.1-1)]
   simp only[ah,ab,dh];rfl
  case hf=>
   simp only[sW]
   rw[cW];rfl
  rw[hn];cases dk p.1 0 130944<;>cases dk p.2.1 1 512<;>rfl
 have AY:dk p.2.2.1 0 16=false:=by simpa using hn
 rw[AY];cases dk p.1 0 130944<;>cases dk p.2.1 1 512<;>rfl
def iK (n:Int):Bool:=(n==2)||((n==4)||((n==8)||(n==16)))
theorem D2 (n:Int):tM n=some (iK n):=by simp only[tM,bX,ab,iK,cT]
theorem B9 (n:Int):qN n=some (iK n):=D2 n
theorem gE {n:Int}:iK n=true↔n=2\/n=4\/n=8\/n=16:=by simp[iK]
theorem zQ (x:Int)(k:Nat)(hk:k<=64:=by omega):aq x%(2^k:Int)=x%(2^k:Int):=by
 obtain⟨c,hc⟩:∃c:Int,(18446744073709551616:Int)=2^k*c:=⟨2^(64-k),by rw[<-Int.pow_add,show k+(64-k)=64 by omega];rfl⟩
 have:aq x=x\/∃q:Int,aq x=x+18446744073709551616*q:=by
  right;simp only[aq,fS,IntKind.wrap,IntKind.bits,IntKind.signed];simp;have h1:x=x%18446744073709551616+18446744073709551616*(x/18446744073709551616):=by omega
  split;exact⟨-(x/18446744073709551616)-1,by omega⟩;exact⟨-(x/18446744073709551616),by omega⟩
 rcases this with h|⟨q,h⟩;rw[h];rw[h,hc,Int.mul_assoc,Int.add_mul_emod_self_left]
theorem Bj (x:Int)(k:Nat)(hk:k<63:=by omega):((fY x&&&fY (2^k-1)).toNat:Int)=x%2^k:=by
 have h2:(2:Int)^k<=2^62:=by have:(2:Nat)^k<=2^62:=Nat.pow_le_pow_right (by omega) (by omega);exact_mod_cast this
 have h0:(1:Int)<=2^k:=by have:1<=(2:Nat)^k:=Nat.one_le_two_pow;exact_mod_cast this
 have hm:(fY (2^k-1)).toNat=2^k-1:=by
  show(BitVec.ofInt 64 (2^k-1)).toNat=2^k-1;rw[BitVec.toNat_ofInt,Int.emod_eq_of_lt (by omega) (by omega)];have:((2:Int)^k-1)=((2^k-1:Nat):Int):=by have:1<=(2:Nat)^k:=Nat.one_le_two_pow;push_cast [this];rfl
  rw[this];rfl
 rw[BitVec.toNat_and,hm,Nat.and_two_pow_sub_one_eq_mod];show(((BitVec.ofInt 64 x).toNat%2^k:Nat):Int)=x%2^k;rw[BitVec.toNat_ofInt];have hx:0<=x%18446744073709551616:=by omega
 have e:(((x%18446744073709551616).toNat%2^k:Nat):Int)=(x%18446744073709551616)%2^k:=by push_cast;rw[Int.toNat_of_nonneg hx]
 refine e.trans ?_;exact Int.emod_emod_of_dvd x ⟨2^(64-k),by rw[<-Int.pow_add,show k+(64-k)=64 by omega];rfl⟩
theorem GH (x n:Int)(h0:0<n:=by omega)(h1:n<=4611686018427387904:=by omega):ix x n=some (x%n):=by
 unfold ix;have:=eE x (show n≠0 by omega);have:=eH x h0;have hn:(n.natAbs:Int)=n:=by omega
 rw[lF,Int.tmod_eq_emod];split;rw[cW];simp;rw[lE,ak];simp only[ah,hn];congr 1;omega
def bE (r:ln):Int:=if iK r.2.1 then(r.2.2.2-r.2.2.1)%(2*r.2.1) else 0
theorem Sa (r:ln):qY r=some (bE r):=by
 unfold qY bE;rw[D2,ab];cases hs:iK r.2.1 with
 |false=>rfl
 |true=>
  simp only[aj,af,bM];congr 1;rcases gE.1 hs with h|h|h|h<;>rw[h];have e:aq (aq (2*2)-1)=2^2-1:=by decide
  rw[e,Bj _ 2,zQ _ 2,ak];rfl;have e:aq (aq (2*4)-1)=2^3-1:=by decide
  rw[e,Bj _ 3,zQ _ 3,ak];rfl;have e:aq (aq (2*8)-1)=2^4-1:=by decide
  rw[e,Bj _ 4,zQ _ 4,ak];rfl;have e:aq (aq (2*16)-1)=2^5-1:=by decide
  rw[e,Bj _ 5,zQ _ 5,ak];rfl
theorem xL (r:ln):iT r=some (bE r):=by unfold iT bE;rw[B9,ab];cases hs:iK r.2.1 with|false=>rfl|true=>simp only[aj,af,bM];have hb:=gE.1 hs;rw[ak (n:=2*r.2.1)];have a1:=eE r.2.2.2 (show 2*r.2.1≠0 by omega);have a2:=eH r.2.2.2 (show 0<2*r.2.1 by omega);have a3:=eE r.2.2.1 (show 2*r.2.1≠0 by omega);have a4:=eH r.2.2.1 (show 0<2*r.2.1 by omega);simp only[GH _ (2*r.2.1) (show 0<2*r.2.1 by omega),ab];rw[ak,<-Int.sub_emod]
def cR (r:ln):Bool:=dk r.1 0 130944&&(iK r.2.1&&(dk r.2.2.1 0 (2*r.2.1-1)&&(dk r.2.2.2 0 (2*r.2.1-1)&&decide (bE r<=r.2.1))))
theorem xv {n:Int}(h:iK n=true):aq (aq (2*n)-1)=2*n-1:=by have:=gE.1 h;rw[ak (n:=2*n),ak]
theorem KL (r:ln):su r=some (cR r):=by unfold su cR;simp only[ed,D2,Sa,ab,bX,cF];cases hs:iK r.2.1 with|false=>rfl|true=>rw[xv hs]
theorem vz (r:ln):jg r=some (cR r):=by unfold jg cR;simp only[dh,B9,xL,ab,bX,cF];cases hs:iK r.2.1 with|false=>rfl|true=>rw[xv hs]
theorem Uc (p:df)(h:p.2.2.2.length<=10^9):xc p=some p:=by unfold xc;rw[aR (by simp;omega)];rfl
theorem jR (l:cP)(h:l.length<=10^9):fC l=some l:=by unfold fC;rw[aR (by simp;omega)];rfl
theorem sc (p:df)(h:p.2.2.2.length<=10^9):hZ p=some p:=by unfold hZ;rw[jR _ h];rfl
def gh (p:df)(l:cP):df:=(p.1,p.2.1,p.2.2.1,p.2.2.2++l)
def zn (p:df)(l:cP):Bool:=dw p&&dw (gh p l)
def DU (p:df)(l:cP):df×Bool:=bif zn p l then(gh p l,true) else(p,false)
theorem JR (p:df)(l:cP)(h:p.2.2.2.length+l.length<=10^9):fK p l=some (DU p l):=by unfold fK;rw[sc p (by omega),ab,aR,sM p (by omega)];rw[sM (p.1,p.2.1,p.2.2.1,p.2.2.2++l) (by simp;omega)];simp only[ab,bX,DU,zn];show _=some (bif dw p&&dw (p.1,p.2.1,p.2.2.1,p.2.2.2++l) then _ else _);cases dw p<;>cases dw (p.1,p.2.1,p.2.2.1,p.2.2.2++l)<;>rfl
theorem afa (p:df)(l:cP):(DU p l).2=zn p l:=by unfold DU;cases zn p l<;>rfl
def nm (n:Int)(s:lZ):Bool:=dk s.2.1 1 n&&dk s.1 0 65535
def bp (l:aw lZ):cP:=l.flatMap (·.2.2)
def dE (l:aw lZ):Int:=(l.map (·.2.1)).sum
def IM (t:dB):Bool:=cR t.1&&(dw t.2.1&&(dk t.2.2.2 0 65535&&(t.2.2.1.all (nm t.1.2.1)&&(zn t.2.1 (bp t.2.2.1)&&decide (dE t.2.2.1<=t.1.2.1)))))
theorem wD (n:Int):∀l:aw lZ,l.all (nm n)=true->0<=dE l
 |[],_=>by simp[dE]
 |x::l,h=>by simp only[bV,ae]at h;have:=wD n l h.2;have hx:=h.1;unfold nm at hx;simp only[ae,bf]at hx;simp only[dE,cD,List.sum_cons]at this⊢;omega
theorem MA (p:df)(n:Int)(hn:n<=16)(fin:Int×cP->ay Bool)(oO:∀s:Int×cP,p.2.2.2.length+s.2.length<=10^9->fin s=some (zn p s.2)):
 ∀(l:aw lZ)(left:Int)(acc:cP),0<=left->left<=n->p.2.2.2.length+(acc.length+(bp l).length)<=10^9->
 AR (λx (s:Int×cP) k=>cond (decide (x.2.1<1)||(decide (x.2.1>s.1)|| !(dk x.1 0 65535))) (some false) (room (s.2.length+x.2.2.length) (k (aq (s.1-x.2.1),s.2++x.2.2)))) fin l (left,acc)
  =some (l.all (nm n)&&(zn p (acc++bp l)&&decide (dE l<=left)))
 |[],left,acc,h0,h1,h2=>by rw[AR,oO _ (by simp[bp]at h2;exact h2)];simp[bp,dE,h0]
 |x::l,left,acc,h0,h1,h2=>by
  have hb:bp (x::l)=x.2.2++bp l:=by simp[bp]
  have hc:dE (x::l)=x.2.1+dE l:=by simp only[dE,cD,List.sum_cons]
  rw[hb,ai]at h2;rw[AR,bV,hb,hc];by_cases c1:x.2.1<1;have e:nm n x=false:=by unfold nm dk;rw[ar (show¬1<=x.2.1 by omega)];rfl
  rw[e,au c1];rfl;rw[ar c1];by_cases c2:x.2.1>left;rw[au c2];simp only[js,cC,iu,ah];cases ha:l.all (nm n)with|false=>simp|true=>have:=wD n l ha;rw[ar (show¬x.2.1+dE l<=left by omega)];simp
  rw[ar c2];have e:nm n x=dk x.1 0 65535:=by have:dk x.2.1 1 n=true:=bf.2 ⟨by omega,by omega⟩;unfold nm;rw[this];rfl
  rw[e];cases dk x.1 0 65535 with
  |false=>rfl
  |true=>
   simp only[cC,aj,af,bF];rw[aR,ak,MA p n hn fin oO l _ _ (by omega) (by omega) (by rw[ai];omega),aJ];have e:decide (dE l<=left-x.2.1)=decide (x.2.1+dE l<=left):=by rw[dC];simp;omega
   rw[e]
theorem T3 (t:dB)(h1:t.2.2.1.length<=10^9)(h2:t.2.1.2.2.2.length+(bp t.2.2.1).length<=10^9):xr t=some (IM t):=by
 unfold xr IM;simp only[vz,sM _ (show t.2.1.2.2.2.length<=10^9 by omega),dh,ab,bX];cases hr:cR t.1 with
 |false=>rfl
 |true=>
  have hn:0<=t.1.2.1/\t.1.2.1<=16:=by unfold cR at hr;simp only[ae]at hr;have:=gE.1 hr.2.1;omega
  have Ab:=dR;have key:=CP (R:=Bool) (T:=ta (λ(_:Int) (y9:cP) (_:Int)=>aa (fK t.2.1 y9) λvR=>some vR.2) (λ(Et:Bool) (_:Int) (_:cP) (_:Int)=>some Et) false t.2.2.1 ((List.length t.2.2.1:Int)) t) t.2.2.1 (λ(s:Int×cP) i=>(s.1,s.2,(i:Int))) (λx (s:Int×cP) k=>cond (decide (x.2.1<1)||(decide (x.2.1>s.1)|| !(dk x.1 0 65535))) (some false) (room (s.2.length+x.2.2.length) (k (aq (s.1-x.2.1),s.2++x.2.2)))) (λs=>aa (fK t.2.1 s.2) λrU=>some rU.2) (λi hi s nx=>by simp only[ta];rw[lE,bz hi,ak (n:=(i:Int)+1)];simp only[ah,ab,dh,bX,cT];rfl) (λs nx=>by simp only[ta];rw[cW];rfl) fuel 0 (t.1.2.1,([]:cP)) (by omega) (by omega);rw[eD,MA t.2.1 t.1.2.1 (by omega) _ (λs hs=>by rw[JR _ _ hs,ab,afa]) _ _ _ (by omega) (by omega) (by simpa using h2)]at key;cases dw t.2.1 with|false=>rfl|true=>cases dk t.2.2.2 0 65535 with|false=>rfl|true=>refine key.trans ?_;simp
def qR (s:dW):Bool:=dk s.2.1 0 65535&&(dk s.2.2.1 0 65535&&(!decide ((List.length s.2.2.2.2.2.2.2:Int)>320)&&
 (bif s.1==17 then(s.2.2.2.1==0)&&((s.2.2.2.2.1==0)&&((s.2.2.2.2.2.1==0)&&(s.2.2.2.2.2.2.1==0)))
  else(s.1==6)&&(dk s.2.2.2.1 0 4294967295&&(dk s.2.2.2.2.1 0 4294967295&&(dk s.2.2.2.2.2.1 0 31&&dk s.2.2.2.2.2.2.1 0 65535))))))
theorem Wl (s:dW):pq s=some (qR s):=by simp only[pq,ed,ab,bX,cF,cT,cN,Bool.not_or,fX,Bool.and_assoc,qR]
theorem VY (s:dW):oX s=some (qR s):=by simp only[oX,dh,ab,bX,cF,cT,cN,Bool.not_or,fX,Bool.and_assoc,qR];by_cases h:s.1=17;rw[h];rfl;rw[show(s.1==17)=false from by simpa using h];cases s.1==6<;>rfl
def zW (f:Int):Bool:=(f==16)||(f==17)||(f==24)||(f==25)
theorem Jn (f:Int)(h:dk f 0 31=true):(aq (toNat (fY f&&&~~~ fY 9))==16)=zW f:=by
 have key:∀k:Fin 32,(aq (toNat (fY (k.val:Int)&&&~~~ fY 9))==16)=zW (k.val:Int):=by decide
 rw[bf]at h;have:=key ⟨f.toNat,by omega⟩;rwa[show((f.toNat:Nat):Int)=f by omega]at this
theorem Jm (f:Int)(h:dk f 0 31=true):pb f=some (zW f):=by
 have key:∀k:Fin 32,((aq (toNat (fY (k.val:Int)&&&fY 16)) !=0)&&(aq (toNat (fY (k.val:Int)&&&~~~ fY 25))==0))=zW (k.val:Int):=by decide
 rw[bf]at h;have:=key ⟨f.toNat,by omega⟩;rw[show((f.toNat:Nat):Int)=f by omega]at this;simp only[pb,bX,ab,cF];rw[this]
theorem CV {s:dW}(h:qR s=true)(h6:(s.1==6)=true):dk s.2.2.2.2.2.1 0 31=true:=by
 have:s.1=6:=by simpa using h6
 unfold qR at h;rw[this]at h;simp only[ae]at h;have h:=h.2.2.2;simp at h;exact h.2.2.1
def ow (p:aO):Bool:=dk p.1 0 281474976710655&&(dk p.2.1 0 281474976710655&&(dk p.2.2.1 (-1) 4095&&(dk p.2.2.2.1 0 255&&(dk p.2.2.2.2.2.1 0 255&&(dk p.2.2.2.2.1 0 65535&&(dk p.2.2.2.2.2.2.1 0 4294967295&&(dk p.2.2.2.2.2.2.2.1 0 4294967295&&qR p.2.2.2.2.2.2.2.2)))))))
def dq (p:aO):Bool:=ow p&&(decide ((List.length p.2.2.2.2.2.2.2.2.2.2.2.2.2.2.2:Int)<=128)||(p.2.2.2.2.2.2.2.2.1==6)&&zW p.2.2.2.2.2.2.2.2.2.2.2.2.2.1)
theorem xJ (h:ow p=true):qR p.2.2.2.2.2.2.2.2=true:=by unfold ow at h;simp only[ae]at h;exact h.2.2.2.2.2.2.2.2
theorem Ha (p:aO):qh p=some (dq p):=by unfold qh dq;simp only[ed,Wl,ab,bX,cF,cT,cN,Bool.not_or,fX];rw[show(dk p.1 0 281474976710655&&(dk p.2.1 0 281474976710655&&(dk p.2.2.1 (-1) 4095&&(dk p.2.2.2.1 0 255&&(dk p.2.2.2.2.2.1 0 255&&(dk p.2.2.2.2.1 0 65535&&(dk p.2.2.2.2.2.2.1 0 4294967295&&(dk p.2.2.2.2.2.2.2.1 0 4294967295&&qR p.2.2.2.2.2.2.2.2))))))))=ow p from rfl];cases hh:ow p with|false=>rfl|true=>cases h6:p.2.2.2.2.2.2.2.2.1==6 with|false=>simp|true=>rw[Jn _ (CV (xJ hh) h6)];simp[Bool.or_comm]
theorem nY (p:aO):gb p=some (dq p):=by
 unfold gb dq;simp only[dh,VY,ab];have e:∀X:ay Bool,(cond (dk p.1 0 281474976710655) (cond (dk p.2.1 0 281474976710655) (cond (dk p.2.2.1 (-1) 4095) (cond (dk p.2.2.2.1 0 255) (cond (dk p.2.2.2.2.2.1 0 255) (cond (dk p.2.2.2.2.1 0 65535) (cond (dk p.2.2.2.2.2.2.1 0 4294967295) (cond (dk p.2.2.2.2.2.2.2.1 0 4294967295) (cond (qR p.2.2.2.2.2.2.2.2) X (some false)) (some false)) (some false)) (some false)) (some false)) (some false)) (some false)) (some false)) (some false))=cond (ow p) X (some false):=by intro X;unfold ow;cases dk p.1 0 281474976710655;rfl;cases dk p.2.1 0 281474976710655;rfl;cases dk p.2.2.1 (-1) 4095;rfl;cases dk p.2.2.2.1 0 255;rfl;cases dk p.2.2.2.2.2.1 0 255;rfl;cases dk p.2.2.2.2.1 0 65535;rfl;cases dk p.2.2.2.2.2.2.1 0 4294967295;rfl;cases dk p.2.2.2.2.2.2.2.1 0 4294967295<;>rfl
 rw[e];cases hh:ow p with|false=>rfl|true=>cases h6:p.2.2.2.2.2.2.2.2.1==6 with|false=>simp[bX]|true=>rw[Jm _ (CV (xJ hh) h6)];simp only[ah,ab,bX,cT,bF]
def fE (q:K7):Bool:=dk q.1 0 130944&&(iK q.2.1&&dk q.2.2 0 (aq ((aq (2*q.2.1))-1)))
theorem Gt (q:K7):mZ q=some (fE q):=by simp only[mZ,dh,B9,ab,bX,cF,fE]
def YX:qp:=((0,0,0,0,0,0,0,0,0,0,0,0,0,0,0,([]:Bytes)),0,0)
def Wq (p:qp):Bool:=(p.1.1==0)&&((p.1.2.1==0)&&((p.1.2.2.1==0)&&((p.1.2.2.2.1==0)&&((p.1.2.2.2.2.1==0)&&((p.1.2.2.2.2.2.1==0)&&((p.1.2.2.2.2.2.2.1==0)&&((p.1.2.2.2.2.2.2.2.1==0)&&((p.1.2.2.2.2.2.2.2.2.1==0)&&((p.1.2.2.2.2.2.2.2.2.2.1==0)&&((p.1.2.2.2.2.2.2.2.2.2.2.1==0)&&((p.1.2.2.2.2.2.2.2.2.2.2.2.1==0)&&((p.1.2.2.2.2.2.2.2.2.2.2.2.2.1==0)&&((p.1.2.2.2.2.2.2.2.2.2.2.2.2.2.1==0)&&((p.1.2.2.2.2.2.2.2.2.2.2.2.2.2.2.1==0)&&((p.1.2.2.2.2.2.2.2.2.2.2.2.2.2.2.2==([]:Bytes))&&((p.2.1==0)&&((p.2.2==0)&&true)))))))))))))))))
def Es (r:ca):Bool:=(cR r.1&&(fE r.2.1&&(fE r.2.2.1&&((r.2.1.1==r.2.2.1.1)&&((r.2.1.2.1==r.2.2.1.2.1)&&dk r.2.2.2.2.2 0 1000000000000)))))&&
 (bif r.2.2.2.2.1 then dq r.2.2.2.1.1&&(dk r.2.2.2.1.2.1 0 320&&dk r.2.2.2.1.2.2 1 320) else Wq r.2.2.2.1)
theorem ab0 (p:qp):Wq p=true↔p=YX:=by obtain⟨⟨a,b,c,d,e,f,g,h,i,j,k,l,m,n,o,q⟩,r,s⟩:=p;simp only[Wq,YX,gN,ae,bc,Prod.mk.injEq,and_assoc]
theorem Ow (r:ca):uf r=some (Es r):=by unfold uf Es Wq;simp only[vz,Gt,dh,nY,ab,bX,cF,cT,cN,Bool.not_or,fX,bne];cases r.2.2.2.2.1<;>rfl
def ej (v:Vector):Bool:=(lA v).getD false
theorem Ec (v:Vector):lA v=some (ej v):=by
 have:∃b,lA v=some b:=by simp only[lA,sv,ed,ab,bX];exact⟨_,rfl⟩
 obtain⟨b,hb⟩:=this;rw[ej,hb];rfl
theorem xM (v:Vector):lv v=some (ej v):=Ec v
theorem GW (l:aw α)(p:α->Bool):(range l.length).all (λi=>l[i]?.all p)=l.all p:=by rw[dC,aI,aI];constructor;intro h x hx;obtain⟨i,hi,rfl⟩:=List.getElem_of_mem hx;have:=h i (ch.2 hi);rwa[al hi]at this;intro h i hi;rw[al (ch.1 hi)];exact h _ (bC _)
theorem Vn (l:aw α)(p q:α->Bool):l.all (λx=>p x&&q x)=(l.all p&&l.all q):=by induction l with|nil=>rfl|cons x l ih=>simp only[bV,ih];cases p x<;>cases q x<;>cases l.all p<;>rfl
def ie (h:Host):cP:=[h.2.2.2.2.2.2.2.2.2.2.2.2.2.2.1,h.2.2.2.2.2.2.2.2.2.2.2.2.2.2.2.1,h.2.2.2.2.2.2.2.2.2.2.2.2.2.2.2.2.1,h.2.2.2.2.2.2.2.2.2.2.2.2.2.2.2.2.2.1,h.2.2.2.2.2.2.2.2.2.2.2.2.2.2.2.2.2.2]
def qq (h:Host):Bool:=dk (h.2.2.2.1.length:Int) 1 2&&(((h.2.2.2.2.1.length:Int)==(h.2.2.2.1.length:Int))&&(((h.2.2.2.2.2.1.length:Int)==(h.2.2.2.1.length:Int))&&((h.2.2.2.2.2.2.1.length:Int)==(h.2.2.2.1.length:Int))))
def RP (h:Host):Bool:=h.2.2.2.1.all Es&&(h.2.2.2.2.1.all dw&&h.2.2.2.2.2.1.all ej)
def eU (h:Host):Bool:=cB h.1&&(fw h.2.1&&(IM h.2.2.1&&(pC h.2.2.2.2.2.2.2.1&&(qq h&&(fe h.2.2.2.2.2.2.2.2.1 (h.2.2.2.1.length:Int)&&(RP h&&(ie h).all (λx=>dk x 0 1000000000000)))))))
structure Nl (h:Host):Prop where
 a1:h.1.length<=10^9
 a2:h.2.1.length<=10^9
 t1:h.2.2.1.2.2.1.length<=10^9
 t2:h.2.2.1.2.1.2.2.2.length+(bp h.2.2.1.2.2.1).length<=10^9
 f1:h.2.2.2.2.2.2.2.1.2.2.length<=10^9
 s1:h.2.2.2.2.2.2.2.2.1.1.length<=10^9
 s2:h.2.2.2.2.2.2.2.2.1.2.1.length<=10^9
 s3:h.2.2.2.2.2.2.2.2.1.2.2.2.length<=10^9
 p1:∀p∈h.2.2.2.2.1,p.2.2.2.length<=10^9
theorem pX (l:qq h=true):h.2.2.2.1.length<=2/\h.2.2.2.2.1.length=h.2.2.2.1.length/\h.2.2.2.2.2.1.length=h.2.2.2.1.length/\h.2.2.2.2.2.2.1.length=h.2.2.2.1.length:=by unfold qq at l;simp only[ae,bf,bc]at l;omega
theorem Yw {T:(Int->ay R)->Int->ay R}{fin hit:ay R}(l:qq h=true)(hs:∀i (hi:i<h.2.2.2.1.length) nx,T nx (i:Int)=cond (!(Es h.2.2.2.1[i]&&(dw (h.2.2.2.2.1[i]'((pX l).2.1▸hi))&&ej (h.2.2.2.2.2.1[i]'((pX l).2.2.1▸hi))))) hit (nx ((i+1:Nat):Int)))(hf:∀nx,T nx (h.2.2.2.1.length:Int)=fin):aW T fuel 0=cond (RP h) fin hit:=by
 have hl:=pX l;rw[py (fin:=fin) (hit:=hit) (λi=>h.2.2.2.1[i]?.all Es&&(h.2.2.2.2.1[i]?.all dw&&h.2.2.2.2.2.1[i]?.all ej)) h.2.2.2.1.length (by omega) ?hs hf]
 case hs=>
  intro i nx hi
  rw[hs i hi,al hi,al (hl.2.1▸hi),al (hl.2.2.1▸hi)]
  rfl
 rw[Vn,Vn,GW];have e1:=GW h.2.2.2.2.1 dw;have e2:=GW h.2.2.2.2.2.1 ej;rw[hl.2.1]at e1;rw[hl.2.2.1]at e2;rw[e1,e2];rfl
theorem PQ {T:(Int->ay R)->Int->ay R}{fin hit:ay R}(h:Host)(hs:∀i (hi:i<(ie h).length) nx,T nx (i:Int)=cond (!(dk (ie h)[i] 0 1000000000000)) hit (nx ((i+1:Nat):Int)))(hf:∀nx,T nx ((ie h).length:Int)=fin):aW T fuel 0=cond ((ie h).all (λx=>dk x 0 1000000000000)) fin hit:=px (λx=>dk x 0 1000000000000) (ie h) (by simp[ie]) hs hf
theorem vy (h:Host)(z:Nl h):gQ h=some (eU h):=by
 unfold gQ eU;simp only[D0 _ z.a1,E7 _ z.a2,T3 _ z.t1 z.t2,JP _ z.f1,Fc _ _ z.s1 z.s2 z.s3,dh,ab,bX];cases cB h.1;rfl;cases fw h.2.1;rfl;cases IM h.2.2.1;rfl;cases pC h.2.2.2.2.2.2.2.1;rfl;simp only[aj,af,cT,bne];rw[show(!dk (h.2.2.2.1.length:Int) 1 2||(!((h.2.2.2.2.1.length:Int)==(h.2.2.2.1.length:Int))||(!((h.2.2.2.2.2.1.length:Int)==(h.2.2.2.1.length:Int))|| !((h.2.2.2.2.2.2.1.length:Int)==(h.2.2.2.1.length:Int)))))= !(qq h) by unfold qq;simp only[Bool.not_and]];cases hl:qq h;rfl;have hL:=pX hl;simp only[aj,af,bF];rw[Yw (h:=h) (hit:=some false) (fin:=some ((ie h).all (λx=>dk x 0 1000000000000)&&fe h.2.2.2.2.2.2.2.2.1 (h.2.2.2.1.length:Int))) hl ?hs ?hf]
 case hs=>
  intro i hi nx
  simp only[sS]
  rw[lE,bz hi,bz (hL.2.1▸hi),bz (hL.2.2.1▸hi),ak (n:=(i:Int)+1)]
  simp only[ah,ab,Ow,xM,sM _ (z.p1 _ (bC _)),bX,cT,Bool.not_and]
  rfl
 case hf=>
  intro nx
  simp only[sS]
  rw[cW]
  simp only[af]
  refine(PQ (fin:=some (fe h.2.2.2.2.2.2.2.2.1 (h.2.2.2.1.length:Int))) (hit:=some false) h ?_ ?_).trans ?_
  ·intro i hi nx
   simp only[rh]
   have tU:i<5:=hi
   change (bif decide ((i:Int)<5) then aa (idx (ie h) (i:Int)) _ else _)=_
   rw[lE,bz hi,ak (n:=(i:Int)+1),ab,dh]
   rfl
  ·intro nx
   simp only[rh]
   rw[ar (by simp[ie])];rfl
  ·cases (ie h).all (λx=>dk x 0 1000000000000)<;>rfl
 cases RP h<;>cases fe h.2.2.2.2.2.2.2.2.1 (h.2.2.2.1.length:Int)<;>cases (ie h).all (λx=>dk x 0 1000000000000)<;>rfl
def hasB (l:cP)(v:Int):Bool:=l.any (·==v)
theorem ade (l:cP)(v:Int)(h:l.length<=10^9):sk l v=some (hasB l v):=by
 unfold sk hasB;rw[EA (hit:=some true) (fin:=some false) (λx:Int=>x==v) l (by omega) (λi hi nx=>?hs) (λnx=>?hf)]
 case hs=>
  simp only[th]
  rw[lE,bz hi,ak];rfl
 case hf=>
  simp only[th]
  rw[cW];rfl
 cases l.any (λx=>x==v)<;>rfl
theorem Se (l:aw α)(j:Nat)(h:j<=l.length):sub l (j:Int) (l.length:Int)=some (l.drop j):=by unfold sub;rw[zip];simp
def vw (f:Filter)(p:aO):Bool:=pC f&&(((p.1==f.1)||((p.1==281474976710655)||f.2.1))&&((p.2.2.1== -1)||hasB f.2.2 p.2.2.1))
theorem QF (f:Filter)(p:aO)(h:f.2.2.length<=10^9):wG f p=some (vw f p):=by simp only[wG,JP f h,ade f.2.2 _ h,ab,vw];cases pC f<;>cases p.1==f.1<;>cases p.1==281474976710655<;>cases f.2.1<;>cases p.2.2.1== -1<;>rfl
def preB (a b n:Int):Bool:=fdiv a (2^(min (Int.toNat (aq (32-n))) (IntKind.bits .i64)))==fdiv b (2^(min (Int.toNat (aq (32-n))) (IntKind.bits .i64)))
theorem Yx {r:jz}(h:yD r=true):0<=r.2.2.2.1/\r.2.2.2.1<=32:=by rw[<-bf];unfold yD at h;simp only[lh,ed,ab,bX]at h;cases hp:dk r.2.2.2.1 0 32 with|true=>rfl|false=>rw[hp]at h;revert h;cases dk r.1 0 1000<;>cases r.2.1 !=0<;>cases r.2.1 !=6<;>cases r.2.1 !=17<;>cases dk r.2.2.1 0 4294967295<;>simp
def aec (r:jz)(p:aO):Bool:=preB r.2.2.1 p.2.2.2.2.2.2.1 r.2.2.2.1&&(dk p.2.2.2.2.2.2.2.2.2.2.1 r.2.2.2.2.1 r.2.2.2.2.2.1&&((r.2.2.2.2.2.2.1== -2)||(r.2.2.2.2.2.2.1==p.2.2.1)))
def GG (r:jz)(p:aO):Bool:=yD r&&(dq p&&(((r.2.1==0)||(r.2.1==p.2.2.2.2.2.2.2.2.1))&&aec r p))
theorem adh (a b n:Int)(h0:0<=n)(h1:n<=32):nG a b n=some (preB a b n):=by unfold nG preB;rw[aG (by rw[ak (n:=32-n)];omega),aG (by rw[ak (n:=32-n)];omega)]
theorem Xp (r:jz)(p:aO):pL r p=some (GG r p):=by unfold pL GG;rw[aa4,ab];cases hr:yD r;rfl;have hp:=Yx hr;simp only[nY,adh _ _ _ hp.1 hp.2,dh,ab,aec];cases dq p<;>cases r.2.1==0<;>cases r.2.1==p.2.2.2.2.2.2.2.2.1<;>cases preB r.2.2.1 p.2.2.2.2.2.2.1 r.2.2.2.1<;>cases dk p.2.2.2.2.2.2.2.2.2.2.1 r.2.2.2.2.1 r.2.2.2.2.2.1<;>cases r.2.2.2.2.2.2.1== -2<;>rfl
def HL:jz:=(0,0,0,0,0,0,0,0,0)
def xy (l:aw jz)(p:aO):Nat->Int
 |0=> -1
 |i+1=>bif GG (l.getD i HL) p&&(decide (xy l p i<0)||decide ((l.getD i HL).1<(l.getD (xy l p i).toNat HL).1)) then(i:Int) else xy l p i
theorem IV (l:aw jz)(p:aO):∀i,xy l p i= -1\/∃n:Nat,xy l p i=(n:Int)/\n<i
 |0=> .inl rfl
 |i+1=>by rw[xy];cases GG (l.getD i HL) p&&(decide (xy l p i<0)||decide ((l.getD i HL).1<(l.getD (xy l p i).toNat HL).1))with|true=>exact .inr ⟨i,rfl,by omega⟩|false=>rcases IV l p i with h|⟨n,h,hn⟩;exact .inl h;exact .inr ⟨n,h,by omega⟩
theorem WD (l:aw jz)(p:aO)(i:Nat)(hi:i<l.length)(nx:Int×Int->ay R): (aa (cond (GG l[i] p) (cond (decide (xy l p i<0)) (some true) (aa (idx l (xy l p i)) λx4=>some (decide (l[i].1<x4.1)))) (some false)) λq5=>cond q5 (nx ((i:Int),((i+1:Nat):Int))) (nx (xy l p i,((i+1:Nat):Int))))=nx (xy l p (i+1),((i+1:Nat):Int)):=by
 rw[xy,dg hi];cases GG l[i] p;rfl;rcases IV l p i with h|⟨n,h,hn⟩;rw[h];rfl;have hl:n<l.length:=by omega
 rw[h,ar (show¬(n:Int)<0 by omega),bz hl];simp only[ah,af,ab,az,dg hl,bF,cC];cases decide (l[i].1<l[n].1)<;>rfl
def C8 (l:aw jz)(p:aO):Int:=bif wc l then xy l p l.length else-1
theorem P5 (l:aw jz)(p:aO)(h:C8 l p>=0):∃n:Nat,C8 l p=(n:Int)/\n<l.length:=by unfold C8 at h⊢;cases hr:wc l with|false=>rw[hr]at h;simp at h|true=>rw[hr]at h;simp only[ah]at h⊢;rcases IV l p l.length with g|g;omega;exact g
theorem Xn (l:aw jz)(p:aO)(h:l.length<=10^9):uM l p=some (C8 l p):=by unfold uM C8;rw[Mz l h,ab];cases wc l;rfl;simp only[aj,af,ah];refine ew (λi=>(xy l p i,(i:Int))) l.length (by omega) (λi nx hi=>?_) (λnx=>?_);simp only[pF];rw[lE,bz hi,ak (n:=(i:Int)+1)];simp only[ah,ab,Xp];exact WD l p i hi nx;simp only[pF];rw[cW];rfl
def kH (p:aO):DE:=(p.2.2.2.2.2.2.2.2.1,p.2.2.2.2.2.2.1,p.2.2.2.2.2.2.2.1,p.2.2.2.2.2.2.2.2.2.1,p.2.2.2.2.2.2.2.2.2.2.1)
theorem JQ (p:aO):sj p=some (kH p):=rfl
theorem abU (p:aO):Cg p=some (kH p):=rfl
def ah5:Slot:=(0,(0,0,0,0,0),0)
def qx (s:dc)(q:Int)(p:aO):Int:=
 bif !fe s q|| !dq p then-1 else
 bif decide (C8 s.1 p>=0) then(bif (s.1.getD (C8 s.1 p).toNat HL).2.2.2.2.2.2.2.1==1 then-1 else(s.1.getD (C8 s.1 p).toNat HL).2.2.2.2.2.2.2.2) else
 bif decide (findF s.2.1 (kH p)>=0) then(s.2.1.getD (findF s.2.1 (kH p)).toNat ah5).2.2 else IJ s.2.2 q (kH p)
theorem Xx (s:dc)(q:Int)(p:aO)(h1:s.1.length<=10^9)(h2:s.2.1.length<=10^9)(h3:s.2.2.2.length<=10^9):pN s q p=some (qx s q p):=by
 unfold pN qx;rw[Fc s q h1 h2 h3,ab,nY,ab];cases fe s q;rfl;cases dq p;rfl;simp only[aj,af,ab,bS,Xn s.1 p h1,JQ,Oo s.2.1 _ h2,QT s.2.2 q _ h3];cases hd:decide (C8 s.1 p>=0)with
 |true=>obtain⟨n,hn,hl⟩:=P5 s.1 p (bh hd);simp only[ah,hn,bz hl,ab,az,dg hl];cases s.1[n].2.2.2.2.2.2.2.1==1<;>rfl
 |false=>
  simp only[af];cases Pr:decide (findF s.2.1 (kH p)>=0)with
  |true=>obtain⟨n,hn,hl⟩:=P4 s.2.1 (kH p) (bh Pr);simp only[ah,hn,bz hl,ab,az,dg hl]
  |false=>rfl
def WA (a b:Int):Int:=(lf a b).getD 0
theorem II (a b:Int):lf a b=some (WA a b):=by
 unfold WA;have:∃x,lf a b=some x:=by simp only[lf,ed,ab];cases dk a 0 65535<;>cases dk b 0 65535<;>cases decide (aq (a+b)>65535)<;>exact⟨_,rfl⟩
 obtain⟨x,hx⟩:=this;rw[hx];rfl
theorem QG (a b:Int):wH a b=some (WA a b):=II a b
theorem acJ {a b:Int}(h:0<=a/\a<=65535)(k:0<=b/\b<=65535):0<=WA a b/\WA a b<=65535:=by have e:=II a b;simp only[lf,ed,ab,bf.2 h,bf.2 k,aj,af]at e;rw[ak (n:=a+b)]at e;by_cases hc:a+b>65535;rw[au hc,ah,ak]at e;rw[<-dm e];omega;rw[ar hc,af]at e;rw[<-dm e];omega
def sw (s:Bytes):Nat->Int
 |0=>0
 |j+1=>WA (sw s j) ((bH s (2*j)*256+bH s (2*j+1):Nat):Int)
theorem ab1 (s:Bytes):∀j,0<=sw s j/\sw s j<=65535
 |0=>by simp[sw]
 |j+1=>by have b0:=eo s (2*j);have b1:=eo s (2*j+1);exact acJ (ab1 s j) (by omega)
theorem DK (h:s.length<=i:=by omega):bH s i=0:=by unfold bH;rw[cJ,bu h];rfl
theorem adQ (s:Bytes)(h:s.length<=10^9):vm s=some (sw s ((s.length+1)/2)):=by
 unfold vm;refine ew (λj=>(sw s j,((2*j:Nat):Int))) ((s.length+1)/2) (by omega) (λj nx hj=>?_) (λnx=>?_);have b0:=eo s (2*j);have b1:=eo s (2*j+1);obtain⟨x,hx,ex⟩:=kT (s:=s) (i:=2*j);simp only[qg];rw[lE,ah,hx,ab,lF,ak (n:=((2*j:Nat):Int)+1),ak (n:=((2*j:Nat):Int)+2),ex,gW];have e8:nW 8=8:=rfl;have en:((2*j:Nat):Int)+2=((2*(j+1):Nat):Int):=by omega
 rw[e8,ak (n:=((bH s (2*j):Nat):Int)*2^8)];by_cases hc:2*j+1<s.length;obtain⟨y,hy,ey⟩:=kT (s:=s) (i:=2*j+1) hc;rw[lE,ah,show((2*j:Nat):Int)+1=((2*j+1:Nat):Int) by omega,hy,ab,ey,gW (n:=bH s (2*j+1)),ak,II,ab,en,show((bH s (2*j):Nat):Int)*2^8+((bH s (2*j+1):Nat):Int)=((bH s (2*j)*256+bH s (2*j+1):Nat):Int) by omega];rfl;have hz:=DK (s:=s) (i:=2*j+1);rw[cW,af,II,ab,en,show((bH s (2*j):Nat):Int)*2^8=((bH s (2*j)*256+bH s (2*j+1):Nat):Int) by rw[hz];omega];rfl;simp only[qg];rw[cW];rfl
theorem adi (s:Bytes)(h:s.length<=10^9):uV s=some (sw s ((s.length+1)/2)):=by
 unfold uV;refine ew (λj=>(sw s j,((2*j:Nat):Int))) ((s.length+1)/2) (by omega) (λj nx hj=>?_) (λnx=>?_);have b0:=eo s (2*j);have b1:=eo s (2*j+1);obtain⟨x,hx,ex⟩:=kT (s:=s) (i:=2*j);simp only[pP];rw[lE,ah,hx,ab,lF,ak (n:=((2*j:Nat):Int)+1),ak (n:=((2*j:Nat):Int)+2),ex,gW];have e8:nW 8=8:=rfl;have en:((2*j:Nat):Int)+2=((2*(j+1):Nat):Int):=by omega
 rw[e8,show((bH s (2*j):Nat):Int)*2^8=((2^8*bH s (2*j):Nat):Int) by omega,gW (n:=2^8*bH s (2*j))];by_cases hc:2*j+1<s.length;obtain⟨y,hy,ey⟩:=kT (s:=s) (i:=2*j+1) hc;rw[lE,ah,show((2*j:Nat):Int)+1=((2*j+1:Nat):Int) by omega,hy,ab,ey,gW (n:=bH s (2*j+1)),D7 (bH s (2*j)) 8 (bH s (2*j+1)),QG,ab,en,show 2^8*bH s (2*j)+bH s (2*j+1)=bH s (2*j)*256+bH s (2*j+1) by omega];rfl;have hz:=DK (s:=s) (i:=2*j+1);rw[cW,af,QG,ab,en,show((2^8*bH s (2*j):Nat):Int)=((bH s (2*j)*256+bH s (2*j+1):Nat):Int) by rw[hz];omega];rfl;simp only[pP];rw[cW];rfl
def L2 (s:Bytes):Int:=65535-sw s ((s.length+1)/2)
theorem OZ (s:Bytes)(h:s.length<=10^9):od s=some (L2 s):=by have:=ab1 s ((s.length+1)/2);simp only[od,adQ s h,ab];rw[ak];rfl
theorem ID (s:Bytes)(h:s.length<=10^9):iS s=some (L2 s):=by have:=ab1 s ((s.length+1)/2);simp only[iS,adi s h,ab];rw[ak];rfl
def um (s:Bytes)(a:Int)(p:Bytes):Bytes:=bif eQ s a (p.length:Int) then(s.take a.toNat++p)++s.drop (a.toNat+p.length) else s
theorem vK (s:Bytes)(a:Int)(p:Bytes):(um s a p).length=s.length:=by unfold um;cases hw:eQ s a (p.length:Int)with|false=>rfl|true=>simp only[eQ,aC]at hw;simp only[ah,ai,aX,aN];omega
theorem RJ (s:Bytes)(a:Int)(p:Bytes)(h:s.length<=10^9)(hw:eQ s a (p.length:Int)=true): (aa (sub s 0 a) λx2=>room (List.length x2+List.length p) (aa (sub s (aq (a+((List.length p:Int)))) ((List.length s:Int))) λx3=>room (List.length (x2++p)+List.length x3) (some ((x2++p)++x3))))=some (um s a p):=by
 have hw':=hw;simp only[eQ,aC]at hw';obtain⟨n,rfl⟩:=aV hw'.1;have e1:sub s 0 (n:Int)=some (s.take n):=by unfold sub;rw[zip];rfl
 have e2:sub s (((n+p.length:Nat):Int)) (s.length:Int)=some (s.drop (n+p.length)):=by unfold sub;rw[zip,az,az,dZ]
 rw[e1,ak,show(n:Int)+(p.length:Int)=((n+p.length:Nat):Int) by omega,e2,ab,aR (by simp only[aX];omega),ab,aR (by simp only[ai,aX,aN];omega)];unfold um;rw[hw];rfl
theorem FN (s:Bytes)(a:Int)(p:Bytes)(h:s.length<=10^9:=by omega):ia s a p=some (um s a p):=by unfold ia;rw[Cf s a _ h,ab];cases hw:eQ s a (p.length:Int)with|false=>simp only[cb,ah,um,hw,af]|true=>exact RJ s a p h hw
theorem Ah (s:Bytes)(a:Int)(p:Bytes)(h:s.length<=10^9:=by omega)(hp:p.length<=10^9:=by omega):fB s a p=some (um s a p):=by
 unfold fB;rw[ak (n:=(s.length:Int)-(p.length:Int))];cases hw:eQ s a (p.length:Int)with
 |true=>have hw':=hw;simp only[eQ,aC]at hw';rw[ar (show¬a<0 by omega),ar (show¬a>(s.length:Int)-(p.length:Int) by omega)];exact RJ s a p h hw
 |false=>
  have hp:um s a p=s:=by unfold um;rw[hw];rfl
  rw[hp];simp only[eQ,cM]at hw;by_cases h0:a<0;rw[au h0];rfl;rw[ar h0,au (show a>(s.length:Int)-(p.length:Int) by omega)];rfl
def bs2 (x y:Int):Bytes:=aK [x,y]
theorem Nu (x y:Int):(bs2 x y).length=2:=rfl
def wP (a b k n:Int):Bool:=dk a 0 4294967295&&(dk b 0 4294967295&&(dk k 0 255&&dk n 0 65535))
def uk (a b k n:Int):Bytes:=((iM a++iM b)++bs2 0 (fS k))++bN n
theorem GS (a b k n:Int):(uk a b k n).length<=12:=by have:=ef a;have:=ef b;have:=bD n;simp only[uk,ai,Nu];omega
theorem Eb (a b k n:Int):lg a b k n=some (bif wP a b k n then(uk a b k n,true) else([],false)):=by have:=ef a;have:=ef b;have:=bD n;unfold lg wP;simp only[ed,ab,pn,nn];cases dk a 0 4294967295;rfl;cases dk b 0 4294967295;rfl;cases dk k 0 255;rfl;cases dk n 0 65535;rfl;simp only[aj,af,eS,ah,ab];have e:(aK [0,fS k]).length=2:=rfl;rw[aR,aR (by simp only[ai,e];omega),aR (by simp only[ai,e];omega)];rfl
theorem JT (a b k n:Int):oE a b k n=some (bif wP a b k n then(uk a b k n,true) else([],false)):=Eb a b k n
def bare (g:dW):Bytes:=bif g.1==6 then
    (((((bN g.2.1++bN g.2.2.1)++iM g.2.2.2.1)++iM g.2.2.2.2.1)++bs2 80 (fS g.2.2.2.2.2.1))++bN g.2.2.2.2.2.2.1)++iM 0++g.2.2.2.2.2.2.2
 else(((bN g.2.1++bN g.2.2.1)++bN (8+(g.2.2.2.2.2.2.2.length:Int)))++bN 0)++g.2.2.2.2.2.2.2
theorem Nr (g:dW):(bare g).length<=20+g.2.2.2.2.2.2.2.length:=by have:=bD g.2.1;have:=bD g.2.2.1;have:=ef g.2.2.2.1;have:=ef g.2.2.2.2.1;have:=bD g.2.2.2.2.2.2.1;have:=ef 0;have:=bD 0;have:=bD (8+(g.2.2.2.2.2.2.2.length:Int));unfold bare;cases g.1==6<;>simp only[ah,af,ai,Nu]<;>omega
theorem Zd:bN 0++bN 0=iM 0:=by rfl
theorem aaS (g:dW)(h:g.2.2.2.2.2.2.2.length<=1000000):pU g=some (bare g):=by have:=bD g.2.1;have:=bD g.2.2.1;have:=ef g.2.2.2.1;have:=ef g.2.2.2.2.1;have:=bD g.2.2.2.2.2.2.1;have:=bD 0;have:=bD (8+(g.2.2.2.2.2.2.2.length:Int));have e:∀x,(aK [80,fS x]).length=2:=λ_=>rfl;unfold pU bare;rw[ak (n:=8+(g.2.2.2.2.2.2.2.length:Int))];simp only[kh,xN,ab];rw[aR];cases g.1==6 with|true=>simp only[ah];rw[aR (by simp only[ai,e];omega),aR (by simp only[ai,e];omega),aR (by simp only[ai,e];omega),aR (by simp only[ai,e];omega),aR (by simp only[ai,e];omega),aR (by simp only[ai,e];omega),aR (by simp only[ai,e];omega)];rw[<-Zd];simp only[bs2,aJ]|false=>simp only[af];rw[aR (by simp only[ai];omega),aR (by simp only[ai];omega),aR (by simp only[ai];omega)]
def Wo (a b:Int)(g:dW):Int:=bif (L2 (uk a b g.1 ((bare g).length:Int)++bare g)==0)&&(g.1==17) then 65535 else L2 (uk a b g.1 ((bare g).length:Int)++bare g)
def Wh (a b:Int)(g:dW):Bytes:=um (bare g) (bif g.1==6 then 16 else 6) (bN (Wo a b g))
def KE (a b:Int)(g:dW):Bool:=qR g&&wP a b g.1 ((bare g).length:Int)
def za (a b:Int)(g:dW):Bytes×Bool:=bif KE a b g then(Wh a b g,true) else([],false)
theorem Ca {g:dW}(h:qR g=true):g.2.2.2.2.2.2.2.length<=320:=by simp only[qR,ae,aL,cM]at h;omega
theorem Ce (a b:Int)(g:dW):jo a b g=some (za a b g):=by
 unfold jo za KE;rw[Wl,ab];cases hg:qR g;rfl;have hb:=Ca hg;have hl:=Nr g;have hp:=GS a b g.1 ((bare g).length:Int);have:=bD g.2.1;have:=bD g.2.2.1;have:=ef g.2.2.2.1;have:=ef g.2.2.2.2.1;have:=bD g.2.2.2.2.2.2.1;have:=ef 0;have:=bD 0;have:=bD (8+(g.2.2.2.2.2.2.2.length:Int));have e:∀x,(aK [80,fS x]).length=2:=λ_=>rfl;rw[ak (n:=8+(g.2.2.2.2.2.2.2.length:Int))];simp only[nn,pn,ab,aj,af,bF];rw[aR];cases h6:g.1==6 with
 |true=>
  have aaz:bare g=(((((bN g.2.1++bN g.2.2.1)++iM g.2.2.2.1)++iM g.2.2.2.2.1)++aK [80,fS g.2.2.2.2.2.1])++bN g.2.2.2.2.2.2.1)++iM 0++g.2.2.2.2.2.2.2:=by unfold bare;rw[h6];rfl
  simp only[ah];rw[aR (by simp only[ai,e];omega),aR (by simp only[ai,e];omega),aR (by simp only[ai,e];omega),aR (by simp only[ai,e];omega),aR (by simp only[ai,e];omega),aR (by simp only[ai,e];omega),<-aaz,Eb,ab];cases wP a b g.1 ((bare g).length:Int);rfl;simp only[ah,aj,af];rw[aR,OZ _ (by simp only[ai];omega)];simp only[ab,bX,FN _ _ _ (show(bare g).length<=10^9 by omega),Wh,Wo,h6,ah,cF];cases (L2 (uk a b g.1 ((bare g).length:Int)++bare g)==0)&&(g.1==17)<;>rfl
 |false=>
  have aaz:bare g=(((bN g.2.1++bN g.2.2.1)++bN (8+(g.2.2.2.2.2.2.2.length:Int)))++bN 0)++g.2.2.2.2.2.2.2:=by unfold bare;rw[h6];rfl
  simp only[af];rw[aR (by simp only[ai];omega),aR (by simp only[ai];omega),aR (by simp only[ai];omega),<-aaz,Eb,ab];cases wP a b g.1 ((bare g).length:Int);rfl;simp only[ah,aj,af];rw[aR,OZ _ (by simp only[ai];omega)];simp only[ab,bX,FN _ _ _ (show(bare g).length<=10^9 by omega),Wh,Wo,h6,af,cF];cases (L2 (uk a b g.1 ((bare g).length:Int)++bare g)==0)&&(g.1==17)<;>rfl
theorem BQ (a b:Int)(g:dW):jj a b g=some (za a b g):=by
 unfold jj za KE;rw[VY,ab];cases hg:qR g;rfl;have hb:=Ca hg;have hl:=Nr g;have hp:=GS a b g.1 ((bare g).length:Int);have Gp:eZ g.1=some (bif g.1==6 then 16 else 6):=by unfold eZ;rw[bX]
 have w1:=bD 65535;have w2:=bD (L2 (uk a b g.1 ((bare g).length:Int)++bare g));simp only[aaS g (by omega),JT,ab,aj,af,bF];cases wP a b g.1 ((bare g).length:Int);rfl;simp only[ah,aj,af];rw[aR,ID _ (by simp only[ai];omega)];simp only[ab,bX,Gp,kh,Ah _ _ _ (show(bare g).length<=10^9 by omega) (show(bN 65535).length<=10^9 by omega),Ah _ _ _ (show(bare g).length<=10^9 by omega) (show(bN (L2 (uk a b g.1 ((bare g).length:Int)++bare g))).length<=10^9 by omega),Wh,Wo,cF];rw[Bool.and_comm];cases (L2 (uk a b g.1 ((bare g).length:Int)++bare g)==0)&&(g.1==17)<;>rfl
theorem adJ (a b:Int)(g:dW):(za a b g).1.length<=340:=by unfold za;cases h:KE a b g with|false=>exact bP _|true=>simp only[KE,ae]at h;have:=Ca h.1;have:=Nr g;show(um _ _ _).length<=340;rw[vK];omega
def T7 (d:Ip):Bool:=dk d.1 0 255&&(dk d.2.2.1 0 255&&(dk d.2.2.2.1 0 255&&(dk d.2.1 0 65535&&(dk d.2.2.2.2.1 0 4294967295&&(dk d.2.2.2.2.2.1 0 4294967295&&decide ((d.2.2.2.2.2.2.length:Int)<=380))))))
theorem R6 (d:Ip):CX d=some (T7 d):=by simp only[CX,ed,ab,bX,cF,T7]
theorem aaY (d:Ip):Gv d=some (T7 d):=R6 d
def JY (d:Ip):Bytes:=((((((bs2 69 (fS d.1)++bN (20+(d.2.2.2.2.2.2.length:Int)))++bN d.2.1)++bN 16384)++bs2 (fS d.2.2.1) (fS d.2.2.2.1))++bN 0)++iM d.2.2.2.2.1)++iM d.2.2.2.2.2.1
theorem JZ (d:Ip):(JY d).length<=20:=by have:=bD (20+(d.2.2.2.2.2.2.length:Int));have:=bD d.2.1;have:=bD 16384;have:=bD 0;have:=ef d.2.2.2.2.1;have:=ef d.2.2.2.2.2.1;simp only[JY,ai,Nu];omega
def JX (d:Ip):Bytes:=um (JY d) 10 (bN (L2 (JY d)))
theorem UX (d:Ip):vi d=some (bif T7 d then(JX d,true) else([],false)):=by
 unfold vi;rw[R6,ab];cases hd:T7 d;rfl;have hn:(d.2.2.2.2.2.2.length:Int)<=380:=by simp only[T7,ae,aC]at hd;omega
 have:=bD (20+(d.2.2.2.2.2.2.length:Int));have:=bD d.2.1;have:=bD 16384;have:=bD 0;have:=ef d.2.2.2.2.1;have:=ef d.2.2.2.2.2.1;have hl:=JZ d;have e:∀x y,(aK [x,y]).length=2:=λ_ _=>rfl;rw[ak (n:=20+(d.2.2.2.2.2.2.length:Int))];simp only[nn,pn,ab,aj,af,ah];rw[aR (by simp only[ai,e];omega),aR (by simp only[ai,e];omega),aR (by simp only[ai,e];omega),aR (by simp only[ai,e];omega),aR (by simp only[ai,e];omega),aR (by simp only[ai,e];omega),aR (by simp only[ai,e];omega)];have hp:((((((aK [69,fS d.1]++bN (20+(d.2.2.2.2.2.2.length:Int)))++bN d.2.1)++bN 16384)++aK [fS d.2.2.1,fS d.2.2.2.1])++bN 0)++iM d.2.2.2.2.1)++iM d.2.2.2.2.2.1=JY d:=rfl;rw[hp,OZ _ (by omega),ab,FN _ _ _];rfl
theorem TX (d:Ip):uR d=some (bif T7 d then(JX d,true) else([],false)):=by
 unfold uR;rw[aaY,ab];cases hd:T7 d;rfl;have hn:(d.2.2.2.2.2.2.length:Int)<=380:=by simp only[T7,ae,aC]at hd;omega
 have:=bD (20+(d.2.2.2.2.2.2.length:Int));have:=bD d.2.1;have:=bD 16384;have:=bD 0;have:=ef d.2.2.2.2.1;have:=ef d.2.2.2.2.2.1;have hl:=JZ d;have hw:=bD (L2 (JY d));have e:∀x y,(aK [x,y]).length=2:=λ_ _=>rfl;rw[ak (n:=20+(d.2.2.2.2.2.2.length:Int))];simp only[kh,xN,ab,aj,af,ah];rw[aR (by simp only[ai,e];omega),aR (by simp only[ai,e];omega),aR (by simp only[ai,e];omega),aR (by simp only[ai,e];omega),aR (by simp only[ai,e];omega),aR (by simp only[ai,e];omega),aR (by simp only[ai,e];omega)];have hp:((((((aK [69,fS d.1]++bN (20+(d.2.2.2.2.2.2.length:Int)))++bN d.2.1)++bN 16384)++aK [fS d.2.2.1,fS d.2.2.2.1])++bN 0)++iM d.2.2.2.2.1)++iM d.2.2.2.2.2.1=JY d:=rfl;rw[hp,ID _ (by omega),ab,Ah _ _ _];rfl
def Pt (d:Ip):Bytes×Bool:=bif T7 d then(JX d++d.2.2.2.2.2.2,true) else([],false)
theorem Gx (d:Ip):(JX d).length<=20:=by unfold JX;rw[vK];exact JZ d
theorem abV (d:Ip):tw d=some (Pt d):=by
 unfold tw Pt;rw[UX,ab];cases hd:T7 d;rfl;have hn:(d.2.2.2.2.2.2.length:Int)<=380:=by simp only[T7,ae,aC]at hd;omega
 have:=Gx d;simp only[ah,aj,af];rw[aR]
theorem aaX (d:Ip):sN d=some (Pt d):=by
 unfold sN Pt;rw[TX,ab];cases hd:T7 d;rfl;have hn:(d.2.2.2.2.2.2.length:Int)<=380:=by simp only[T7,ae,aC]at hd;omega
 have:=Gx d;simp only[ah,aj,af];rw[aR]
def wB (n:Nat):Bytes:=aK (List.replicate n (0:Int))
theorem C1 (n:Nat):(wB n).length=n:=by simp[wB,aK]
theorem KJ (n:Nat)(h:n<=10^9:=by omega):il (n:Int) 0=some (wB n):=by unfold il;rw[zip,aR (by rw[az];omega),az];refine ew (λi=>(List.replicate n (0:Int),(i:Int))) n (by omega) (λi nx hi=>?_) (λnx=>?_);simp only[nM];rw[lE,bz (by simpa using hi),ak];simp only[ah,ab,az,List.set_replicate_self];rfl;simp only[nM];rw[cW];rfl
theorem VX (n:Nat)(h:n<=10^9:=by omega):mR 0 (n:Int)=some (wB n):=by unfold mR;rw[zip,aR (by rw[az];omega),az];refine ew (λi=>(List.replicate n (0:Int),(i:Int))) n (by omega) (λi nx hi=>?_) (λnx=>?_);simp only[tj];rw[au (by simp;omega),bz (by simpa using hi),ak];simp only[ah,ab,az,List.set_replicate_self];rfl;simp only[tj];rw[ar (by simp)];rfl
def pad (s:Bytes):Bytes:=if s.length<46 then s++wB (46-s.length) else s
theorem OK (s:Bytes):(pad s).length=max 46 s.length:=by unfold pad;split;simp only[ai,C1];omega;omega
theorem adP (s:Bytes)(h:s.length<=10^9):wQ s=some (pad s):=by unfold wQ pad;by_cases hc:s.length<46;rw[lE,aF hc,ak,show(46:Int)-(s.length:Int)=((46-s.length:Nat):Int) by omega,KJ _];simp only[ah,ab];rw[aR (by rw[C1];omega)];rw[cW,aG hc];rfl
theorem adg (s:Bytes)(h:s.length<=10^9):wK s=some (pad s):=by unfold wK pad;by_cases hc:s.length<46;rw[cW,aF hc,ak,show(46:Int)-(s.length:Int)=((46-s.length:Nat):Int) by omega,VX _];simp only[af,ab];rw[aR (by rw[C1];omega)];rw[lE,aG hc];rfl
def pB (e:K8):Bool:=dk e.1 0 281474976710655&&(dk e.2.1 0 281474976710655&&(dk e.2.2.1 (-1) 4095&&(dk e.2.2.2.1 1536 65535&&((e.2.2.2.1 !=33024)&&dk (e.2.2.2.2.length:Int) 46 400))))
theorem G4 (e:K8):uw e=some (pB e):=by simp only[uw,ed,ab,bX,cF,pB]
theorem Mv (e:K8):xO e=some (pB e):=G4 e
def XP (a:Int):Bytes:=(iy a).getD []
theorem yE (a:Int):iy a=some (XP a)/\(XP a).length<=6:=by
 have h:∃x,iy a=some x/\x.length<=6:=by unfold iy;rw[lF];simp only[nn,pn,ab];have h1:=bD (fdiv a (2^(nW 32)));have h2:=ef (aq (toNat (fY a&&&fY 4294967295)));rw[aR];exact⟨_,rfl,by simp only[ai];omega⟩
 obtain⟨x,hx,hl⟩:=h;unfold XP;rw[hx];exact⟨rfl,hl⟩
theorem adf (a:Int):uW a=some (XP a):=(yE a).1
def Md (e:K8):Bytes:=(bif decide (e.2.2.1>=0) then(((XP e.1++XP e.2.1)++bN 33024)++bN e.2.2.1) else XP e.1++XP e.2.1)++bN e.2.2.2.1++e.2.2.2.2
theorem aap (e:K8):(Md e).length<=18+e.2.2.2.2.length:=by have:=(yE e.1).2;have:=(yE e.2.1).2;have:=bD 33024;have:=bD e.2.2.1;have:=bD e.2.2.2.1;unfold Md;cases decide (e.2.2.1>=0)<;>simp only[ah,af,ai]<;>omega
def PZ (e:K8):Bytes×Bool:=bif pB e then(Md e,true) else([],false)
theorem adO (e:K8):vd e=some (PZ e):=by
 unfold vd PZ;rw[G4,ab];cases he:pB e;rfl;have hn:(e.2.2.2.2.length:Int)<=400:=by simp only[pB,ae,bf]at he;omega
 have:=(yE e.1).2;have:=(yE e.2.1).2;have:=bD 33024;have:=bD e.2.2.1;have:=bD e.2.2.2.1;simp only[(yE _).1,nn,ab,aj,af,ah,Md];rw[aR];cases decide (e.2.2.1>=0)with|true=>simp only[ah];rw[aR (by simp only[ai];omega),aR (by simp only[ai];omega),aR (by simp only[ai];omega),aR (by simp only[ai];omega)]|false=>simp only[af];rw[aR (by simp only[ai];omega),aR (by simp only[ai];omega)]
theorem adb (e:K8):uI e=some (PZ e):=by
 unfold uI PZ;rw[Mv,ab];cases he:pB e;rfl;have hn:(e.2.2.2.2.length:Int)<=400:=by simp only[pB,ae,bf]at he;omega
 have:=(yE e.1).2;have:=(yE e.2.1).2;have:=bD 33024;have:=bD e.2.2.1;have:=bD e.2.2.2.1;simp only[adf,kh,ab,aj,af,ah,Md];rw[aR];cases decide (e.2.2.1>=0)with|true=>simp only[ah];rw[aR,aR (by simp only[ai];omega),aR (by simp only[ai];omega),aR (by simp only[ai];omega)];simp only[aJ]|false=>simp only[af];rw[aR (by simp only[ai];omega),aR (by simp only[ai];omega)]
def adI (p:aO):Bytes×Bool:=za p.2.2.2.2.2.2.1 p.2.2.2.2.2.2.2.1 p.2.2.2.2.2.2.2.2
def XF (p:aO):Bytes×Bool:=Pt (p.2.2.2.1,p.2.2.2.2.1,p.2.2.2.2.2.1,p.2.2.2.2.2.2.2.2.1,p.2.2.2.2.2.2.1,p.2.2.2.2.2.2.2.1,(adI p).1)
def acV (p:aO):Bytes×Bool:=PZ (p.1,p.2.1,p.2.2.1,2048,pad (XF p).1)
def dx (p:aO):Bytes×Bool:=bif dq p then acV p else([],false)
theorem Oy (p:aO):(XF p).1.length<=360:=by have h1:=adJ p.2.2.2.2.2.2.1 p.2.2.2.2.2.2.2.1 p.2.2.2.2.2.2.2.2;unfold XF Pt;cases T7 (p.2.2.2.1,p.2.2.2.2.1,p.2.2.2.2.2.1,p.2.2.2.2.2.2.2.2.1,p.2.2.2.2.2.2.1,p.2.2.2.2.2.2.2.1,(adI p).1)with|false=>exact bP _|true=>have h2:=Gx (p.2.2.2.1,p.2.2.2.2.1,p.2.2.2.2.2.1,p.2.2.2.2.2.2.2.2.1,p.2.2.2.2.2.2.1,p.2.2.2.2.2.2.2.1,(adI p).1);have h3:(adI p).1.length<=340:=h1;simp only[ah,ai];omega
theorem YJ (p:aO):rz p=some (dx p):=by have hl:=Oy p;unfold rz dx;simp only[Ha,Ce,abV,ab];rw[show(Pt (p.2.2.2.1,p.2.2.2.2.1,p.2.2.2.2.2.1,p.2.2.2.2.2.2.2.2.1,p.2.2.2.2.2.2.1,p.2.2.2.2.2.2.2.1,(za p.2.2.2.2.2.2.1 p.2.2.2.2.2.2.2.1 p.2.2.2.2.2.2.2.2).1))=XF p from rfl,adP _ (by omega),ab,adO];cases dq p<;>rfl
theorem CM (p:aO):gH p=some (dx p):=by have hl:=Oy p;unfold gH dx;simp only[nY,BQ,aaX,ab];rw[show(Pt (p.2.2.2.1,p.2.2.2.2.1,p.2.2.2.2.2.1,p.2.2.2.2.2.2.2.2.1,p.2.2.2.2.2.2.1,p.2.2.2.2.2.2.2.1,(za p.2.2.2.2.2.2.1 p.2.2.2.2.2.2.2.1 p.2.2.2.2.2.2.2.2).1))=XF p from rfl,adg _ (by omega),ab,adb];cases dq p<;>rfl
theorem CL (h:dq p=true):(dx p).2=true:=by
 have hl:=Oy p;have hh:ow p=true:=by simp only[dq,ae]at h;exact h.1
 have hp:=OK (XF p).1;unfold dx acV PZ;rw[h,ah];have:pB (p.1,p.2.1,p.2.2.1,2048,pad (XF p).1)=true:=by simp only[ow,ae]at hh;simp only[pB,ae];refine⟨hh.1,hh.2.1,hh.2.2.1,by decide,by decide,bf.2 ?_⟩;omega
 rw[this];rfl
theorem xp (p:aO):(dx p).1.length<=378:=by have hl:=Oy p;have hp:=OK (XF p).1;unfold dx acV PZ;cases dq p with|false=>exact bP _|true=>cases pB (p.1,p.2.1,p.2.2.1,2048,pad (XF p).1)with|false=>exact bP _|true=>have:=aap (p.1,p.2.1,p.2.2.1,2048,pad (XF p).1);simp only[ah]at this⊢;omega
def fcs (c:Int):Bytes:=aK [fS c,fS (fdiv c (2^(nW 8))),fS (fdiv c (2^(nW 16))),fS (fdiv c (2^(nW 24)))]
def yI (s:Bytes):Bytes:=s++fcs (ZM s)
theorem acX (c:Int):(fcs c).length=4:=rfl
theorem Wk (s:Bytes)(h:s.length<=10^9):tH s=some (yI s):=by unfold tH;rw[adL s h,ab,lF,lF,lF];exact aR (by show s.length+4<=_;omega)
theorem VW (s:Bytes)(h:s.length<=10^9):tc s=some (yI s):=by unfold tc;rw[ac9 s h,ab,lF,lF,lF];exact aR (by show s.length+4<=_;omega)
def fT (p:aO):Bool:=dq p&&decide ((p.2.2.2.2.2.2.2.2.2.2.2.2.2.2.2.length:Int)<=128)
theorem KK (p:aO):qW p=some (fT p):=by simp only[qW,Ha,ab,bX,cF,fT]
theorem Ag (p:aO):lq p=some (fT p):=by simp only[lq,nY,ab,bX,cF,fT]
def xF (p:aO):Bytes×Bool:=bif fT p then(yI (dx p).1,true) else([],false)
theorem YI (p:aO):ry p=some (xF p):=by have hl:=xp p;simp only[ry,KK,YJ,Wk _ (show(dx p).1.length<=10^9 by omega),ab,xF];cases fT p<;>rfl
theorem Xo (p:aO):re p=some (xF p):=by
 have hl:=xp p;simp only[re,Ag,CM,VW _ (show(dx p).1.length<=10^9 by omega),ab,xF];cases hp:fT p with
 |false=>rfl
 |true=>
  have:dq p=true:=by simp only[fT,ae]at hp;exact hp.1
  rw[CL this];rfl
theorem Mm (p:aO):(xF p).1.length<=382:=by have hl:=xp p;unfold xF;cases fT p with|false=>exact bP _|true=>simp only[ah,yI,ai,acX];omega
def UD (p:aO)(z:Int)(k:Nat):aO:=
 (p.1,p.2.1,p.2.2.1,p.2.2.2.1,tmod (aq (p.2.2.2.2.1+(k:Int))) 65536,p.2.2.2.2.2.1,p.2.2.2.2.2.2.1,p.2.2.2.2.2.2.2.1,p.2.2.2.2.2.2.2.2.1,p.2.2.2.2.2.2.2.2.2.1,p.2.2.2.2.2.2.2.2.2.2.1,
   tmod (aq (p.2.2.2.2.2.2.2.2.2.2.2.1+((k:Int)*z))) 4294967296,p.2.2.2.2.2.2.2.2.2.2.2.2.1,
   (bif decide (((k:Int)+1)*z<(p.2.2.2.2.2.2.2.2.2.2.2.2.2.2.2.length:Int)) then aq (toNat (fY p.2.2.2.2.2.2.2.2.2.2.2.2.2.1&&&~~~ fY 9)) else p.2.2.2.2.2.2.2.2.2.2.2.2.2.1),
   p.2.2.2.2.2.2.2.2.2.2.2.2.2.2.1,(p.2.2.2.2.2.2.2.2.2.2.2.2.2.2.2.take (min ((k+1)*z.toNat) p.2.2.2.2.2.2.2.2.2.2.2.2.2.2.2.length)).drop (k*z.toNat))
def rq (n z:Nat):Nat:=(n+z-1)/z
def Ed (p:aO)(z:Int):aw aO:=bif dq p&&dk z 1 128 then
    (bif (p.2.2.2.2.2.2.2.2.1 !=6)||decide ((p.2.2.2.2.2.2.2.2.2.2.2.2.2.2.2.length:Int)<=z) then [p] else(range (rq p.2.2.2.2.2.2.2.2.2.2.2.2.2.2.2.length z.toNat)).map (UD p z)) else []
theorem MX {z k:Nat}(hz:0<z:=by omega):k<rq n z↔k*z<n:=by unfold rq;rw[Nat.lt_div_iff_mul_lt hz];omega
theorem AF (h:dq p=true):p.2.2.2.2.2.2.2.2.2.2.2.2.2.2.2.length<=320:=by
 have hh:ow p=true:=by simp only[dq,ae]at h;exact h.1
 exact Ca (xJ hh)
theorem YQ {k z:Nat}(hk:k*z<b.length)(hb:b.length<=320):sub b ((k*z:Nat):Int) ((min ((k+1)*z) b.length:Nat):Int)=some ((b.take (min ((k+1)*z) b.length)).drop (k*z)):=by have:k*z<=(k+1)*z:=cq _ (by omega);unfold sub;rw[zip,az,az]
theorem Xw (p:aO)(z:Int):Aj p z=some (Ed p z):=by
 unfold Aj Ed;simp only[nY,dh,ab];cases hs:dq p;rfl;cases hz:dk z 1 128;rfl;have hz':=bf.1 hz;have hb:=AF hs;simp only[aj,af,eS,ah,ab,bX,cT];cases hq:(p.2.2.2.2.2.2.2.2.1 !=6)||decide ((p.2.2.2.2.2.2.2.2.2.2.2.2.2.2.2.length:Int)<=z)with
 |true=>rfl
 |false=>
  simp only[af];obtain⟨m,rfl⟩:=aV (show 0<=z by omega);have hN:∀k,k<rq p.2.2.2.2.2.2.2.2.2.2.2.2.2.2.2.length m↔k*m<p.2.2.2.2.2.2.2.2.2.2.2.2.2.2.2.length:=λk=>MX;have EV:rq p.2.2.2.2.2.2.2.2.2.2.2.2.2.2.2.length m<=320:=by rcases bW 320 (rq p.2.2.2.2.2.2.2.2.2.2.2.2.2.2.2.length m)with h|h;have:=(hN 320).1 h;have:320*1<=320*m:=Nat.mul_le_mul_left _ (by omega);omega;exact h
  refine ew (λk=>((range k).map (UD p (m:Int)),(k:Int))) (rq p.2.2.2.2.2.2.2.2.2.2.2.2.2.2.2.length m) (by omega) (λk nx hk=>?_) (λnx=>?_);have hkm:=(hN k).1 hk;have hk1:(k+1)*m=k*m+m:=by rw[cw,eT]
  have e1:(k:Int)*(m:Int)=((k*m:Nat):Int):=by push_cast;rfl
  have e2:((k:Int)+1)*(m:Int)=(((k+1)*m:Nat):Int):=by push_cast;rfl
  have oh:=YQ hkm hb;simp only[uT];rw[ak (n:=(k:Int)+1),e1,e2,gW (n:=k*m),gW (n:=(k+1)*m),lE,ah];rw[List.range_succ,cY,List.map_singleton];simp only[UD,e1,e2,az];by_cases hc:(((k+1)*m:Nat):Int)<(p.2.2.2.2.2.2.2.2.2.2.2.2.2.2.2.length:Int);rw[au hc];rw[show min ((k+1)*m) p.2.2.2.2.2.2.2.2.2.2.2.2.2.2.2.length=(k+1)*m by omega]at oh⊢;simp only[ah];rw[oh,ab,lF,lF,aR (by simp;omega)];rfl;rw[ar hc];rw[show min ((k+1)*m) p.2.2.2.2.2.2.2.2.2.2.2.2.2.2.2.length=p.2.2.2.2.2.2.2.2.2.2.2.2.2.2.2.length by omega]at oh⊢;simp only[af];rw[oh,ab,lF,lF,aR (by simp;omega)];rfl;have hkm:¬rq p.2.2.2.2.2.2.2.2.2.2.2.2.2.2.2.length m*m<p.2.2.2.2.2.2.2.2.2.2.2.2.2.2.2.length:=λh=>absurd ((hN _).2 h) (Nat.lt_irrefl _);have hub:rq p.2.2.2.2.2.2.2.2.2.2.2.2.2.2.2.length m*m<=320*128:=Nat.mul_le_mul EV (by omega);have e1:((rq p.2.2.2.2.2.2.2.2.2.2.2.2.2.2.2.length m:Nat):Int)*(m:Int)=((rq p.2.2.2.2.2.2.2.2.2.2.2.2.2.2.2.length m*m:Nat):Int):=by push_cast;rfl
  simp only[uT];rw[e1,gW,cW];rfl
theorem KP (p:aO)(z:Int):(Ed p z).length<=320:=by unfold Ed;cases hs:dq p&&dk z 1 128;exact bP _;simp only[ae,bf]at hs;have hb:=AF hs.1;cases (p.2.2.2.2.2.2.2.2.1 !=6)||decide ((p.2.2.2.2.2.2.2.2.2.2.2.2.2.2.2.length:Int)<=z)with|true=>simp only[ah,bw];omega|false=>simp only[ah,af,cp,List.length_range];rcases bW 320 (rq p.2.2.2.2.2.2.2.2.2.2.2.2.2.2.2.length z.toNat)with h|h;have:=(MX).1 h;have:320*1<=320*z.toNat:=Nat.mul_le_mul_left _ (by omega);omega;exact h
def Nn (acc:bT)(p:aO):bT:=bif (xF p).2 then acc++[(xF p).1] else acc
theorem Py (acc:bT)(p:aO):(Nn acc p).length<=acc.length+1:=by unfold Nn;cases (xF p).2<;>simp
def Iz (l:aw aO):bT:=l.foldl Nn []
theorem Ho:∀(l:aw aO)(acc:bT),(l.foldl Nn acc).length<=acc.length+l.length
 |[],acc=>by simp
 |p::l,acc=>by have:=Ho l (Nn acc p);have:=Py acc p;simp only[List.foldl_cons,bq];omega
theorem C9:∀(l:aw aO)(acc:bT),(∀x∈acc,x.length<=382)->∀x∈l.foldl Nn acc,x.length<=382
 |[],acc,h=>h
 |p::l,acc,h=>by rw[List.foldl_cons];refine C9 l _ (λx hx=>?_);unfold Nn at hx;cases hf:(xF p).2 with|false=>rw[hf]at hx;exact h x hx|true=>rw[hf]at hx;simp only[ah,ax,cj]at hx;rcases hx with hx|hx;exact h x hx;rw[hx];exact Mm p
theorem TU (l:aw aO)(h:l.length<=10^9):uN l=some (Iz l):=by
 unfold uN Iz;have:=FF (T:=mj (λ(y3:bT) (_:Int)=>some y3) l (l.length:Int)) l (λ(s:bT) i=>(s,(i:Int))) (λi s=>s.length<=i) (λp s=> .ok (Nn s p)) (λs=>some s) (by omega) (λi hi s nx hI=>?hs) (λi hi s s' hI hg=>?hn) (λs nx hI=>?hf) [] (by simp)
 case hs=>
  simp only[mj]
  rw[lE,bz hi,ak (n:=(i:Int)+1)]
  simp only[ah,ab,Xo,Nn]
  rw[aR (by simp;omega)]
  cases (xF l[i]).2<;>rfl
 case hn=>cases hg;have:=Py s l[i];omega
 case hf=>
  simp only[mj]
  rw[cW];rfl
 rw[IH]at this;exact this
def RV (p:aO)(z:Int):bT:=Iz (Ed p z)
theorem aa5 (p:aO)(z:Int):rj p z=some (RV p z):=by have:=KP p z;simp only[rj,Xw,TU _ (show(Ed p z).length<=10^9 by omega),ab];rfl
theorem YC (p:aO)(z:Int):(RV p z).length<=320/\∀x∈RV p z,x.length<=382:=by have:=KP p z;have:=Ho (Ed p z) [];exact⟨by unfold RV Iz;simp only[eG]at this;omega,C9 _ [] (by simp)⟩
theorem BF {a:Int}(h0:0<=a:=by omega)(h:a+2<=(s.length:Int):=by omega):0<=cd s a/\cd s a<=65535:=by have h1:=eo s a.toNat;have h2:=eo s (a.toNat+1);unfold cd eQ;rw[au ⟨h0,h⟩];simp only[ah];omega
theorem zl {a:Int}(h0:0<=a:=by omega)(h:a+4<=(s.length:Int):=by omega):0<=fA s a/\fA s a<=4294967295:=by have h1:=eo s a.toNat;have h2:=eo s (a.toNat+1);have h3:=eo s (a.toNat+2);have h4:=eo s (a.toNat+3);unfold fA eQ;rw[au ⟨h0,h⟩];simp only[ah];omega
theorem abh {x y:Int}(hx:0<=x/\x<=65535)(hy:0<=y/\y<=4294967295):aq (toNat (fY (aq (x*2^(nW 32)))|||fY y))=x*4294967296+y:=by have e:(2:Int)^(nW 32)=4294967296:=rfl;obtain⟨x,rfl⟩:=aV hx.1;obtain⟨y,rfl⟩:=aV hy.1;rw[e,ak (n:=(x:Int)*4294967296),show(x:Int)*4294967296=((2^32*x:Nat):Int) by omega,D7 x 32 y];omega
theorem V4 {x y:Int}(hx:0<=x/\x<=65535)(hy:0<=y/\y<=4294967295):aq (aq (x*2^(nW 32))+y)=x*4294967296+y:=by have e:(2:Int)^(nW 32)=4294967296:=rfl;rw[e,ak (n:=x*4294967296),ak]
theorem xg {l:aw α}{n:Int}(h0:0<=n:=by omega)(h1:n<=(l.length:Int):=by omega):sub l 0 n=some (l.take n.toNat):=by unfold sub;rw[zip];simp
theorem tQ {l:aw α}(k:Nat)(h:k<=l.length){a:Int}(ha:a=(k:Int)):sub l a (l.length:Int)=some (l.drop k):=by unfold sub;rw[zip];subst ha;simp
theorem Pc {l:aw α}(k:Nat){a n:Int}(ha:a=(k:Int))(h0:a<=n:=by omega)(h1:n<=(l.length:Int):=by omega):sub l a n=some ((l.take n.toNat).drop k):=by unfold sub;rw[zip];subst ha;simp
def zT (s:Bytes):Bytes×Bool:=bif decide ((s.length:Int)<4) then([],false) else bif yI (s.take ((s.length:Int)-4).toNat)==s then(s.take ((s.length:Int)-4).toNat,true) else([],false)
theorem UU (s:Bytes)(h:s.length<=10^9):vf s=some (zT s):=by unfold vf zT;rw[ak (n:=(s.length:Int)-4)];by_cases h4:(s.length:Int)<4;rw[au h4];rfl;rw[ar h4,xg];simp only[af,ab,Wk _ (show(s.take ((s.length:Int)-4).toNat).length<=10^9 by rw[aX];omega)];cases yI (s.take ((s.length:Int)-4).toNat)==s<;>rfl
theorem TR (s:Bytes)(h:s.length<=10^9):uJ s=some (zT s):=by unfold uJ zT;rw[ak (n:=(s.length:Int)-4)];by_cases h4:(s.length:Int)<4;rw[au (show(s.length:Int)-4<0 by omega),au h4];rfl;rw[ar (show¬(s.length:Int)-4<0 by omega),ar h4,xg];simp only[af,ab,VW _ (show(s.take ((s.length:Int)-4).toNat).length<=10^9 by rw[aX];omega)];cases yI (s.take ((s.length:Int)-4).toNat)==s<;>rfl
def aao:K8:=(0,0,0,0,([]:Bytes))
def Dk (s:Bytes)(a:Int):Int:=cd s a*4294967296+fA s (a+2)
def DP (s:Bytes):K8:=(Dk s 0,Dk s 6,cd s 14,cd s 16,s.drop 18)
def vx (s:Bytes):K8:=(Dk s 0,Dk s 6, -1,cd s 12,s.drop 14)
def fF (s:Bytes):K8×Bool:=bif decide ((s.length:Int)<18) then(aao,false) else
 bif cd s 12==33024 then(bif pB (DP s) then(DP s,true) else(aao,false)) else bif pB (vx s) then(vx s,true) else(aao,false)
theorem O1 (s:Bytes)(h:s.length<=10^9):vj s=some (fF s):=by unfold vj fF;by_cases h8:(s.length:Int)<18;rw[au h8];rfl;rw[ar h8];simp only[af,zM s _ h,G8 s _ h,ab];rw[lF,lF,tQ (l:=s) 14 (by omega) (show(14:Int)=((14:Nat):Int) from rfl),ab,tQ (l:=s) 18 (by omega) (show(18:Int)=((18:Nat):Int) from rfl)];rw[V4 (BF (s:=s) (a:=0)) (zl (s:=s) (a:=2)),V4 (BF (s:=s) (a:=6)) (zl (s:=s) (a:=8))];simp only[ab,G4];rw[show((cd s 0*4294967296+fA s 2,cd s 6*4294967296+fA s 8,cd s 14,cd s 16,s.drop 18):K8)=DP s from rfl,show((cd s 0*4294967296+fA s 2,cd s 6*4294967296+fA s 8, -1,cd s 12,s.drop 14):K8)=vx s from rfl];cases cd s 12==33024<;>cases pB (DP s)<;>cases pB (vx s)<;>rfl
theorem E8 (s:Bytes)(h:s.length<=10^9):qI s=some (fF s):=by
 unfold qI fF;by_cases h4:(s.length:Int)<14;rw[au h4,au (show(s.length:Int)<18 by omega)];rfl;rw[ar h4];simp only[af,ue s _ h,xq s _ h,ab];rw[lF,lF,tQ (l:=s) 14 (by omega) (show(14:Int)=((14:Nat):Int) from rfl),ab];rw[abh (BF (s:=s) (a:=0)) (zl (s:=s) (a:=2)),abh (BF (s:=s) (a:=6)) (zl (s:=s) (a:=8))];simp only[ab,Mv];rw[show((cd s 0*4294967296+fA s 2,cd s 6*4294967296+fA s 8, -1,cd s 12,s.drop 14):K8)=vx s from rfl];by_cases h8:(s.length:Int)<18;have hB:pB (vx s)=false:=by
  unfold pB vx;have:dk ((s.drop 14).length:Int) 46 400=false:=by rw[Bool.eq_false_iff,ne_eq,bf,aN];omega
  simp only[this,fz]
 rw[au h8,ar (show¬(s.length:Int)>=18 by omega),hB];cases cd s 12==33024<;>rfl;rw[ar h8,au (show(s.length:Int)>=18 by omega),tQ (l:=s) 18 (by omega) (show(18:Int)=((18:Nat):Int) from rfl)];simp only[ab];rw[show((cd s 0*4294967296+fA s 2,cd s 6*4294967296+fA s 8,cd s 14,cd s 16,s.drop 18):K8)=DP s from rfl];cases cd s 12==33024<;>cases pB (DP s)<;>cases pB (vx s)<;>rfl
def ip0:Ip:=(0,0,0,0,0,0,([]:Bytes))
def Ao (s:Bytes):Ip:=((bH s 1:Int),cd s 4,(bH s 8:Int),(bH s 9:Int),fA s 12,fA s 16,(s.take (cd s 2).toNat).drop 20)
def kC (s:Bytes):Ip×Bool:=bif decide ((s.length:Int)<20)||(decide (cd s 2<20)||decide (cd s 2>(s.length:Int))) then(ip0,false) else
 bif (Pt (Ao s)).2&&((Pt (Ao s)).1==s.take (cd s 2).toNat) then(Ao s,true) else(ip0,false)
theorem R7 (s:Bytes)(h:s.length<=10^9):wR s=some (kC s):=by
 unfold wR kC;simp only[zM s _ h,G8 s _ h,ab];by_cases h1:(s.length:Int)<20;rw[au h1];rfl;by_cases h2:cd s 2<20;rw[ar h1,au h2];rfl;by_cases h3:cd s 2>(s.length:Int);rw[ar h1,ar h2,au h3];rfl;rw[ar h1,ar h2,ar h3];have b1:=lL (s[1]'(by omega));have b8:=lL (s[8]'(by omega));have b9:=lL (s[9]'(by omega));have i1:idx s 1=some (s[1]'(by omega)):=bz (i:=1) (by omega);have i8:idx s 8=some (s[8]'(by omega)):=bz (i:=8) (by omega);have i9:idx s 9=some (s[9]'(by omega)):=bz (i:=9) (by omega);simp only[af,ab,bS,i1,i8,i9];rw[Pc (l:=s) 20 (show(20:Int)=((20:Nat):Int) from rfl),xg,gW (n:=(s[1]'(by omega)).toNat),gW (n:=(s[8]'(by omega)).toNat),gW (n:=(s[9]'(by omega)).toNat)];have e:(((s[1]'(by omega)).toNat:Int),cd s 4,((s[8]'(by omega)).toNat:Int),((s[9]'(by omega)).toNat:Int),fA s 12,fA s 16,(s.take (cd s 2).toNat).drop 20)=Ao s:=by simp only[Ao,bH,dg (show 1<s.length by omega),dg (show 8<s.length by omega),dg (show 9<s.length by omega)]
 simp only[ab,e,abV];cases (Pt (Ao s)).2<;>cases (Pt (Ao s)).1==s.take (cd s 2).toNat<;>rfl
theorem QN (s:Bytes)(h:s.length<=10^9):wL s=some (kC s):=by
 unfold wL kC;simp only[ue s _ h,xq s _ h,ab];by_cases h1:(s.length:Int)<20;rw[au h1];rfl;by_cases h2:cd s 2<20;rw[ar h1,au h2];rfl;by_cases h3:cd s 2>(s.length:Int);rw[ar h1,ar h2,au h3];rfl;rw[ar h1,ar h2,ar h3];have b1:=lL (s[1]'(by omega));have b8:=lL (s[8]'(by omega));have b9:=lL (s[9]'(by omega));have i1:idx s 1=some (s[1]'(by omega)):=bz (i:=1) (by omega);have i8:idx s 8=some (s[8]'(by omega)):=bz (i:=8) (by omega);have i9:idx s 9=some (s[9]'(by omega)):=bz (i:=9) (by omega);simp only[af,ab,bS,i1,i8,i9];rw[Pc (l:=s) 20 (show(20:Int)=((20:Nat):Int) from rfl),xg,gW (n:=(s[1]'(by omega)).toNat),gW (n:=(s[8]'(by omega)).toNat),gW (n:=(s[9]'(by omega)).toNat)];have e:(((s[1]'(by omega)).toNat:Int),cd s 4,((s[8]'(by omega)).toNat:Int),((s[9]'(by omega)).toNat:Int),fA s 12,fA s 16,(s.take (cd s 2).toNat).drop 20)=Ao s:=by simp only[Ao,bH,dg (show 1<s.length by omega),dg (show 8<s.length by omega),dg (show 9<s.length by omega)]
 simp only[ab,e,aaX];cases (Pt (Ao s)).2<;>cases (Pt (Ao s)).1==s.take (cd s 2).toNat<;>rfl
def agm:dW:=(0,0,0,0,0,0,0,([]:Bytes))
def KF (k:Int)(s:Bytes):dW:=(k,cd s 0,cd s 2,fA s 4,fA s 8,(bH s 13:Int),cd s 14,s.drop 20)
def OV (k:Int)(s:Bytes):dW:=(k,cd s 0,cd s 2,0,0,0,0,s.drop 8)
def pg (a b k:Int)(s:Bytes):dW×Bool:=
 bif (k==6)&&decide ((s.length:Int)>=20) then(bif (za a b (KF k s)).2&&((za a b (KF k s)).1==s) then(KF k s,true) else(agm,false)) else
 bif (k==17)&&decide ((s.length:Int)>=8) then(bif (za a b (OV k s)).2&&((za a b (OV k s)).1==s) then(OV k s,true) else(agm,false)) else(agm,false)
theorem O2 (a b k:Int)(s:Bytes)(h:s.length<=10^9):oM a b k s=some (pg a b k s):=by
 unfold oM pg;simp only[zM s _ h,G8 s _ h,ab];rw[show(aa (cond (k==6) (some (decide ((s.length:Int)>=20))) (some false)):(Bool->ay (dW×Bool))->ay (dW×Bool))=λK=>K ((k==6)&&decide ((s.length:Int)>=20)) from by funext K;cases k==6<;>rfl];rw[show(aa (cond (k==17) (some (decide ((s.length:Int)>=8))) (some false)):(Bool->ay (dW×Bool))->ay (dW×Bool))=λK=>K ((k==17)&&decide ((s.length:Int)>=8)) from by funext K;cases k==17<;>rfl];simp only;cases h1:(k==6)&&decide ((s.length:Int)>=20)with
 |true=>
  simp only[ae,aC]at h1;have bb:=lL (s[13]'(by omega));have i:idx s 13=some (s[13]'(by omega)):=bz (i:=13) (by omega);have e:(k,cd s 0,cd s 2,fA s 4,fA s 8,((s[13]'(by omega)).toNat:Int),cd s 14,s.drop 20)=KF k s:=by simp only[KF,bH,dg (show 13<s.length by omega)]
  simp only[ah,i,ab];rw[tQ (l:=s) 20 (by omega) (show(20:Int)=((20:Nat):Int) from rfl),gW (n:=(s[13]'(by omega)).toNat)];simp only[ab,e,Ce];cases (za a b (KF k s)).2<;>cases (za a b (KF k s)).1==s<;>rfl
 |false=>simp only[af];cases h2:(k==17)&&decide ((s.length:Int)>=8)with|false=>rfl|true=>simp only[ae,aC]at h2;rw[tQ (l:=s) 8 (by omega) (show(8:Int)=((8:Nat):Int) from rfl)];simp only[ah,ab,show((k,cd s 0,cd s 2,0,0,0,0,s.drop 8):dW)=OV k s from rfl,Ce];cases (za a b (OV k s)).2<;>cases (za a b (OV k s)).1==s<;>rfl
theorem Oq (a b k:Int)(s:Bytes)(h:s.length<=10^9):oD a b k s=some (pg a b k s):=by
 unfold oD pg;simp only[ue s _ h,xq s _ h,ab];rw[show(aa (cond (k==6) (some (decide ((s.length:Int)>=20))) (some false)):(Bool->ay (dW×Bool))->ay (dW×Bool))=λK=>K ((k==6)&&decide ((s.length:Int)>=20)) from by funext K;cases k==6<;>rfl];rw[show(aa (cond (k==17) (some (decide ((s.length:Int)>=8))) (some false)):(Bool->ay (dW×Bool))->ay (dW×Bool))=λK=>K ((k==17)&&decide ((s.length:Int)>=8)) from by funext K;cases k==17<;>rfl];simp only;cases h1:(k==6)&&decide ((s.length:Int)>=20)with
 |true=>
  simp only[ae,aC]at h1;have bb:=lL (s[13]'(by omega));have i:idx s 13=some (s[13]'(by omega)):=bz (i:=13) (by omega);have e:(k,cd s 0,cd s 2,fA s 4,fA s 8,((s[13]'(by omega)).toNat:Int),cd s 14,s.drop 20)=KF k s:=by simp only[KF,bH,dg (show 13<s.length by omega)]
  simp only[ah,i,ab];rw[tQ (l:=s) 20 (by omega) (show(20:Int)=((20:Nat):Int) from rfl),gW (n:=(s[13]'(by omega)).toNat)];simp only[ab,e,BQ];cases (za a b (KF k s)).2<;>cases (za a b (KF k s)).1==s<;>rfl
 |false=>simp only[af];cases h2:(k==17)&&decide ((s.length:Int)>=8)with|false=>rfl|true=>simp only[ae,aC]at h2;rw[tQ (l:=s) 8 (by omega) (show(8:Int)=((8:Nat):Int) from rfl)];simp only[ah,ab,show((k,cd s 0,cd s 2,0,0,0,0,s.drop 8):dW)=OV k s from rfl,BQ];cases (za a b (OV k s)).2<;>cases (za a b (OV k s)).1==s<;>rfl
def pk0:aO:=(0,0,0,0,0,0,0,0,0,0,0,0,0,0,0,([]:Bytes))
def jF (s:Bytes):aO×Int:=
 let e:=fF s
 bif !e.2||(e.1.2.2.2.1 !=2048) then(pk0,2) else
 let i:=kC e.1.2.2.2.2
 bif !i.2 then(pk0,3) else
 let g:=pg i.1.2.2.2.2.1 i.1.2.2.2.2.2.1 i.1.2.2.2.1 i.1.2.2.2.2.2.2
 bif !g.2 then(pk0,4) else
 bif !dq (e.1.1,e.1.2.1,e.1.2.2.1,i.1.1,i.1.2.1,i.1.2.2.1,i.1.2.2.2.2.1,i.1.2.2.2.2.2.1,g.1) then(pk0,5) else
 ((e.1.1,e.1.2.1,e.1.2.2.1,i.1.1,i.1.2.1,i.1.2.2.1,i.1.2.2.2.2.1,i.1.2.2.2.2.2.1,g.1),0)
theorem As (s:Bytes):(fF s).1.2.2.2.2.length<=s.length:=by
 unfold fF;cases decide ((s.length:Int)<18);case true=>simp[aao]
 cases cd s 12==33024<;>cases pB (DP s)<;>cases pB (vx s)<;>simp[aao,DP,vx]
theorem HG (s:Bytes):(kC s).1.2.2.2.2.2.2.length<=s.length:=by
 unfold kC;cases decide ((s.length:Int)<20)||(decide (cd s 2<20)||decide (cd s 2>(s.length:Int)));case true=>simp[ip0]
 cases (Pt (Ao s)).2&&((Pt (Ao s)).1==s.take (cd s 2).toNat)with|false=>simp[ip0]|true=>simp[Ao];omega
theorem YM (s:Bytes)(h:s.length<=10^9):tF s=some (jF s):=by
 have h1:=As s;unfold tF jF;rw[O1 s h,ab];generalize fF s=e at h1⊢;have h2:=HG e.1.2.2.2.2;simp only;cases e.2;rfl;cases e.1.2.2.2.1 !=2048;case true=>rfl
 simp only[aj,af,ab,bS,R7 _ (show e.1.2.2.2.2.length<=10^9 by omega)];generalize kC e.1.2.2.2.2=i at h2⊢;cases i.2;rfl;simp only[aj,af,ab,O2 _ _ _ _ (show i.1.2.2.2.2.2.2.length<=10^9 by omega)];generalize pg i.1.2.2.2.2.1 i.1.2.2.2.2.2.1 i.1.2.2.2.1 i.1.2.2.2.2.2.2=g;cases g.2;rfl;simp only[aj,af,ab,Ha];cases dq (e.1.1,e.1.2.1,e.1.2.2.1,i.1.1,i.1.2.1,i.1.2.2.1,i.1.2.2.2.2.1,i.1.2.2.2.2.2.1,g.1)<;>rfl
theorem CN (s:Bytes)(h:s.length<=10^9):ij s=some (jF s):=by
 have h1:=As s;unfold ij jF;rw[E8 s h,ab];generalize fF s=e at h1⊢;have h2:=HG e.1.2.2.2.2;simp only;cases e.2;rfl;cases e.1.2.2.2.1 !=2048;case true=>rfl
 simp only[aj,af,ab,bS,QN _ (show e.1.2.2.2.2.length<=10^9 by omega)];generalize kC e.1.2.2.2.2=i at h2⊢;cases i.2;rfl;simp only[aj,af,ab,Oq _ _ _ _ (show i.1.2.2.2.2.2.2.length<=10^9 by omega)];generalize pg i.1.2.2.2.2.1 i.1.2.2.2.2.2.1 i.1.2.2.2.1 i.1.2.2.2.2.2.2=g;cases g.2;rfl;simp only[aj,af,ab,nY];cases dq (e.1.1,e.1.2.1,e.1.2.2.1,i.1.1,i.1.2.1,i.1.2.2.1,i.1.2.2.2.2.1,i.1.2.2.2.2.2.1,g.1)<;>rfl
def nJ (s:Bytes):aO×Int:=
 let c:=zT s
 bif !c.2 then(pk0,1) else
 let r:=jF c.1
 bif r.2 !=0 then(pk0,r.2) else
 bif !fT r.1 then(pk0,5) else(r.1,0)
theorem I5 (s:Bytes):(zT s).1.length<=s.length:=by
 unfold zT;cases decide ((s.length:Int)<4);case true=>simp
 cases yI (s.take ((s.length:Int)-4).toNat)==s with|false=>simp|true=>simp;omega
theorem YL (s:Bytes)(h:s.length<=10^9):tE s=some (nJ s):=by
 have h1:=I5 s;unfold tE nJ;rw[UU s h,ab];generalize zT s=c at h1⊢;simp only;cases c.2;rfl;simp only[aj,af,ab,YM _ (show c.1.length<=10^9 by omega)];generalize jF c.1=r;cases r.2 !=0;case true=>rfl
 simp only[af,ab,KK];cases fT r.1<;>rfl
theorem Xr (s:Bytes)(h:s.length<=10^9):sX s=some (nJ s):=by
 have h1:=I5 s;unfold sX nJ;rw[TR s h,ab];generalize zT s=c at h1⊢;simp only;cases c.2;rfl;simp only[aj,af,ab,CN _ (show c.1.length<=10^9 by omega)];generalize jF c.1=r;cases r.2 !=0;case true=>rfl
 simp only[af,ab,Ag];cases fT r.1<;>rfl
theorem fJ (a:bT)(h:a.length<=1073741824:=by omega):cV a=some a:=by simp only[cV,jY];rw[aR (by simpa using h)];rfl
theorem Aq (a:bT)(h:a.length<=1073741824:=by omega):ll a=some a:=by simp only[ll];rw[aR (by simpa using h)];rfl
theorem Ig (l:bT)(h:l.length<=10^9):jY l=some l:=by simp only[jY,mC h,cA]
theorem JN (f:Filter)(h:f.2.2.length<=10^9):rn f=some f:=by simp only[rn,jR _ h,ab]
theorem KI (f:Filter)(h:f.2.2.length<=10^9):xd f=some f:=by simp only[xd,mC h,cA]
theorem wa (l:aw Stream)(h:l.length<=10^9:=by omega):jX l=some l:=by simp only[jX,mC h,cA]
theorem Lu (t:aw Slot)(h:t.length<=10^9):tf t=some t:=by simp only[tf,mC h,cA]
theorem JO (s:lp)(h:s.2.length<=10^9):rp s=some s:=by simp only[rp,jR _ h,ab]
theorem Lt (s:dc)(h1:s.1.length<=10^9)(h2:s.2.1.length<=10^9)(h3:s.2.2.2.length<=10^9):oH s=some s:=by simp only[oH,mC h1,Lu _ h2,JO _ h3,ab,cA]
theorem Du (t:aw Slot)(h:t.length<=10^9):tK t=some t:=by simp only[tK,mC h,cA]
theorem LJ (s:dc)(h1:s.1.length<=10^9)(h2:s.2.1.length<=10^9)(h3:s.2.2.2.length<=10^9):xa s=some s:=by simp only[xa,mC h1,Du _ h2,mC h3,ab,cA]
theorem YF (l:aw lZ)(i:Nat)(hi:i<l.length):l.take i++[(l[i].1,l[i].2.1,l[i].2.2)]=l.take (i+1):=(bG hi).symm
theorem E4 (l:aw lZ)(h:l.length<=10^9)(hx:∀x∈l,x.2.2.length<=10^9):qM l=some l:=by unfold qM;refine(ew (λi=>(l.take i,(i:Int))) l.length (by omega) (λi nx hi=>?_) (λnx=>?_));simp only[pW];rw[lE,bz hi,ak];simp only[ah,ab,jR _ (hx _ (bC hi))];rw[aR (by simp;omega),YF l i hi];rfl;simp only[pW];rw[cW,dZ];rfl
structure acG (t:dB):Prop where
 p:t.2.1.2.2.2.length<=10^9
 w:t.2.2.1.length<=10^9
 x:∀x∈t.2.2.1,x.2.2.length<=10^9
theorem DZ (t:dB)(z:acG t):oY t=some t:=by simp only[oY,sc _ z.p,E4 _ z.w z.x,ab]
theorem ahU (z:cX 1000000000 dJ h):acG h.2.2.1:=⟨z.2.2.1.2.1.2.2.2.1,z.2.2.1.2.2.1.1,λx hx=>(z.2.2.1.2.2.1.2 x hx).2.2.1⟩
theorem mT (h:Host)(z:cX 1000000000 dJ h):hY h=some h:=by have hp:h.2.2.2.2.1.length<=10^9:=z.2.2.2.2.1.1;have hm:h.1.length<=10^9:=z.1.1;unfold hY;simp only[fJ _ (show h.1.length<=1073741824 by omega),td,mC z.2.1.1,DZ _ (ahU z),mC z.2.2.2.1.1,ab,cA];refine(ew (λi=>((i:Int),h.1,h.2.1,h.2.2.1,h.2.2.2.1,h.2.2.2.2.1.take i,h.2.2.2.2.2)) h.2.2.2.2.1.length (by omega) (λi nx hi=>?_) (λnx=>?_));simp only[pV];rw[lE,bz hi,ak];simp only[ah,ab,sc _ (z.2.2.2.2.1.2 _ (bC hi)).2.2.2.1];rw[aR (by simp;omega),<-bG hi];rfl;simp only[pV];rw[cW,dZ];simp only[af,mC z.2.2.2.2.2.1.1,mC z.2.2.2.2.2.2.1.1,JN _ z.2.2.2.2.2.2.2.1.2.2.1,Lt _ z.2.2.2.2.2.2.2.2.1.1.1 z.2.2.2.2.2.2.2.2.1.2.1.1 z.2.2.2.2.2.2.2.2.1.2.2.2.1,wa _ z.2.2.2.2.2.2.2.2.2.1.1,Ig _ z.2.2.2.2.2.2.2.2.2.2.2.1.1,jR _ z.2.2.2.2.2.2.2.2.2.2.2.2.1.1,jR _ z.2.2.2.2.2.2.2.2.2.2.2.2.2.1.1,ab,cA]
theorem Vu:∀l:aw lZ,(bp l).length<=SB (.sl iO) l
 |[]=>by simp[bp]
 |x::l=>by have:=Vu l;simp only[bp,SB,List.flatMap_cons,ai,cD,List.sum_cons,bq]at this⊢;omega
def atF (f:DE)(s:Stream):Bool:=decide (s.1=f)
def Sd (l:aw Stream)(f:DE):Int:=match l.findIdx? (atF f)with|some i=>(i:Int)|none=> -1
theorem abY (l:aw Stream)(f:DE)(h:l.length<=10^9):qf l f=some (Sd l f):=by
 unfold qf Sd;rw[CB (p:=atF f) (hit:=λi=>some i) (fin:=some (-1)) l (by omega) (λi hi nx=>?hs) (λnx=>?hf)]
 case hs=>
  simp only[lX]
  rw[lE,bz hi,ak]
  simp only[ah,ab,EO,atF];rfl
 case hf=>
  simp only[lX]
  rw[cW];rfl
 cases l.findIdx? (atF f)<;>rfl
theorem aa6 (l:aw Stream)(f:DE)(h:l.length<=10^9):pO l f=some (Sd l f):=by
 unfold pO Sd;rw[CB (p:=atF f) (hit:=λi=>some i) (fin:=some (-1)) l (by omega) (λi hi nx=>?hs) (λnx=>?hf)]
 case hs=>
  simp only[lR]
  rw[lE,bz hi,ak]
  simp only[ah,ab,EO,atF];rfl
 case hf=>
  simp only[lR]
  rw[cW];rfl
 cases l.findIdx? (atF f)<;>rfl
def U9:Stream:=((0,0,0,0,0),0,([]:Bytes),false)
def body (p:aO):Bytes:=p.2.2.2.2.2.2.2.2.2.2.2.2.2.2.2
def udp (p:aO):Bytes:=bN ((body p).length:Int)++body p
def C3 (p:aO)(b:Int):Bool:=aq (toNat (fY p.2.2.2.2.2.2.2.2.2.2.2.2.2.1&&&fY b)) !=0
def vS (s:Stream)(p:aO):Int:=(s.2.1-p.2.2.2.2.2.2.2.2.2.2.2.1)%4294967296
def agq (s:Stream)(p:aO):Stream:=(s.1,(s.2.1+((body p).length:Int)-vS s p)%4294967296,s.2.2.1++(body p).drop (vS s p).toNat,C3 p 1)
def Bt (l:aw Stream)(p:aO):aw Stream:=
 bif !dq p then l else
 match l.findIdx? (atF (kH p))with
 |none=>
  bif p.2.2.2.2.2.2.2.2.1==17 then l++[(kH p,0,udp p,false)] else
  bif C3 p 2 then l++[(kH p,tmod (aq (p.2.2.2.2.2.2.2.2.2.2.2.1+1)) 4294967296,([]:Bytes),false)] else l
 |some i=>
  bif p.2.2.2.2.2.2.2.2.1==17 then l.set i ((l.getD i U9).1,(l.getD i U9).2.1,(l.getD i U9).2.2.1++udp p,(l.getD i U9).2.2.2) else
  bif C3 p 2 then l else
  bif (l.getD i U9).2.2.2||C3 p 4 then l else
  bif decide (vS (l.getD i U9) p<=((body p).length:Int)) then l.set i (agq (l.getD i U9) p) else l
theorem ZC (s:Stream)(p:aO):0<=vS s p/\vS s p<4294967296:=by unfold vS;omega
theorem af1 (x:Int):aq (toNat (fY x&&&fY 4294967295))=x%4294967296:=by have:=Bj x 32;rw[show((2:Int)^32-1)=4294967295 from rfl,show((2:Int)^32)=4294967296 from rfl]at this;rw[this,ak]
theorem aeM (x:Int):aq x%4294967296=x%4294967296:=by have:=zQ x 32;rwa[show((2:Int)^32)=4294967296 from rfl]at this
theorem OX (l:aw α)(x y:α):(l++[x]).set l.length y=l++[y]:=by rw[List.set_append_right _ _ (aS _),kK,List.set_cons_zero]
theorem ac8 {l:aw α}(h:i<l.length)(x:α):idx (l.set i x) (i:Int)=some x:=by rw[Ok,List.getElem?_set_self h]
theorem E2 (l:aw α)(x:α):idx (l++[x]) (l.length:Int)=some x:=by rw[Ok,bl (aS _),kK];rfl
theorem PH (h:dq p=true):(body p).length<=320:=AF h
theorem Om (l:aw Stream)(p:aO)(h:cX 900000000 (.sl dM) l):wI l p=some (Bt l p):=by
 have hl:l.length<=900000000:=h.1;unfold wI Bt;simp only[wa l,nY,ab,JQ,aa6 l _ (show l.length<=10^9 by omega),kh];cases hs:dq p;rfl;have hb:=PH hs;have hw:=bD ((body p).length:Int);simp only[aj,af];rw[show p.2.2.2.2.2.2.2.2.2.2.2.2.2.2.2=body p from rfl];cases hf:l.findIdx? (atF (kH p))with
 |none=>
  have e1:Sd l (kH p)= -1:=by rw[Sd,hf]
  simp only[e1,show decide ((-1:Int)<0)=true from rfl,ah];cases p.2.2.2.2.2.2.2.2.1==17 with|true=>simp only[ah];rw[aR (by simp;omega),E2,ab];simp only;rw[aR,aR (by simp only[ai,eG];omega),ab,az];simp only[ab,E2,OX,cA];rfl|false=>simp only[af];rw[show(aq (toNat (fY p.2.2.2.2.2.2.2.2.2.2.2.2.2.1&&&fY 2)) !=0)=C3 p 2 from rfl];cases C3 p 2 with|true=>simp only[ah];rw[lF,aR (by simp;omega)]|false=>rfl
 |some i=>
  obtain⟨hi,_⟩:=List.findIdx?_eq_some_iff_getElem.1 hf;have hd:(l[i].2.2.1).length<=900000000:=(h.2 _ (bC hi)).2.2.1;have e1:Sd l (kH p)=(i:Int):=by rw[Sd,hf]
  simp only[e1,ar (show¬(i:Int)<0 by omega),af,bz hi,ab,dg hi,az];cases p.2.2.2.2.2.2.2.2.1==17 with
  |true=>simp only[ah];rw[aR,aR (by simp only[ai];omega)];rfl
  |false=>
   simp only[af];rw[show(aq (toNat (fY p.2.2.2.2.2.2.2.2.2.2.2.2.2.1&&&fY 2)) !=0)=C3 p 2 from rfl,show(aq (toNat (fY p.2.2.2.2.2.2.2.2.2.2.2.2.2.1&&&fY 4)) !=0)=C3 p 4 from rfl,show(aq (toNat (fY p.2.2.2.2.2.2.2.2.2.2.2.2.2.1&&&fY 1)) !=0)=C3 p 1 from rfl];cases C3 p 2;case true=>rfl
   simp only[af];rw[show(aa (cond l[i].2.2.2 (some true) (some (C3 p 4))):(Bool->ay (aw Stream))->ay (aw Stream))=λK=>K (l[i].2.2.2||C3 p 4) from by funext K;cases l[i].2.2.2<;>rfl];simp only;cases l[i].2.2.2||C3 p 4;case true=>rfl
   simp only[af,GH _ 4294967296,ab,aeM];rw[show(l[i].2.1-p.2.2.2.2.2.2.2.2.2.2.2.1)%4294967296=vS l[i] p from rfl];have ha:=ZC l[i] p;by_cases hq:vS l[i] p<=((body p).length:Int)
   rw[au hq,tQ (l:=body p) (vS l[i] p).toNat (by omega) (by omega)];simp only[ah,ab];rw[aR (by rw[aN];omega)];simp only[ac8 hi,ab,List.set_set];refine congrArg some (congrArg (l.set i) ?_);simp only[agq];rw[show(aq (l[i].2.1+((body p).length:Int))-vS l[i] p)%4294967296=(l[i].2.1+((body p).length:Int)-vS l[i] p)%4294967296 from by rw[Int.sub_emod,aeM,<-Int.sub_emod]];rw[ar hq];rfl
theorem NU {l:aw Stream}(h:cX n (.sl dM) l):cX (n+322) (.sl dM) (Bt l p):=by
 have h':cX (n+322) (.sl dM) l:=h.mono;unfold Bt;cases hs:dq p;exact h';have hb:=PH hs;have hw:=bD ((body p).length:Int);have hu:(udp p).length<=322:=by simp only[udp,ai];omega
 simp only[aj,af];have app:∀x:Stream,x.2.2.1.length<=n+322->cX (n+322) (.sl dM) (l++[x]):=by intro x hx;refine⟨?_,λy hy=>?_⟩;have:l.length<=n:=h.1;simp only[ai,bw];omega;rcases ax.1 hy with g|g;exact h'.2 y g;rw[cj.1 g];exact⟨⟨cr,cr,cr,cr,cr⟩,cr,hx,cr⟩
 have put:∀(i:Nat)(x:Stream),x.2.2.1.length<=n+322->cX (n+322) (.sl dM) (l.set i x):=by intro i x hx;refine⟨?_,λy hy=>?_⟩;show(l.set i x).length<=_;rw[aB];exact h'.1;rcases List.mem_or_eq_of_mem_set hy with g|rfl;exact h'.2 y g;exact⟨⟨cr,cr,cr,cr,cr⟩,cr,hx,cr⟩
 split;cases p.2.2.2.2.2.2.2.2.1==17 with|true=>exact app _ (show(udp p).length<=_ by omega)|false=>cases C3 p 2 with|true=>exact app _ (bP _)|false=>exact h'
 ·rename_i i hf;obtain⟨hi,_⟩:=List.findIdx?_eq_some_iff_getElem.1 hf;have hd:(l[i].2.2.1).length<=n:=(h.2 _ (bC hi)).2.2.1;simp only[dg hi];cases p.2.2.2.2.2.2.2.2.1==17 with
  |true=>exact put _ _ (by simp only[ai];omega)
  |false=>
   cases C3 p 2;case true=>exact h'
   cases l[i].2.2.2||C3 p 4;case true=>exact h'
   cases decide (vS l[i] p<=((body p).length:Int))with|false=>exact h'|true=>exact put _ _ (by simp only[agq,ai,aN];omega)
theorem iZ {y:Bytes}(h:i<x.length):bH (x++y) i=bH x i:=by unfold bH;rw[cJ,cJ,br h]
theorem sa {y:Bytes}(h:x.length<=i):bH (x++y) i=bH y (i-x.length):=by unfold bH;rw[cJ,cJ,bl h]
theorem PM (h:i<n):bH (x.take n) i=bH x i:=by unfold bH;rw[cJ,cJ,dI h]
theorem kQ:bH (x.drop n) i=bH x (n+i):=by unfold bH;rw[cJ,cJ,bJ]
theorem OM {p:Bytes}(h:i<a\/a+p.length<=i:=by omega):bH (um s (a:Int) p) i=bH s i:=by
 unfold um eQ;by_cases hw:(0:Int)<=a/\(a:Int)+(p.length:Int)<=(s.length:Int)
 rw[au hw,ah,az];have ht:(s.take a).length=a:=by rw[aX];omega
 rcases h with h|h;rw[iZ (by rw[ai];omega),iZ (by omega),PM h];rw[sa (by rw[ai];omega),kQ,ai,ht];congr 1;omega;rw[ar hw];rfl
theorem V9 {p:Bytes}{j:Nat}(hw:a+p.length<=s.length)(hj:j<p.length:=by omega):bH (um s (a:Int) p) (a+j)=bH p j:=by
 unfold um eQ;rw[au ⟨by omega,by omega⟩,ah,az];have ht:(s.take a).length=a:=by rw[aX];omega
 rw[iZ (by rw[ai];omega),sa (by omega),ht];congr 1;omega
theorem sf:cd s (a:Int)=bif decide (a+2<=s.length) then((bH s a*256+bH s (a+1):Nat):Int) else-1:=by unfold cd eQ;rw[az,show decide ((0:Int)<=a/\(a:Int)+2<=(s.length:Int))=decide (a+2<=s.length) from decide_eq_decide.2 (by omega)]
theorem BE (hl:s.length=t.length)(h0:bH s a=bH t a)(h1:bH s (a+1)=bH t (a+1)):cd s (a:Int)=cd t (a:Int):=by rw[sf,sf,hl,h0,h1]
theorem Ju {k:Nat}:cd (s.drop k) (a:Int)=cd s ((k+a:Nat):Int):=by rw[sf,sf,kQ,kQ,aN,show k+(a+1)=k+a+1 by omega,show decide (a+2<=s.length-k)=decide (k+a+2<=s.length) from decide_eq_decide.2 (by omega)]
theorem CG:fA s (a:Int)=bif decide (a+4<=s.length) then(((bH s a*256+bH s (a+1))*65536+(bH s (a+2)*256+bH s (a+3)):Nat):Int) else-1:=by unfold fA eQ;rw[az,show decide ((0:Int)<=a/\(a:Int)+4<=(s.length:Int))=decide (a+4<=s.length) from decide_eq_decide.2 (by omega)]
theorem Jv {k:Nat}:fA (s.drop k) (a:Int)=fA s ((k+a:Nat):Int):=by rw[CG,CG,kQ,kQ,kQ,kQ,aN,show k+(a+1)=k+a+1 by omega,show k+(a+2)=k+a+2 by omega,show k+(a+3)=k+a+3 by omega,show decide (a+4<=s.length-k)=decide (k+a+4<=s.length) from decide_eq_decide.2 (by omega)]
theorem Qg (hl:s.length=t.length)(h:∀j,j<4->bH s (a+j)=bH t (a+j)):fA s (a:Int)=fA t (a:Int):=by rw[CG,CG,hl,show bH s a=bH t a from h 0 (by omega),h 1 (by omega),h 2 (by omega),h 3 (by omega)]
def dj (s:Bytes):Nat:=bif cd s 12==33024 then 18 else 14
def jT (s:Bytes):Nat:=bH s (dj s+9)
def KN (k:Nat):Nat:=bif (k:Int)==6 then 16 else 6
def zb (s:Bytes):Nat:=dj s+10
def xh (s:Bytes):Nat:=dj s+20+KN (jT s)
theorem FP (k:Nat):KN k=16/\k=6\/KN k=6/\k≠6:=by unfold KN;by_cases h:k=6;subst h;exact .inl ⟨rfl,rfl⟩;exact .inr ⟨by rw[show((k:Int)==6)=false from by rw[cI];omega];rfl,h⟩
theorem IY (s:Bytes):dj s=18/\(cd s 12==33024)=true\/dj s=14/\(cd s 12==33024)=false:=by unfold dj;cases cd s 12==33024 with|true=>exact .inl ⟨rfl,rfl⟩|false=>exact .inr ⟨rfl,rfl⟩
theorem Gu (k:Nat)(h:k<256):eZ (k:Int)=some (KN k:Int):=by unfold eZ KN;cases (k:Int)==6<;>rfl
theorem Fe (s:Bytes)(h:s.length<=10^9):pc s=some ((zb s:Int),(xh s:Int)):=by
 unfold pc;rw[ue s 12 h,ab];have hk:=eo s (dj s+9)
 have core:∀o:Nat,dj s=o->(o=18\/o=14)->(bif decide (aq ((o:Int)+9)<(s.length:Int)) then
  aa (idx s (aq ((o:Int)+9))) λx2=>aa (eZ (aq ((UInt8.toNat x2:Int)))) λr3=>some (aq ((o:Int)+10),aq ((aq ((o:Int)+20))+r3))
  else aa (eZ 0) λr4=>some (aq ((o:Int)+10),aq ((aq ((o:Int)+20))+r4)))=some ((zb s:Int),(xh s:Int)):=by
  intro o ho h2
  have hs:=FP (jT s)
  rw[ak (n:=(o:Int)+9),ak (n:=(o:Int)+10),ak (n:=(o:Int)+20)]
  unfold zb xh
  rw[ho]
  by_cases hl:o+9<s.length
  ·obtain⟨x,hx,ex⟩:=kT hl
   rw[lE,ah,show(o:Int)+9=((o+9:Nat):Int) by omega,hx,ab,ex,gW (by rw[<-ho];omega),Gu _ (by rw[<-ho];exact hk),ab,show bH s (o+9)=jT s by unfold jT;rw[ho],ak]
   congr 1
  ·have hz:jT s=0:=by unfold jT;rw[ho];exact DK
   have h0:eZ 0=some (KN 0:Int):=Gu 0 (by omega)
   rw[cW,af,h0,ab,<-hz,ak]
   congr 1
 rcases IY s with⟨h1,h2⟩|⟨h1,h2⟩;rw[h2,ah];exact core 18 h1 (.inl rfl);rw[h2,af];exact core 14 h1 (.inr rfl)
theorem V5 {a:Int}(h:dk a 0 281474976710655=true):(XP a).length=6:=by
 have ha:=bf.1 h;have e:XP a=bN (fdiv a (2^(nW 32)))++iM (aq (toNat (fY a&&&fY 4294967295))):=by unfold XP iy;rw[lF];simp only[nn,pn,ab];have h1:=bD (fdiv a (2^(nW 32)));have h2:=ef (aq (toNat (fY a&&&fY 4294967295)));rw[aR];rfl
 have e2:(2:Int)^(nW 32)=4294967296:=rfl;rw[e,ai,Ek,K4,af1,e2];rw[show dk (fdiv a 4294967296) 0 65535=true from bf.2 (by rw[Int.fdiv_eq_ediv_of_nonneg _ (by omega)];omega),show dk (a%4294967296) 0 4294967295=true from bf.2 (by omega)];rfl
theorem QE (h:dq p=true):dj (dx p).1+46<=(dx p).1.length:=by
 have hh:ow p=true:=by simp only[dq,ae]at h;exact h.1
 have hp:=OK (XF p).1;have hi:=CL h;unfold dx acV PZ at hi⊢;rw[h,ah]at hi⊢;cases he:pB (p.1,p.2.1,p.2.2.1,2048,pad (XF p).1)with|false=>rw[he]at hi;cases hi|true=>?_
 simp only[ah];simp only[ow,ae]at hh;have m1:=V5 hh.1;have m2:=V5 hh.2.1;have hv:=bf.1 hh.2.2.1;have w1:(bN 33024).length=2:=rfl;have w3:(bN 2048).length=2:=rfl;generalize pad (XF p).1=bd at hp⊢;unfold Md;simp only;generalize XP p.1=M1 at m1⊢;generalize XP p.2.1=M2 at m2⊢;by_cases hc:p.2.2.1>=0;have w2:(bN p.2.2.1).length=2:=by rw[Ek,bf.2 (by omega)];rfl
 rw[au hc,ah];have hb:dj (((((M1++M2)++bN 33024)++bN p.2.2.1)++bN 2048)++bd)=18:=by
  unfold dj;have e12:cd (((((M1++M2)++bN 33024)++bN p.2.2.1)++bN 2048)++bd) ((12:Nat):Int)=33024:=by rw[sf,au (by simp only[ai];omega),ah];rw[iZ (by simp only[ai];omega),iZ (by simp only[ai];omega),iZ (by simp only[ai];omega),sa (by simp only[ai];omega)];rw[iZ (by simp only[ai];omega),iZ (by simp only[ai];omega),iZ (by simp only[ai];omega),sa (by simp only[ai];omega)];rw[ai,m1,m2];rfl
  rw[show(12:Int)=((12:Nat):Int) from rfl,e12];rfl
 rw[hb];simp only[ai];omega;rw[ar hc,af];have hb:dj (((M1++M2)++bN 2048)++bd)=14:=by
  unfold dj;have e12:cd (((M1++M2)++bN 2048)++bd) ((12:Nat):Int)=2048:=by rw[sf,au (by simp only[ai];omega),ah];rw[iZ (by simp only[ai];omega),sa (by simp only[ai];omega)];rw[iZ (by simp only[ai];omega),sa (by simp only[ai];omega)];rw[ai,m1,m2];rfl
  rw[show(12:Int)=((12:Nat):Int) from rfl,e12];rfl
 rw[hb];simp only[ai];omega
def ld (t:Bytes)(x y:Bytes):Bytes:=um (um t (zb t:Int) x) (xh t:Int) y
theorem B7 (t x y:Bytes):(ld t x y).length=t.length:=by unfold ld;rw[vK,vK]
def jx (p:aO):Bytes×Bool:=bif dq p then(ld (dx p).1 (bN 0) (bN 0),true) else([],false)
theorem aaR (h:dq p=false):dx p=([],false):=by unfold dx;rw[h];rfl
theorem ME (p:aO):lu p=some (jx p):=by have hl:=xp p;have w0:=bD 0;unfold lu jx ld;rw[CM,ab];cases h:dq p with|false=>rw[aaR h];rfl|true=>rw[CL h];simp only[aj,af,ah,Fe _ (show(dx p).1.length<=10^9 by omega),ab,kh,Ah _ _ _ (show(dx p).1.length<=10^9 by omega) (show(bN 0).length<=10^9 by omega),Ah _ _ _ (show(um (dx p).1 (zb (dx p).1:Int) (bN 0)).length<=10^9 by rw[vK];omega) (show(bN 0).length<=10^9 by omega)]
def AK (s t:Bytes):Prop:=s.length=t.length/\∀i,i<zb t\/(zb t+2<=i/\i<xh t)\/xh t+2<=i->bH s i=bH t i
theorem xU (t:Bytes):(dj t=14\/dj t=18)/\zb t=dj t+10/\dj t+26<=xh t/\xh t<=dj t+36/\(xh t=dj t+36/\jT t=6\/xh t=dj t+26/\jT t≠6):=by have h1:=IY t;have h2:=FP (jT t);unfold zb xh;omega
theorem Dr (t:Bytes){y:Bytes}(hx:x.length<=2)(hy:y.length<=2):AK (ld t x y) t:=by have:=xU t;refine⟨B7 t x y,λi hi=>?_⟩;unfold ld;rw[OM,OM]
theorem AK.body (h:AK s t):dj s=dj t:=by have:=xU t;unfold dj;have e:cd s ((12:Nat):Int)=cd t ((12:Nat):Int):=BE h.1 (h.2 _ (by omega)) (h.2 _ (by omega));rw[show(12:Int)=((12:Nat):Int) from rfl,e]
theorem AK.kind (h:AK s t):jT s=jT t:=by have:=xU t;unfold jT;rw[h.body,h.2 _ (by omega)]
theorem AK.agh (h:AK s t):zb s=zb t/\xh s=xh t:=by unfold zb xh;rw[h.body,h.kind];exact⟨rfl,rfl⟩
theorem AK.ahT (h:AK s t):cd s ((dj t+2:Nat):Int)=cd t ((dj t+2:Nat):Int):=by have:=xU t;exact BE h.1 (h.2 _ (by omega)) (h.2 _ (by omega))
structure TOk (t:Bytes):Prop where
 eth:(fF t).2=true
 bd:(fF t).1.2.2.2.2=t.drop (dj t)
 l1:dj t+46<=t.length
 n1:20+KN (jT t)+2<=cd t ((dj t+2:Nat):Int)
 n2:cd t ((dj t+2:Nat):Int)<=(t.length:Int)-(dj t:Int)
theorem GP (h:(fF s).2=true):(fF s).1.2.2.2.2=s.drop (dj s)/\18<=s.length/\46<=s.length-dj s/\s.length-dj s<=400:=by
 unfold fF at h⊢;by_cases h8:(s.length:Int)<18;rw[au h8]at h;cases h;rw[ar h8]at h⊢;simp only[af]at h⊢;rcases IY s with⟨h1,h2⟩|⟨h1,h2⟩;rw[h2]at h⊢;simp only[ah]at h⊢;cases he:pB (DP s)with|false=>rw[he]at h;cases h|true=>rw[h1];simp only[pB,ae,bf,DP,aN]at he;simp only[ah,DP];refine⟨cr,by omega,by omega,by omega⟩
 rw[h2]at h⊢;simp only[af]at h⊢;cases he:pB (vx s)with|false=>rw[he]at h;cases h|true=>rw[h1];simp only[pB,ae,bf,vx,aN]at he;simp only[ah,vx];refine⟨cr,by omega,by omega,by omega⟩
theorem Kw (h:(jF s).2=0):(fF s).2=true/\(kC (fF s).1.2.2.2.2).2=true/\dq (jF s).1=true/\ (pg (kC (fF s).1.2.2.2.2).1.2.2.2.2.1 (kC (fF s).1.2.2.2.2).1.2.2.2.2.2.1 (kC (fF s).1.2.2.2.2).1.2.2.2.1 (kC (fF s).1.2.2.2.2).1.2.2.2.2.2.2).2=true:=by
 unfold jF at h⊢;simp only at h⊢;generalize fF s=e at h⊢;cases h1: !e.2||(e.1.2.2.2.1 !=2048)with|true=>rw[h1]at h;cases h|false=>?_
 rw[h1]at h;simp only[af]at h⊢;generalize kC e.1.2.2.2.2=i at h⊢;cases h2:i.2 with|false=>rw[h2]at h;cases h|true=>?_
 rw[h2]at h;simp only[aj,af]at h⊢;generalize pg i.1.2.2.2.2.1 i.1.2.2.2.2.2.1 i.1.2.2.2.1 i.1.2.2.2.2.2.2=g at h⊢;cases h3:g.2 with|false=>rw[h3]at h;cases h|true=>?_
 rw[h3]at h;simp only[aj,af]at h⊢;cases h4:dq (e.1.1,e.1.2.1,e.1.2.2.1,i.1.1,i.1.2.1,i.1.2.2.1,i.1.2.2.2.2.1,i.1.2.2.2.2.2.1,g.1)with|false=>rw[h4]at h;cases h|true=>?_
 simp only[cc,dy]at h1;exact⟨h1.1,cr,h4,cr⟩
theorem abA (h:(kC b).2=true):20<=cd b 2/\cd b 2<=(b.length:Int)/\(kC b).1=Ao b:=by
 unfold kC at h⊢;cases h1:decide ((b.length:Int)<20)||(decide (cd b 2<20)||decide (cd b 2>(b.length:Int)))with|true=>rw[h1]at h;cases h|false=>?_
 rw[h1]at h;simp only[af]at h⊢;cases h2:(Pt (Ao b)).2&&((Pt (Ao b)).1==b.take (cd b 2).toNat)with|false=>rw[h2]at h;cases h|true=>?_
 simp only[cc,cM]at h1;exact⟨by omega,by omega,rfl⟩
theorem Yi {a b k:Int}(h:(pg a b k s).2=true):k=6/\20<=s.length\/k=17/\8<=s.length:=by unfold pg at h;cases h1:(k==6)&&decide ((s.length:Int)>=20)with|true=>simp only[ae,bc,aC]at h1;exact .inl ⟨h1.1,by omega⟩|false=>rw[h1]at h;simp only[af]at h;cases h2:(k==17)&&decide ((s.length:Int)>=8)with|true=>simp only[ae,bc,aC]at h2;exact .inr ⟨h2.1,by omega⟩|false=>rw[h2]at h;cases h
theorem WQ (hl:s.length=t.length)(h:∀i,i<18->bH s i=bH t i)(hs:(fF s).2=true):(fF t).2=true:=by
 have g16:∀a,a+2<=18->cd s ((a:Nat):Int)=cd t ((a:Nat):Int):=λa ha=>BE hl (h _ (by omega)) (h _ (by omega));have g32:∀a,a+4<=18->fA s ((a:Nat):Int)=fA t ((a:Nat):Int):=λa ha=>Qg hl (λj hj=>h _ (by omega));have e0:Dk s 0=Dk t 0:=by unfold Dk;rw[show(0:Int)=((0:Nat):Int) from rfl,g16 0 (by omega),show((0:Nat):Int)+2=((2:Nat):Int) from rfl,g32 2 (by omega)]
 have e6:Dk s 6=Dk t 6:=by unfold Dk;rw[show(6:Int)=((6:Nat):Int) from rfl,g16 6 (by omega),show((6:Nat):Int)+2=((8:Nat):Int) from rfl,g32 8 (by omega)]
 have e12:cd s 12=cd t 12:=g16 12 (by omega);have e14:cd s 14=cd t 14:=g16 14 (by omega);have e16:cd s 16=cd t 16:=g16 16 (by omega);have b1:pB (DP s)=pB (DP t):=by unfold pB DP;rw[e0,e6,e14,e16];simp only[aN,hl]
 have b2:pB (vx s)=pB (vx t):=by unfold pB vx;rw[e0,e6,e12];simp only[aN,hl]
 unfold fF at hs⊢;rw[hl,e12,b1,b2]at hs;cases h8:decide ((t.length:Int)<18)with|true=>rw[h8]at hs;cases hs|false=>?_
 rw[h8]at hs;cases h12:cd t 12==33024 with
 |true=>rw[h12]at hs;cases hb:pB (DP t)with|true=>rfl|false=>rw[hb]at hs;cases hs
 |false=>rw[h12]at hs;cases hb:pB (vx t)with|true=>rfl|false=>rw[hb]at hs;cases hs
theorem agr (ha:AK s t)(h:(jF s).2=0):TOk t:=by
 have hp:=xU t;obtain⟨h1,h2,_,h4⟩:=Kw h;have he:=GP h1;rw[he.1]at h2 h4;have hi:=abA h2;have hs:=Yi h4;rw[hi.2.2]at hs;have e1:(fF t).2=true:=WQ ha.1 (λi hi=>ha.2 i (by omega)) h1;have e2:=GP e1;have en:cd (s.drop (dj s)) 2=cd t ((dj t+2:Nat):Int):=by have:cd (s.drop (dj s)) ((2:Nat):Int)=cd s ((dj s+2:Nat):Int):=Ju;rw[show(2:Int)=((2:Nat):Int) from rfl,this,ha.body,ha.ahT]
 have ek:(Ao (s.drop (dj s))).2.2.2.1=(jT t:Int):=by show(bH (s.drop (dj s)) 9:Int)=_;rw[kQ,<-ha.kind];rfl
 have eg:(Ao (s.drop (dj s))).2.2.2.2.2.2.length=(cd t ((dj t+2:Nat):Int)).toNat-20:=by show(((s.drop (dj s)).take (cd (s.drop (dj s)) 2).toNat).drop 20).length=_;rw[en,aN,aX];have:=hi.2.1;rw[en]at this;omega
 rw[ek,eg]at hs;rw[en]at hi;have hn:=hi.2.1;rw[aN,ha.1,ha.body]at hn;have hk:=FP (jT t);exact⟨e1,e2.1,by omega,by omega,by omega⟩
theorem YW (h:(jx p).1=t)(hs:dq p=true)(ht:TOk t):cd t (zb t:Int)=0/\cd t (xh t:Int)=0:=by
 unfold jx at h;rw[hs]at h;simp only[ah]at h;have w0:(bN 0).length=2:=rfl;have ha:AK (ld (dx p).1 (bN 0) (bN 0)) (dx p).1:=Dr _ (by omega) (by omega);rw[h]at ha;have hp:=xU t;have CJ:=ha.agh;have hl:=ht.l1;have xo:=ha.1;have Gn:=ht.n1;have Bg:=ht.n2;have hk:=FP (jT t);have hB:xh t+2<=t.length:=by omega
 have b0:bH (bN 0) 0=0:=rfl;have b1:bH (bN 0) 1=0:=rfl;rw[sf,sf,lE,au hB,ah,ah];have eB:∀j,j<2->bH t (xh t+j)=bH (bN 0) j:=by intro j hj;rw[<-h];unfold ld;rw[show xh (um (um (dx p).1 (zb (dx p).1:Int) (bN 0)) (xh (dx p).1:Int) (bN 0))=xh (dx p).1 from by have:=CJ.2;rw[<-h]at this;exact this];exact V9 (by rw[vK,w0];omega)
 have eA:∀j,j<2->bH t (zb t+j)=bH (bN 0) j:=by intro j hj;rw[<-h];unfold ld;rw[show zb (um (um (dx p).1 (zb (dx p).1:Int) (bN 0)) (xh (dx p).1:Int) (bN 0))=zb (dx p).1 from by have:=CJ.1;rw[<-h]at this;exact this];rw[OM];exact V9 (by rw[w0];omega)
 have a0:=eA 0 (by omega);have a1:=eA 1 (by omega);have c0:=eB 0 (by omega);have c1:=eB 1 (by omega);rw[dK]at a0 c0;rw[a0,a1,c0,c1,b0,b1];exact⟨rfl,rfl⟩
theorem I2 (s:Bytes):aK (di s)=s:=by
 unfold aK di;rw[List.map_map];conv=>rhs;rw[<-List.map_id s]
 refine List.map_congr_left λb _=>?_;simp
theorem aa8 (s t:Bytes):di (s++t)=di s++di t:=cY
theorem Fj (s:Bytes):(di s).length=s.length:=cp ..
theorem Pd (l:aw α)(i j:Nat)(h:i<=j)(h2:j<=l.length):sub l (i:Int) (j:Int)=some ((l.drop i).take (j-i)):=by unfold sub;rw[zip];simp[List.take_drop,Nat.add_sub_cancel' h]
theorem Sj (a k:Nat):Int.tdiv (a:Int) (k:Int)=((a/k:Nat):Int):=(Int.ofNat_tdiv a k).symm
theorem Nd (a k:Nat):tmod (a:Int) (k:Int)=((a%k:Nat):Int):=(Int.ofNat_tmod a k).symm
theorem mem_iff:cB m=true↔(∀x∈m,x.length=128)/\m.length<=64:=by simp only[cB,ae,aI,bc,aC];constructor;rintro⟨h1,h2⟩;exact⟨λx hx=>by have:=h1 x hx;omega,by omega⟩;rintro⟨h1,h2⟩;exact⟨λx hx=>by have:=h1 x hx;omega,by omega⟩
theorem P7:∀{m:bT},(∀x∈m,x.length=128)->m.flatten.length=128*m.length
 |[],_=>rfl
 |x::m,h=>by have:=P7 (m:=m) (λy hy=>h y (by simp[hy]));have:=h x (by simp);simp only[List.flatten_cons,ai,bq];omega
theorem Mk:∀{m:bT}(_:∀x∈m,x.length=128)(p:Nat)(hp:p<m.length)(o c:Nat),o+c<=128->(m.flatten.drop (128*p+o)).take c=(m[p].drop o).take c
 |x::m,h,0,hp,o,c,ho=>by have:=h x (by simp);simp only[List.flatten_cons,List.getElem_cons_zero];rw[List.drop_append_of_le_length (by omega),List.take_append_of_le_length (by simp;omega)];simp
 |x::m,h,p+1,hp,o,c,ho=>by have hx:=h x (by simp);simp only[List.flatten_cons,List.getElem_cons_succ];rw[show 128*(p+1)+o=x.length+(128*p+o) by omega,List.drop_length_add_append];exact Mk (m:=m) (λy hy=>h y (by simp[hy])) p (by simpa using hp) o c ho
def zJ (m:bT)(a n:Nat):Bytes:=(m.flatten.drop a).take n
theorem GX (h:cB m=true)(hn:a+n<=128*m.length):(zJ m a n).length=n:=by have:=P7 (mem_iff.1 h).1;simp only[zJ,aX,aN];omega
theorem abF (m:bT)(a n:Nat):(zJ m a n).length<=n:=by simp[zJ];omega
theorem Ys (m:bT)(a k c:Nat):zJ m a (k+c)=zJ m a k++zJ m (a+k) c:=by unfold zJ;rw[List.take_add,eC]
theorem UL (h:cB m=true){p:Nat}(hp:p<m.length)(ho:o+c<=128)(ha:a=128*p+o):(m[p].drop o).take c=zJ m a c:=by subst ha;exact(Mk (mem_iff.1 h).1 p hp o c ho).symm
def gk (m:bT)(a n:Int):Bool:=cB m&&decide (0<=n/\0<=a/\a+n<=128*(m.length:Int))
theorem BR (m:bT)(a n:Int)(h:m.length<=10^9):sm m a n=some (gk m a n):=by unfold sm gk;rw[D0 m h,ab,ak (n:=(m.length:Int)*128)];cases hm:cB m with|false=>rfl|true=>simp only[ah,bF];by_cases h1:n>=0;by_cases h2:n<=(m.length:Int)*128;rw[ak (n:=(m.length:Int)*128-n)];by_cases h3:a>=0;simp only[au h1,au h2,au h3,ah,ab];exact congrArg some (decide_eq_decide.2 (by omega));simp only[au h1,au h2,ar h3,ah,af,ab];exact congrArg some (cW).symm;simp only[au h1,ar h2,ah,af,ab];exact congrArg some (cW).symm;simp only[ar h1,af,ab];exact congrArg some (cW).symm
theorem HQ (m:bT)(a n:Int)(h:m.length<=10^9):mM m a n=some (gk m a n):=by unfold mM gk;rw[Ea m h,ab,ak (n:=128*(m.length:Int))];cases hm:cB m with|false=>rfl|true=>simp only[ah,bF];by_cases h1:n>=0;by_cases h3:a>=0;by_cases h2:a<=128*(m.length:Int);rw[ak (n:=128*(m.length:Int)-a)];simp only[au h1,au h2,au h3,ah,ab];exact congrArg some (decide_eq_decide.2 (by omega));simp only[au h1,ar h2,au h3,ah,af,ab];exact congrArg some (cW).symm;simp only[au h1,ar h3,ah,af,ab];exact congrArg some (cW).symm;simp only[ar h1,af,ab];exact congrArg some (cW).symm
theorem Fa (hm:cB m=true)(K:Int->cP->ay R):∀(n r k a f:Nat),r<=n->n<f->a+k+r<=128*m.length->
 aW (kl K ((k+r:Nat):Int) m) f (((a+k:Nat):Int),di (zJ m a k))=K ((a+k+r:Nat):Int) (di (zJ m a (k+r)))
 |n,r,k,a,0,_,hf,_=>by omega
 |n,0,k,a,f+1,hr,hf,hb=>by rw[aW];simp only[kl,Fj,GX hm (show a+k<=128*m.length by omega),dK];rw[cW,af]
 |0,r+1,k,a,f+1,hr,hf,hb=>by omega
 |n+1,r+1,k,a,f+1,hr,hf,hb=>by
  have h64:=(mem_iff.1 hm).2;have hl:=GX hm (show a+k<=128*m.length by omega);obtain⟨p,hp⟩:∃p,(a+k)/128=p:=⟨_,rfl⟩
  obtain⟨o,ho⟩:∃o,(a+k)%128=o:=⟨_,rfl⟩
  have hpo:a+k=128*p+o:=by omega
  have ho2:o<128:=by omega
  have CJ:p<m.length:=by omega
  obtain⟨c,hc⟩:∃c,min (r+1) (128-o)=c:=⟨_,rfl⟩
  have hpg:=(mem_iff.1 hm).1 _ (bC CJ);have e1:Int.tdiv ((a+k:Nat):Int) 128=(p:Int):=by rw[<-hp];exact Sj (a+k) 128
  have e2:tmod ((a+k:Nat):Int) 128=(o:Int):=by rw[<-ho];exact Nd (a+k) 128
  have key:=Fa hm K n (r+1-c) (k+c) a f (by omega) (by omega) (by omega);rw[aW];simp only[kl,Fj,hl,e1,e2];rw[lE,ah,lF,ak (n:=(p:Int)),bz CJ,ab,lF];rw[ak (n:=(o:Int)+((k+(r+1):Nat):Int)),ak (n:=(o:Int)+((k+(r+1):Nat):Int)-(k:Int))];rw[show(if(o:Int)+((k+(r+1):Nat):Int)-(k:Int)<128 then(o:Int)+((k+(r+1):Nat):Int)-(k:Int) else 128)=((o+c:Nat):Int) by split<;>omega];rw[Pd _ _ _ (by omega) (by omega),ab,show o+c-o=c by omega,UL hm CJ (show o+c<=128 by omega) hpo];have xo:=GX hm (show a+k+c<=128*m.length by omega);rw[xo,aR,ak,<-aa8,<-Ys];rw[show((a+k:Nat):Int)+(c:Int)=((a+(k+c):Nat):Int) by omega];rw[show k+c+(r+1-c)=k+(r+1) by omega,show a+(k+c)+(r+1-c)=a+k+(r+1) by omega]at key;exact key
theorem aa3 (m:bT)(a n:Int)(h:m.length<=10^9):nD m a n=some (bif gk m a n then(zJ m a.toNat n.toNat,true) else([],false)):=by have Ab:=dR;unfold nD;rw[BR m a n h,ab];cases hw:gk m a n with|false=>rfl|true=>simp only[gk,ae,aC]at hw;obtain⟨hm,h1,h2,h3⟩:=hw;have h64:=(mem_iff.1 hm).2;simp only[aj,af,ah];rw[zip,aR];obtain⟨a,rfl⟩:=aV h2;obtain⟨n,rfl⟩:=aV h1;have:=Fa hm (λ(y4:Int) (y5:cP)=>some (aK y5,true)) n n 0 a fuel (by omega) (by omega) (by omega);rw[cl,dK]at this;refine Eq.trans this ?_;simp only[I2,az]
def D4 (d p:Int)(w:Bool)(x:aA):Bool:=pe d p x&&(x.2.2.2|| !w)
def qQ (l:aw aA)(d p:Int)(w:Bool):Int:=match l.findIdx? (D4 d p w)with|some i=>(l.getD i Ij).2.2.1|none=> -1
theorem abX (l:aw aA)(d p:Int)(w:Bool)(h:l.length<=10^9):xb l d p w=some (qQ l d p w):=by unfold xb qQ;refine Eq.trans (CB (p:=D4 d p w) (hit:=λi=>aa (idx l i) λx=>some x.2.2.1) (fin:=some (-1)) l (by omega) (λi hi nx=>?_) (λnx=>?_)) ?_;simp only[rJ];rw[lE,bz hi,ak];simp only[ah,ab,D4,pe];cases l[i].1==d<;>cases l[i].2.1==p<;>cases l[i].2.2.2<;>cases w<;>rfl;simp only[rJ];rw[cW];rfl;cases hf:l.findIdx? (D4 d p w)with|none=>rfl|some i=>obtain⟨hi,_⟩:=List.findIdx?_eq_some_iff_getElem.1 hf;simp only[bz hi,ab,dg hi]
theorem Ft (h:fw l=true)(hi:i<l.length):GC l[i]=true/\∀j (hj:j<i),pe l[i].1 l[i].2.1 (l[j]'(by omega))=false:=by simp only[fw,ae,aI,ch]at h;have:=h.2 i hi;simp only[J8,ae,aI,ch,dg hi,aL]at this;exact⟨this.1,λj hj=>by have:=this.2 j hj;rwa[dg (by omega)]at this⟩
theorem GB {d p:Int}{m:aA}:pe d p m=true↔m.1=d/\m.2.1=p:=by simp[pe]
theorem abj (h:fw l=true){d p:Int}{j:Nat}(hi:i<l.length)(hj:j<l.length)(h1:pe d p l[i]=true)(h2:pe d p l[j]=true):i=j:=by have a:=GB.1 h1;have b:=GB.1 h2;rcases Nat.lt_trichotomy i j with h3|h3|h3;have:=(Ft h hj).2 i h3;rw[b.1,b.2,h1]at this;cases this;exact h3;have:=(Ft h hi).2 j h3;rw[a.1,a.2,h2]at this;cases this
theorem Ki (h:fw l=true)(d p:Int)(w:Bool)(h1:0<=qQ l d p w):qQ l d p w<=63/\0<=p/\p<=1023:=by unfold qQ at h1⊢;cases hf:l.findIdx? (D4 d p w)with|none=>rw[hf]at h1;simp at h1|some i=>obtain⟨hi,h2,_⟩:=List.findIdx?_eq_some_iff_getElem.1 hf;have h3:=(Ft h hi).1;simp only[D4,ae,GB]at h2;simp only[GC,ae,bf]at h3;simp only[dg hi];omega
theorem Xq (l:aw aA)(d:Int)(a:Nat)(w:Bool)(h:l.length<=10^9)(hm:fw l=true)(ha:a<=9223372036854775807): Al l d (a:Int) w=some (if 0<=qQ l d ((a/128:Nat):Int) w then qQ l d ((a/128:Nat):Int) w*128+((a%128:Nat):Int) else-1):=by
 have e1:Int.tdiv (a:Int) 128=((a/128:Nat):Int):=Sj a 128;have e2:tmod (a:Int) 128=((a%128:Nat):Int):=Nd a 128;unfold Al;rw[cW,af,lF,e1,e2,ak,QM l _ _ h,ab];generalize ((a/128:Nat):Int)=p;have rP:=Ki hm d p w;unfold Ru;cases hf:l.findIdx? (pe d p)with
 |none=>
  have hn:qQ l d p w= -1:=by unfold qQ;rw[List.findIdx?_eq_none_iff]at hf;rw[List.findIdx?_eq_none_iff.2 (λx hx=>by rw[D4,hf x hx];rfl)]
  rw[hn];rfl
 |some i=>
  obtain⟨hi,h2,h3⟩:=List.findIdx?_eq_some_iff_getElem.1 hf;simp only;rw[cW,bz hi];simp only[af,ab];cases hq:l[i].2.2.2|| !w with
  |true=>
   have hF:qQ l d p w=l[i].2.2.1:=by unfold qQ;rw[List.findIdx?_eq_some_iff_getElem.2 ⟨hi,by rw[D4,h2,hq];rfl,λj hj=>by have:=h3 j hj;rw[D4,Bool.eq_false_iff.2 this];simp⟩];exact congrArg (λx:aA=>x.2.2.1) (dg hi Ij)
   have h4:=(Ft hm hi).1;simp only[GC,ae,bf]at h4
   rw[hF,aF (show 0<=l[i].2.2.1 by omega),show(aa (cond w (some (!l[i].2.2.2)) (some false)) λq3=>cond q3 (some (-1:Int)) _)=_ from by
    have:(cond w (some (!l[i].2.2.2)) (some false))=some false:=by cases w<;>cases hz:l[i].2.2.2<;>rw[hz]at hq<;>first|rfl|cases hq
    rw[this,ab,af]]
   rw[aG (show¬(128:Nat)=0 by omega),ak (n:=l[i].2.2.1*128),ak]
  |false=>
   have hF:qQ l d p w= -1:=by unfold qQ;rw[List.findIdx?_eq_none_iff.2 (λx hx=>by obtain⟨j,hj,rfl⟩:=List.getElem_of_mem hx;cases VT:pe d p l[j]with|false=>rw[D4,VT];rfl|true=>have:=abj hm hi hj h2 VT;subst this;rw[D4,hq];simp)]
   rw[hF,aG (show¬(0:Int)<= -1 by omega)];cases w with|false=>simp at hq|true=>simp only[aj,Bool.or_false]at hq;simp only[ah,hq,ab,cb]
def kJ (l:aw aA)(m:bT)(d:Int)(w:Bool):Nat->Nat->Nat->ay (aw (Int×Int))
 |0,_,_=>some []
 |n+1,a,r=>if r=0 then some [] else
  if 0<=qQ l d ((a/128:Nat):Int) w/\qQ l d ((a/128:Nat):Int) w<(m.length:Int) then
   (kJ l m d w n (a+min (128-a%128) r) (r-min (128-a%128) r)).map (λq=>(qQ l d ((a/128:Nat):Int) w*128+((a%128:Nat):Int),((min (128-a%128) r:Nat):Int))::q)
  else none
theorem Po (hm:cB m=true){f:Int}(h0:0<=f)(hc:0<c)(ho:o+c<=128):gk m (f*128+(o:Int)) (c:Int)=decide (f<(m.length:Int)):=by rw[gk,hm,bF];exact decide_eq_decide.2 (by omega)
theorem Ss (hm:cB m=true){f:Int}(h0:0<=f):gk m (f*128) 128=decide (f<(m.length:Int)):=by rw[gk,hm,bF];exact decide_eq_decide.2 (by omega)
theorem Fb (hl:fw l=true)(hL:l.length<=10^9)(hm:cB m=true)(d:Int)(w:Bool):∀(n a r f:Nat)(acc:aw (Int×Int)),r<=n->n<f->acc.length+n<=1000000->a<=9223372036854775807->
 aW (oZ (λ(y9:Int) (Cq:Int) (Bh:aw (Int×Int))=>some (Bh,true)) (λ(Et:Int) (Eu:Int) (DD:aw (Int×Int)) (F5:Bool) (Hf:aw (Int×Int))=>some (DD,F5)) l d w ([]:aw (Int×Int)) false m) f ((a:Int),(r:Int),acc)
  =match kJ l m d w n a r with|some q=>some (acc++q,true)|none=>some ([],false)
 |n,a,r,0,acc,_,hf,_,_=>by omega
 |0,a,r,f+1,acc,hr,hf,hA,ha=>by rw[aW];simp only[oZ];rw[cW];simp[kJ]
 |n+1,a,r,f+1,acc,hr,hf,hA,ha=>by
  have h64:=(mem_iff.1 hm).2;rw[aW];simp only[oZ,kJ];by_cases h0:r=0;rw[cW,aF h0];simp;have e2:tmod (a:Int) 128=((a%128:Nat):Int):=Nd a 128;have rP:=Ki hl d ((a/128:Nat):Int) w;rw[lE,aG h0,Xq l d a w hL hl ha,ab,lF,e2,ak (n:=128-((a%128:Nat):Int))];obtain⟨c,hc⟩:∃c,min (128-a%128) r=c:=⟨_,rfl⟩
  rw[hc,show(if 128-((a%128:Nat):Int)<(r:Int) then 128-((a%128:Nat):Int) else(r:Int))=(c:Int) by split<;>omega];generalize hP:qQ l d ((a/128:Nat):Int) w=P at rP⊢;by_cases hP0:0<=P;have rP:=rP hP0;simp only[aF hP0,ah];rw[ar (show¬P*128+((a%128:Nat):Int)<0 by omega),BR m _ _ (by omega),Po hm hP0 (by omega) (by omega)];simp only[af,ab];by_cases hP1:P<(m.length:Int);rw[au hP1,aF ⟨hP0,hP1⟩];simp only[aj,af];rw[aR (by simp;omega),ak (n:=(a:Int)+(c:Int)),ak (n:=(r:Int)-(c:Int)),ar (show¬(a:Int)+(c:Int)<0 by omega)];simp only[af,ab];have key:=Fb hl hL hm d w n (a+c) (r-c) f (acc++[(P*128+((a%128:Nat):Int),(c:Int))]) (by omega) (by omega) (by simp;omega) (by omega);rw[show((a+c:Nat):Int)=(a:Int)+(c:Int) by omega,show((r-c:Nat):Int)=(r:Int)-(c:Int) by omega]at key;rw[key];cases kJ l m d w n (a+c) (r-c)with|none=>rfl|some q=>simp
  rw[ar hP1,lF];rfl;simp only[aG hP0,ah];rw[lF,lE];rfl
theorem FO (hl:fw l=true)(hL:l.length<=10^9)(hm:cB m=true)(d:Int)(w:Bool):∀(n a r f:Nat)(acc:aw (Int×Int)),r<=n->n<f->acc.length+n<=1000000->a<=9223372036854775807->
 aW (ka (λ(Cq:Int) (Bh:Int) (Et:cP) (Eu:cP)=>some (Et,Eu,true)) (λ(DD:Int) (F5:Int) (Hf:cP) (LV:cP) (K5:Bool) (SE:cP) (Vj:cP)=>some (Hf,LV,K5)) l d w ([]:cP) ([]:cP) false m) f ((a:Int),(r:Int),acc.map (·.1),acc.map (·.2))
  =match kJ l m d w n a r with|some q=>some ((acc++q).map (·.1),(acc++q).map (·.2),true)|none=>some ([],[],false)
 |n,a,r,0,acc,_,hf,_,_=>by omega
 |0,a,r,f+1,acc,hr,hf,hA,ha=>by rw[aW];simp only[ka];rw[cW];simp[kJ]
 |n+1,a,r,f+1,acc,hr,hf,hA,ha=>by
  have h64:=(mem_iff.1 hm).2;rw[aW];simp only[ka,kJ];by_cases h0:r=0;rw[cW,aF h0];simp;have e1:Int.tdiv (a:Int) 128=((a/128:Nat):Int):=Sj a 128;have e2:tmod (a:Int) 128=((a%128:Nat):Int):=Nd a 128;have rP:=Ki hl d ((a/128:Nat):Int) w;rw[au (show(r:Int)>0 by omega),au (show(a:Int)>=0 by omega),aG h0];simp only[ah];rw[lF,e1,e2,ak (n:=((a/128:Nat):Int)),abX l _ _ w hL,ab,lF,ak (n:=128-((a%128:Nat):Int))];obtain⟨c,hc⟩:∃c,min (128-a%128) r=c:=⟨_,rfl⟩
  rw[hc,show(if 128-((a%128:Nat):Int)<(r:Int) then 128-((a%128:Nat):Int) else(r:Int))=(c:Int) by split<;>omega];generalize hP:qQ l d ((a/128:Nat):Int) w=P at rP⊢;by_cases hP0:0<=P;have rP:=rP hP0;rw[ar (show¬P<0 by omega),ak (n:=P*128),HQ m _ _ (by omega),Ss hm hP0];simp only[af,ab];by_cases hP1:P<(m.length:Int);rw[au hP1,aF ⟨hP0,hP1⟩];simp only[aj,af];rw[aR (by simp;omega),aR (by simp;omega),ak (n:=P*128+((a%128:Nat):Int)),ak (n:=(a:Int)+(c:Int)),ak (n:=(r:Int)-(c:Int))];have key:=FO hl hL hm d w n (a+c) (r-c) f (acc++[(P*128+((a%128:Nat):Int),(c:Int))]) (by omega) (by omega) (by simp;omega) (by omega);rw[show((a+c:Nat):Int)=(a:Int)+(c:Int) by omega,show((r-c:Nat):Int)=(r:Int)-(c:Int) by omega,cY,cY]at key;refine Eq.trans key ?_;cases kJ l m d w n (a+c) (r-c)with|none=>rfl|some q=>simp
  rw[ar hP1,lF];rfl;rw[lF,lE];rfl
def kt (l:aw aA)(m:bT)(d a n:Int)(w:Bool):aw (Int×Int)×Bool:=
 bif fw l&&(cB m&&dk n 0 4096) then
  (bif n==0 then([],true) else bif decide (a<0) then([],false) else match kJ l m d w n.toNat a.toNat n.toNat with|some q=>(q,true)|none=>([],false))
 else([],false)
theorem QQ (l:aw aA)(m:bT)(d a n:Int)(w:Bool)(hl:l.length<=10^9)(hm:m.length<=10^9)(ha:a<=9223372036854775807):vE l m d a n w=some (kt l m d a n w):=by
 have Ab:=dR;unfold vE kt;simp only[E7 l hl,D0 m hm,dh,ab];cases hB:fw l;rfl;cases hM:cB m;rfl;cases hN:dk n 0 4096;rfl;have hn:=bf.1 hN;simp only[aj,af,ab,eS,ah];cases h0:n==0;case true=>rfl
 by_cases hA:a<0;rw[au hA];rfl;rw[ar hA];simp only[af];obtain⟨a,rfl⟩:=aV (show 0<=a by omega);obtain⟨n,rfl⟩:=aV hn.1;rw[Fb hB hl hM d w n a n fuel [] (by omega) (by omega) (by simp;omega) (by omega)];simp only[az];cases kJ l m d w n a n<;>rfl
theorem YK (l:aw aA)(m:bT)(d a n:Int)(w:Bool)(hl:l.length<=10^9)(hm:m.length<=10^9)(ha:a<=9223372036854775807):vp l m d a n w=some ((kt l m d a n w).1.map (·.1),(kt l m d a n w).1.map (·.2),(kt l m d a n w).2):=by
 have Ab:=dR;unfold vp kt;simp only[O0 l hl,Ea m hm,ed,ab];cases hB:fw l;rfl;cases hM:cB m;rfl;cases hN:dk n 0 4096;rfl;have hn:=bf.1 hN;simp only[aj,af,ab,eS,ah];obtain⟨n,rfl⟩:=aV hn.1;cases h0:((n:Int)==0)with
 |true=>
  have:n=0:=by simpa using h0
  subst this;obtain⟨f,hf⟩:∃f,fuel=f+1:=⟨fuel-1,by omega⟩
  rw[hf,aW];rfl
 |false=>
  have hn0:n≠0:=by simpa using h0
  by_cases hA:a<0;obtain⟨f,hf⟩:∃f,fuel=f+1:=⟨fuel-1,by omega⟩
  rw[au hA,hf,aW];simp only[ka];rw[lE,cW];rfl;rw[ar hA];simp only[af];obtain⟨a,rfl⟩:=aV (show 0<=a by omega);refine Eq.trans (FO hB hl hM d w n a n fuel [] (by omega) (by omega) (by simp;omega) (by omega)) ?_;simp only[az];cases kJ l m d w n a n<;>rfl
def Dp (x:Bytes)(o:Nat)(t:Bytes):Bytes:=x.take o++(t++x.drop (o+t.length))
theorem Ye (h:o+t.length<=x.length):(Dp x o t).length=x.length:=by simp only[Dp,ai,aX,aN];omega
theorem Yh (x:Bytes)(o:Nat)(t:Bytes):aK (zH (di x) o (di t))=Dp x o t:=by
 have e:zH (di x) o (di t)=di (Dp x o t):=by simp only[zH,Dp,di,cY,List.map_take,List.map_drop,cp]
 rw[e,I2]
theorem abC (h:o+t.length<=x.length):um x (o:Int) t=Dp x o t:=by unfold um eQ;rw[au ⟨by omega,by omega⟩];simp only[ah,az,Dp,aJ]
def yb:Nat->bT->Nat->Bytes->bT
 |0,m,_,_=>m
 |n+1,m,a,s=>if s.length=0 then m else
  yb n (m.set (a/128) (Dp (m.getD (a/128) []) (a%128) (s.take (128-a%128)))) (a+min (128-a%128) s.length) (s.drop (128-a%128))
def Ar (m:bT):Prop:=(∀x∈m,x.length=128)/\m.length<=64
theorem pY:cB m=true↔Ar m:=mem_iff
theorem GO {p:Nat}(h:Ar m)(hx:x.length=128):Ar (m.set p x):=by refine⟨λy hy=>?_,by rw[aB];exact h.2⟩;rcases List.mem_or_eq_of_mem_set hy with g|g;exact h.1 y g;rw[g];exact hx
theorem El (h:Ar m)(hs:s.length≠0)(ha:a+s.length<=128*m.length): ∃(hp:a/128<m.length),(m[a/128]'hp).length=128/\(Dp (m[a/128]'hp) (a%128) (s.take (128-a%128))).length=128:=by
 have hp:a/128<m.length:=by omega
 have hl:=h.1 _ (bC hp);refine⟨hp,hl,?_⟩;rw[Ye (by rw[aX,hl];omega),hl]
theorem xk:∀(n:Nat){m:bT}{a:Nat}{s:Bytes},Ar m->a+s.length<=128*m.length->Ar (yb n m a s)/\(yb n m a s).length=m.length
 |0,m,a,s,h,_=>⟨h,rfl⟩
 |n+1,m,a,s,h,ha=>by rw[yb];split;exact⟨h,rfl⟩;rename_i hs;obtain⟨hp,hl,ho⟩:=El h hs ha;rw[dg hp];have:=xk n (m:=m.set (a/128) (Dp m[a/128] (a%128) (s.take (128-a%128)))) (a:=a+min (128-a%128) s.length) (s:=s.drop (128-a%128)) (GO h ho) (by rw[aB,aN];omega);rw[aB]at this;exact this
theorem Di (K:Int->Bytes->bT->ay R)(K':bT->ay R)(hK:∀a m,K a [] m=K' m):∀(n:Nat)(m:bT)(a:Nat)(s:Bytes)(f:Nat),s.length<=n->n<f->Ar m->a+s.length<=128*m.length->
 aW (lT K ([]:bT)) f ((a:Int),s,m)=K' (yb n m a s)
 |n,m,a,s,0,_,hf,_,_=>by omega
 |n,m,a,s,f+1,hs,hf,hm,ha=>by
  rw[aW];simp only[lT];by_cases h0:s.length=0;have:s=[]:=bO h0;subst this;rw[ar (by simp),af,hK];cases n<;>simp[yb];cases n with
  |zero=>omega
  |succ n=>
   obtain⟨hp,hl,ho⟩:=El hm h0 ha;have h64:=hm.2;have e1:Int.tdiv (a:Int) 128=((a/128:Nat):Int):=Sj a 128;have e2:tmod (a:Int) 128=((a%128:Nat):Int):=Nd a 128;rw[lE,ah,lF,e1,e2,ak (n:=((a/128:Nat):Int)),bz hp,ab,aR,lF];have oh:sub (di m[a/128]) ((a%128:Nat):Int) ((di m[a/128]).length:Int)=some ((di m[a/128]).drop (a%128)):=by rw[Pd _ _ _ (by rw[Fj];omega) (aS _),bL (by rw[aN];exact aS _)]
   rw[oh,ab,lF,ab,ab];have hd:((di m[a/128]).drop (a%128)).length=128-a%128:=by rw[aN,Fj,hl]
   rw[hd];have hdr:s.drop (min (128-a%128) s.length)=s.drop (128-a%128):=by by_cases h3:128-a%128<=s.length;rw[gJ h3];rw[Nat.min_eq_right (by omega),cy (aS _),cy (by omega)]
   have ahC:sub s (((min (128-a%128) s.length:Nat)):Int) ((s.length:Int))=some (s.drop (128-a%128)):=by rw[<-hdr];unfold sub;rw[zip];simp
   rw[ahC,ab,ak (n:=(a:Int)+((min (128-a%128) s.length:Nat):Int)),az,az,Yh];rw[yb,aG h0,dg hp,show(a:Int)+((min (128-a%128) s.length:Nat):Int)=((a+min (128-a%128) s.length:Nat):Int) by omega];exact Di K K' hK n _ _ _ f (by rw[aN];omega) (by omega) (GO hm ho) (by rw[aB,aN];omega)
theorem Dv (K:Int->Bytes->bT->ay R)(K':bT->ay R)(hK:∀a m,K a [] m=K' m):∀(n:Nat)(m:bT)(a:Nat)(s:Bytes)(f:Nat),s.length<=n->n<f->Ar m->a+s.length<=128*m.length->
 aW (lY K ([]:bT)) f ((a:Int),s,m)=K' (yb n m a s)
 |n,m,a,s,0,_,hf,_,_=>by omega
 |n,m,a,s,f+1,hs,hf,hm,ha=>by
  rw[aW];simp only[lY];by_cases h0:s.length=0;have:s=[]:=bO h0;subst this;rw[ar (by simp),af,hK];cases n<;>simp[yb];cases n with
  |zero=>omega
  |succ n=>
   obtain⟨hp,hl,ho⟩:=El hm h0 ha;have h64:=hm.2;have e1:Int.tdiv (a:Int) 128=((a/128:Nat):Int):=Sj a 128;have e2:tmod (a:Int) 128=((a%128:Nat):Int):=Nd a 128;rw[lE,ah,lF,lF,lF,e1,e2,ak (n:=((a/128:Nat):Int)),ak (n:=128-((a%128:Nat):Int)),bz hp,ab];obtain⟨c,hc⟩:∃c,min (128-a%128) s.length=c:=⟨_,rfl⟩
   rw[show(if 128-((a%128:Nat):Int)<(s.length:Int) then 128-((a%128:Nat):Int) else(s.length:Int))=(c:Int) by split<;>omega];have ht:s.take c=s.take (128-a%128):=by by_cases h3:128-a%128<=s.length;rw[<-hc,gJ h3];rw[<-hc,Nat.min_eq_right (by omega),bL (aS _),bL (by omega)]
   have hdr:s.drop c=s.drop (128-a%128):=by by_cases h3:128-a%128<=s.length;rw[<-hc,gJ h3];rw[<-hc,Nat.min_eq_right (by omega),cy (aS _),cy (by omega)]
   have hs1:sub s 0 (c:Int)=some (s.take (128-a%128)):=by rw[<-ht];unfold sub;rw[zip];simp
   have hs2:sub s (c:Int) (s.length:Int)=some (s.drop (128-a%128)):=by rw[<-hdr];unfold sub;rw[zip];simp
   rw[hs1,ab,FN _ _ _,ab,ab,ab,hs2,ab,abC (by rw[aX,hl];omega),ak (n:=(a:Int)+(c:Int)),az];rw[yb,aG h0,dg hp,hc,show(a:Int)+(c:Int)=((a+c:Nat):Int) by omega];exact Dv K K' hK n _ _ _ f (by rw[aN];omega) (by omega) (GO hm ho) (by rw[aB,aN];omega)
def qo (m:bT)(a:Int)(s:Bytes):bT×Bool:=bif gk m a (s.length:Int) then(yb s.length m a.toNat s,true) else(m,false)
theorem T4 (m:bT)(a:Int)(s:Bytes)(h:m.length<=10^9)(hs:s.length<=10^9):pT m a s=some (qo m a s):=by have Ab:=dR;unfold pT qo;rw[fJ m,ab,BR m _ _ h,ab];cases hw:gk m a (s.length:Int);rfl;simp only[gk,ae,aC]at hw;obtain⟨a,rfl⟩:=aV hw.2.2.1;simp only[aj,af,ah,az];exact Di _ (λm=>some (m,true)) (λ_ _=>rfl) s.length m a s fuel (aS _) (by omega) (pY.1 hw.1) (by omega)
theorem U0 (m:bT)(a:Int)(s:Bytes)(h:m.length<=10^9)(hs:s.length<=10^9):qi m a s=some (qo m a s):=by have Ab:=dR;unfold qi qo;rw[Aq m,ab,HQ m _ _ h,ab];cases hw:gk m a (s.length:Int);rfl;simp only[gk,ae,aC]at hw;obtain⟨a,rfl⟩:=aV hw.2.2.1;simp only[aj,af,ah,az];exact Dv _ (λm=>some (m,true)) (λ_ _=>rfl) s.length m a s fuel (aS _) (by omega) (pY.1 hw.1) (by omega)
theorem Cp (m:bT)(a:Int)(s:Bytes):(qo m a s).1.length=m.length:=by unfold qo;cases hw:gk m a (s.length:Int);rfl;simp only[gk,ae,aC]at hw;exact(xk s.length (pY.1 hw.1) (by omega)).2
def Ku:aw (Int×Int)->bT->Bytes->bT
 |[],m,_=>m
 |p::q,m,s=>Ku q (qo m p.1 (s.take p.2.toNat)).1 (s.drop p.2.toNat)
theorem RG:∀(q:aw (Int×Int))(m:bT)(s:Bytes),(Ku q m s).length=m.length
 |[],m,s=>rfl
 |p::q,m,s=>by rw[Ku,RG q,Cp]
def Is (q:aw (Int×Int)):Int:=(q.map (·.2)).sum
theorem Wp:∀(q:aw (Int×Int)),(∀p∈q,0<=p.2)->0<=Is q
 |[],_=>dY _
 |p::q,h=>by have:=Wp q (λx hx=>h x (by simp[hx]));have:=h p (by simp);simp only[Is,cD,List.sum_cons]at*;omega
theorem RK {p:Int×Int}{q:aw (Int×Int)}(hc:∀x∈p::q,0<=x.2)(hs:(s.length:Int)=Is (p::q)):0<=p.2/\p.2<=(s.length:Int)/\((s.drop p.2.toNat).length:Int)=Is q:=by
 have h1:=hc p (by simp);have h2:=Wp q (λx hx=>hc x (by simp[hx]));have h3:Is (p::q)=p.2+Is q:=by simp[Is]
 rw[h3]at hs;refine⟨h1,by omega,?_⟩;rw[aN];omega
theorem Nb {c:Int}(h0:0<=c)(h1:c<=(s.length:Int)):sub s 0 c=some (s.take c.toNat):=by unfold sub;rw[zip];simp
theorem Sf {c:Int}(h0:0<=c)(h1:c<=(s.length:Int)):sub s c (s.length:Int)=some (s.drop c.toNat):=by unfold sub;rw[zip];simp
theorem Hy (K:Bytes->Int->bT->ay (bT×Bool))(hK:∀s i m,K s i m=some (m,true)):∀(rest pre:aw (Int×Int))(m:bT)(s:Bytes)(f:Nat),rest.length<f->pre.length+rest.length<=1000000->(∀x∈rest,0<=x.2)->(s.length:Int)=Is rest->m.length<=10^9->s.length<=1000000->
 aW (vD K (pre++rest) ((pre++rest).length:Int) ([]:bT)) f (s,(pre.length:Int),m)=some (Ku rest m s,true)
 |rest,pre,m,s,0,hf,_,_,_,_,_=>by omega
 |[],pre,m,s,f+1,_,_,_,_,_,_=>by rw[aW];simp only[vD];rw[ar (by simp),af,hK];rfl
 |p::q,pre,m,s,f+1,hf,hn,hc,hs,hm,hl=>by
  obtain⟨h1,h2,h3⟩:=RK hc hs;simp only[bq]at hf hn;have hi:pre.length<(pre++p::q).length:=by simp
  have hp:(pre++p::q)[pre.length]=p:=by simp
  rw[aW];simp only[vD];rw[au (by simp;omega),bz hi,hp,ak];simp only[ah,ab,Nb h1 h2,Sf h1 h2,T4 m _ _ hm (show(s.take p.2.toNat).length<=10^9 by rw[aX];omega)];have key:=Hy K hK q (pre++[p]) (qo m p.1 (s.take p.2.toNat)).1 (s.drop p.2.toNat) f (by omega) (by simp;omega) (λx hx=>hc x (by simp[hx])) h3 (by rw[Cp];exact hm) (by rw[aN];omega);have el:((pre++[p]).length:Int)=(pre.length:Int)+1:=by simp
  rw[aJ,List.singleton_append,el]at key;rw[Ku];exact key
theorem HP (K:Bytes->Int->bT->ay (bT×Bool))(hK:∀s i m,K s i m=some (m,true)):∀(rest pre:aw (Int×Int))(m:bT)(s:Bytes)(f:Nat),rest.length<f->pre.length+rest.length<=1000000->(∀x∈rest,0<=x.2)->(s.length:Int)=Is rest->m.length<=10^9->s.length<=1000000->
 aW (mF K ((pre++rest).map (·.1)) ((pre++rest).map (·.2)) ([]:bT)) f (s,(pre.length:Int),m)=some (Ku rest m s,true)
 |rest,pre,m,s,0,hf,_,_,_,_,_=>by omega
 |[],pre,m,s,f+1,_,_,_,_,_,_=>by rw[aW];simp only[mF];rw[ar (by simp),af,hK];rfl
 |p::q,pre,m,s,f+1,hf,hn,hc,hs,hm,hl=>by
  obtain⟨h1,h2,h3⟩:=RK hc hs;simp only[bq]at hf hn;have hi:pre.length<(pre++p::q).length:=by simp
  have hp:(pre++p::q)[pre.length]=p:=by simp
  have i1:idx ((pre++p::q).map (·.1)) (pre.length:Int)=some p.1:=by rw[bz (by simp),List.getElem_map,hp]
  have i2:idx ((pre++p::q).map (·.2)) (pre.length:Int)=some p.2:=by rw[bz (by simp),List.getElem_map,hp]
  rw[aW];simp only[mF];rw[au (by simp;omega),i1,i2,ak];simp only[ah,ab,Nb h1 h2,Sf h1 h2,U0 m _ _ hm (show(s.take p.2.toNat).length<=10^9 by rw[aX];omega)];have key:=HP K hK q (pre++[p]) (qo m p.1 (s.take p.2.toNat)).1 (s.drop p.2.toNat) f (by omega) (by simp;omega) (λx hx=>hc x (by simp[hx])) h3 (by rw[Cp];exact hm) (by rw[aN];omega);have el:((pre++[p]).length:Int)=(pre.length:Int)+1:=by simp
  rw[aJ,List.singleton_append,el]at key;rw[Ku];exact key
theorem Km (l:aw aA)(m:bT)(d:Int)(w:Bool):∀(n a r:Nat)(q:aw (Int×Int)),r<=n->kJ l m d w n a r=some q->Is q=(r:Int)/\(∀p∈q,0<=p.2)/\q.length<=n
 |0,a,r,q,hr,h=>by simp only[kJ,aZ]at h;subst h;exact⟨by show(0:Int)=_;omega,by simp,by simp⟩
 |n+1,a,r,q,hr,h=>by simp only[kJ]at h;split at h;simp only[aZ]at h;subst h;exact⟨by show(0:Int)=_;omega,by simp,by simp⟩;split at h;simp only[Option.map_eq_some_iff]at h;obtain⟨q',h1,rfl⟩:=h;obtain⟨i1,i2,i3⟩:=Km l m d w n _ _ q' (by omega) h1;refine⟨?_,?_,by simp only[bq];omega⟩;simp only[Is,cD,List.sum_cons]at i1⊢;rw[i1];omega;intro p hp;rcases cg.1 hp with rfl|hp;show(0:Int)<=((min (128-a%128) r:Nat):Int);omega;exact i2 p hp;cases h
theorem M5 (l:aw aA)(m:bT)(d a n:Int)(w:Bool)(h:(kt l m d a n w).2=true):Is (kt l m d a n w).1=n/\(∀p∈(kt l m d a n w).1,0<=p.2)/\(kt l m d a n w).1.length<=4096/\n<=4096:=by
 unfold kt at h⊢;cases hB:fw l&&(cB m&&dk n 0 4096)with|false=>rw[hB]at h;simp at h|true=>?_
 rw[hB]at h;simp only[ae,bf]at hB;simp only[ah]at h⊢;cases h0:n==0 with
 |true=>
  have:n=0:=by simpa using h0
  subst this;exact⟨rfl,by simp,by simp,by omega⟩
 |false=>rw[h0]at h;simp only[af]at h⊢;cases ha:decide (a<0)with|true=>rw[ha]at h;simp at h|false=>rw[ha]at h;simp only[af]at h⊢;cases hq:kJ l m d w n.toNat a.toNat n.toNat with|none=>rw[hq]at h;cases h|some q=>obtain⟨i1,i2,i3⟩:=Km l m d w _ _ _ q (aS _) hq;exact⟨by simp only;rw[i1];omega,i2,by simp only;omega,by omega⟩
def hH (l:aw aA)(m:bT)(d a:Int)(s:Bytes)(w:Bool):bT×Bool:=
 bif (kt l m d a (s.length:Int) w).2 then(Ku (kt l m d a (s.length:Int) w).1 m s,true) else(m,false)
theorem jD (l:aw aA)(m:bT)(d a:Int)(s:Bytes)(w:Bool):(hH l m d a s w).1.length=m.length:=by unfold hH;cases (kt l m d a (s.length:Int) w).2 with|false=>rfl|true=>exact RG _ _ _
theorem QP (l:aw aA)(m:bT)(d a:Int)(s:Bytes)(w:Bool)(hl:l.length<=10^9)(hm:m.length<=10^9)(ha:a<=9223372036854775807):BT l m d a s w=some (hH l m d a s w):=by have Ab:=dR;unfold BT hH;rw[fJ m,ab,QQ l m d a _ w hl hm ha,ab];have hS:=M5 l m d a (s.length:Int) w;generalize kt l m d a (s.length:Int) w=r at hS⊢;cases hr:r.2;rfl;obtain⟨h1,h2,h3,h4⟩:=hS hr;simp only[aj,af,ah];exact Hy _ (λ_ _ _=>rfl) r.1 [] m s fuel (by omega) (by simp;omega) h2 h1.symm hm (by omega)
theorem FJ (l:aw aA)(m:bT)(d a:Int)(s:Bytes)(hl:l.length<=10^9)(hm:m.length<=10^9)(ha:a<=9223372036854775807):qT l m d a s=some (hH l m d a s true):=by have Ab:=dR;unfold qT hH;rw[YK l m d a _ true hl hm ha,ab,Aq m,ab];have hS:=M5 l m d a (s.length:Int) true;generalize kt l m d a (s.length:Int) true=r at hS⊢;cases hr:r.2;rfl;obtain⟨h1,h2,h3,h4⟩:=hS hr;simp only[aj,af,ah];exact HP _ (λ_ _ _=>rfl) r.1 [] m s fuel (by omega) (by simp;omega) h2 h1.symm hm (by omega)
theorem Af (l:aw aA)(m:bT)(d a:Int)(s:Bytes)(hl:l.length<=10^9)(hm:m.length<=10^9)(ha:a<=9223372036854775807):oa l m d a s=some (hH l m d a s true):=by rw[oa,QP l m d a s true hl hm ha];rfl
end
end Go.Pu
