import Derived.Test.YtainmjjkipbciaaGreatDnData
import Derived.Test.YtainmjjkipbciaaGreatPure
namespace Go.Pu
open Go.Dn
set_option linter.unusedSimpArgs false
set_option linter.unusedVariables false
noncomputable section
variable {b s t x:Bytes} {h:Host} {f:Int->aB Int} {a i n o:Nat} {p:aQ} {R X α:Type} {l:ax aC} {m:bW}
/- Plain laws of the partial operations and of loops. -/
theorem ak {n:Int}(h1: -9223372036854775808<=n:=by omega)(h2:n<=9223372036854775807:=by omega):aq n=n:=by simp only[aq,gx,IntKind.wrap,IntKind.bits,IntKind.signed];simp;omega
@[simp] theorem ab (a:α)(k:α->aB R):aa (some a) k=k a:=rfl
@[simp] theorem aeo (k:α->aB R):aa none k=none:=rfl
@[simp] theorem AZ (c:Bool)(x y:α)(k:α->aB R):aa (cond c (some x) (some y)) k=k (cond c x y):=by cases c<;>rfl
theorem cu (c:Bool)(x y:α):cond c (some x) (some y)=some (cond c x y):=by cases c<;>rfl
theorem aZ {k:aB R}(h:n<=1073741824:=by omega):room n k=k:=by simp[room,h]
theorem N1 (xs:ax α)(i:Nat):idx xs (i:Int)=xs[i]?:=rfl
theorem bK {xs:ax α}(h:i<xs.length):idx xs (i:Int)=some xs[i]:=by rw[N1];exact al h
def upK {σ R:Type}(step:Nat->σ->(σ->aB R)->aB R)(fin:σ->aB R)(N:Nat):Nat->Nat->σ->aB R
 |0,_,s=>fin s
 |n+1,i,s=>step i s (λs'=>upK step fin N n (i+1) s')
theorem EJ {σ:Type}{T:(X->aB R)->X->aB R}(N:Nat)(e:σ->Nat->X)(step:Nat->σ->(σ->aB R)->aB R)(fin:σ->aB R)(hs:∀i s nx,i<N->T nx (e s i)=step i s (λs'=>nx (e s' (i+1))))(hf:∀s nx,T nx (e s N)=fin s): ∀n i s,i<=N->N-i<n->bm T n (e s i)=upK step fin N (N-i) i s:=by
 intro n;induction n with
 |zero=>intro i s _ h;omega
 |succ n ih=>
  intro i s hi hn;rw[bm];rcases ca i N with hlt|hge;rw[hs i s _ hlt,show N-i=(N-(i+1))+1 by omega,upK];congr 1;funext s';exact ih (i+1) s' (by omega) (by omega);have:i=N:=by omega
  subst this;rw[hf,lf,upK]
def Bd {α σ R:Type}(step:α->σ->(σ->aB R)->aB R)(fin:σ->aB R):ax α->σ->aB R
 |[],s=>fin s
 |x::xs,s=>step x s (Bd step fin xs)
theorem Cz {σ:Type}{T:(X->aB R)->X->aB R}(xs:ax α)(e:σ->Nat->X)(step:α->σ->(σ->aB R)->aB R)(fin:σ->aB R)(hs:∀i (h:i<xs.length) s nx,T nx (e s i)=step xs[i] s (λs'=>nx (e s' (i+1))))(hf:∀s nx,T nx (e s xs.length)=fin s): ∀n i s,i<=xs.length->xs.length-i<n->bm T n (e s i)=Bd step fin (xs.drop i) s:=by
 intro n;induction n with
 |zero=>intro i s _ h;omega
 |succ n ih=>
  intro i s hi hn;rw[bm];rcases ca i xs.length with hlt|hge;rw[hs i hlt s _,cg hlt,Bd];congr 1;funext s';exact ih (i+1) s' (by omega) (by omega);have:i=xs.length:=by omega
  subst this;rw[hf,gX,Bd]
def Sf:(t:CT)->t.D->Nat
 | .int _,_=>0
 | .bool,_=>0
 | .str,s=>s.length
 | .sl e,xs=>xs.length+(xs.map (Sf e)).sum
 | .pair a b,x=>Sf a x.1+Sf b x.2
def dw (n:Nat):(t:CT)->t.D->Prop
 | .int _,_=>True
 | .bool,_=>True
 | .str,s=>s.length<=n
 | .sl e,xs=>xs.length<=n/\∀x∈xs,dw n e x
 | .pair a b,x=>dw n a x.1/\dw n b x.2
theorem JL {α:Type}(f:α->Nat):∀(xs:ax α)(x:α),x∈xs->f x<=(xs.map f).sum
 |y::ys,x,h=>by rcases cA.1 h with rfl|h;simp;have:=JL f ys x h;simp;omega
theorem HW {n:Nat}:∀{t:CT}{x:t.D},Sf t x<=n->dw n t x
 | .int _,_,_=>trivial
 | .bool,_,_=>trivial
 | .str,_,h=>h
 | .sl e,xs,h=>by simp only[Sf]at h;exact⟨by omega,λx hx=>HW (by have:=JL (Sf e) xs x hx;omega)⟩
 | .pair a b,x,h=>by simp only[Sf]at h;exact⟨HW (by omega),HW (by omega)⟩
theorem dw.mono {m:Nat}(h:n<=m:=by omega):∀{t:CT}{x:t.D},dw n t x->dw m t x
 | .int _,_,_=>trivial
 | .bool,_,_=>trivial
 | .str,_,k=>bE k h
 | .sl _,_,k=>⟨bE k.1 h,λx hx=>dw.mono h (k.2 x hx)⟩
 | .pair _ _,_,k=>⟨dw.mono h k.1,dw.mono h k.2⟩
def VS:(t:CT)->t.D->Prop
 | .int k,n=>k.min<=n/\n<=k.max
 | .bool,_=>True
 | .str,s=>s.length<=9223372036854775807
 | .sl e,xs=>xs.length<=9223372036854775807/\∀x∈xs,VS e x
 | .pair a b,x=>VS a x.1/\VS b x.2
def kL (l n:Int):Int:=if n<=l then l-n else-1
def HX (f:α->Int->aB Int)(k0:Int->Int->aB R)(k1:Int->Int->Int->aB R)(v0:ax α)(nx:Int×Int->aB R)(x:Int×Int):aB R:=
 cond (decide (x.2<((List.length v0:Int)))) (
  aa (idx v0 x.2) λx1=>
  aa (f x1 x.1) λr2=>
  cond (decide (r2<0)) (
   k1 r2 (-1) x.2) (
   nx (r2,aq (x.2+1)))) (
  k0 x.1 x.2)
noncomputable def OQ (f:α->Int->aB Int)(a0:ax α)(a1:Int):aB Int:=
 cond (decide ((aq (a1-((List.length a0:Int))))<0)) (
  some (-1)) (
  bm (HX f (λy3 _=>some y3) (λ_ y6 _=>some y6) a0) fuel (aq (a1-((List.length a0:Int))),0))
theorem Ul {f:α->Int->aB Int}{s:α->Nat}{a:ax α}{l:Int}(h0:0<=l)(h1:l<=1048576)(hm:a.length<=9223372036854775807)(hf:∀x∈a,∀l:Int,0<=l->l<=1048576->∃r,f x l=some r/\((s x:Int)<=l->r=l-s x)/\(¬(s x:Int)<=l->r<0)):OQ f a l=some (kL l ((a.length+(a.map s).sum:Nat):Int)):=by
 unfold OQ;have hfu:=eO;rw[ak];rcases Int.lt_or_le (l-a.length) 0 with hneg|hpos;rw[au hneg];simp only[ah,kL];rw[jR];rw[jJ];simp only[af];have key:=Cz (T:=HX f (λy3 _=>some y3) (λ_ y6 _=>some y6) a) a (λ(q:Int) i=>(q,(i:Int))) (λx q k=>aa (f x q) λr=>cond (decide (r<0)) (some (-1)) (k r)) (λq=>some q) (λi hi q nx=>by simp only[HX];rw[lT];simp only[ah,bK hi,ab];rw[ak];rfl) (λq nx=>by simp only[HX];rw[jJ];rfl) fuel 0 (l-a.length) (by omega) (by omega);have e:((0:Nat):Int)=0:=rfl;rw[e,fM]at key;rw[key];have main:∀(b:ax α)(q:Int),0<=q->q<=1048576->(∀x∈b,x∈a)->Bd (λx q k=>aa (f x q) λr=>cond (decide (r<0)) (some (-1)) (k r)) (λq=>some q) b q=some (kL q ((b.map s).sum:Nat)):=by intro b;induction b with|nil=>intro q hq _ _;simp[Bd,kL,hq]|cons x b ih=>intro q hq hq2 hb;obtain⟨r,hr,hr1,hr2⟩:=hf x (hb x (by simp)) q hq hq2;rw[Bd,hr,ab];by_cases hle:(s x:Int)<=q;have:=hr1 hle;subst this;rw[jJ];simp only[af];rw[ih _ (by omega) (by omega) (λy hy=>hb y (by simp[hy]))];simp only[kL,cU,List.sum_cons];congr 1;split<;>split<;>omega;rw[au (hr2 hle)];simp only[ah,kL,cU,List.sum_cons];rw[jR]
 rw[main a _ (by omega) (by omega) (λx h=>h)];simp only[kL];congr 1;split<;>split<;>omega
def yQ (f:Int->aB Int)(n:Nat):Prop:=∀l:Int,0<=l->l<=1048576->f l=some (kL l n)
theorem yQ.nil:yQ (λl=>some l) 0:=λl h0 _=>by simp[kL,h0]
theorem yQ.len {m:Nat}(hn:n<=9223372036854775807){k:Int->aB Int}(h:yQ k m): yQ (λl=>cond (decide (aq (l-(n:Int))<0)) (some (-1)) (k (aq (l-(n:Int))))) (n+m):=by intro l h0 h1;simp only;rw[ak];by_cases hl:l-(n:Int)<0;rw[au hl];simp only[ah,kL];rw[jR];rw[ar hl];simp only[af];rw[h _ (by omega) (by omega)];simp only[kL];congr 1;split<;>split<;>omega
theorem yQ.sub {k:Int->aB Int}{m:Nat}(hf:yQ f n)(h:yQ k m):yQ (λl=>aa (f l) λr=>cond (decide (r<0)) (some (-1)) (k r)) (n+m):=by
 intro l h0 h1;simp only;rw[hf l h0 h1,ab];by_cases hl:(n:Int)<=l;have e:kL l n=l-n:=by simp[kL,hl]
 rw[e,jJ];simp only[af];rw[h _ (by omega) (by omega)];simp only[kL];congr 1;split<;>split<;>omega;have e:kL l n= -1:=by simp[kL,hl]
 rw[e];simp only[kL];rw[jR];rfl
theorem yQ.cast {m:Nat}(h:yQ f n)(e:n=m):yQ f m:=e▸h
theorem yQ.list {f:α->Int->aB Int}{s:α->Nat}{a:ax α}(hm:a.length<=9223372036854775807)(hf:∀x∈a,yQ (f x) (s x)):yQ (OQ f a) (a.length+(a.map s).sum):=λ_ h0 h1=>Ul h0 h1 hm (λx hx l h0 h1=>⟨_,hf x hx l h0 h1,λh=>by simp[kL,h],λh=>by simp[kL,h]⟩)
theorem yQ.flat (hn:n<=9223372036854775807):yQ (λl=>cond (decide (aq (l-(n:Int))<0)) (some (-1)) (some (aq (l-(n:Int))))) n:=(yQ.len (n:=n) hn yQ.nil).cast (by omega)
theorem yQ.use (hf:yQ f n){l:Int}(h0:0<=l)(h1:l<=1048576){k:Int->aB Bool}(hk:(n:Int)<=l->k (l-n)=some true): (aa (f l) λr=>cond (decide (r<0)) (some true) (k r))=some true:=by
 rw[hf l h0 h1,ab];by_cases hl:(n:Int)<=l;have e:kL l n=l-n:=by simp[kL,hl]
 rw[e,jJ];exact hk hl;have e:kL l n= -1:=by simp[kL,hl]
 rw[e];rfl
theorem H4 {T:(Int->aB R)->Int->aB R}{fin hit:aB R}(p:α->Bool)(a:ax α)(h:a.length<=1000000000000)(hs:∀i (hi:i<a.length) nx,T nx (i:Int)=cond (p a[i]) hit (nx ((i+1:Nat):Int)))(hf:∀nx,T nx (a.length:Int)=fin): bm T fuel 0=cond (a.any p) hit fin:=by
 have hfu:=eO;have key:∀n i,i<=a.length->a.length-i<n->bm T n (i:Int)=cond ((a.drop i).any p) hit fin:=by
  intro n;induction n with
  |zero=>intro i _ h;omega
  |succ n ih=>
   intro i hi hn;rw[bm];rcases ca i a.length with hlt|hge;rw[hs i hlt,cg hlt,List.any_cons];cases hq:p a[i]with|true=>rfl|false=>exact ih (i+1) (by omega) (by omega)
   have:i=a.length:=by omega
   subst this;rw[hf,gX];rfl
 exact key fuel 0 (by omega) (by omega)
theorem ql {T:(Int->aB R)->Int->aB R}{fin hit:aB R}(p:Nat->Bool)(N:Nat)(h:N<=1000000000000)(hs:∀i nx,i<N->T nx (i:Int)=cond (!(p i)) hit (nx ((i+1:Nat):Int)))(hf:∀nx,T nx (N:Int)=fin): bm T fuel 0=cond ((List.range N).all p) fin hit:=by
 have hfu:=eO;have key:∀n i,i<=N->N-i<n->bm T n (i:Int)=cond ((List.range' i (N-i)).all p) fin hit:=by
  intro n;induction n with
  |zero=>intro i _ h;omega
  |succ n ih=>
   intro i hi hn;rw[bm];rcases ca i N with hlt|hge;rw[hs i _ hlt,show N-i=(N-(i+1))+1 by omega,List.range'_succ,cr];cases hq:p i with|false=>rfl|true=>exact ih (i+1) (by omega) (by omega)
   have:i=N:=by omega
   subst this;rw[hf,lf];rfl
 have:=key fuel 0 (by omega) (by omega);rw[Nat.sub_zero,<-List.range_eq_range']at this;exact this
theorem oK {T:(Int->aB R)->Int->aB R}{fin hit:aB R}(p:α->Bool)(a:ax α)(h:a.length<=1000000000000)(hs:∀i (hi:i<a.length) nx,T nx (i:Int)=cond (!(p a[i])) hit (nx ((i+1:Nat):Int)))(hf:∀nx,T nx (a.length:Int)=fin): bm T fuel 0=cond (a.all p) fin hit:=by
 have:=H4 (T:=T) (fin:=fin) (hit:=hit) (λx=> !(p x)) a h hs hf;rw[this];have e:a.any (λx=> !(p x))= !(a.all p):=by rw[dS];simp
 rw[e];cases a.all p<;>rfl
theorem Lq {T:(X->aB R)->X->aB R}{fin hit:aB R}(e:Nat->X)(p:Nat->Bool)(N:Nat)(h:N<=1000000000000)(hs:∀i nx,i<N->(∀j,j<i->p j=true)->T nx (e i)=cond (!(p i)) hit (nx (e (i+1))))(hf:(∀j,j<N->p j=true)->∀nx,T nx (e N)=fin): bm T fuel (e 0)=cond ((List.range N).all p) fin hit:=by
 have hfu:=eO;have key:∀n i,i<=N->N-i<n->(∀j,j<i->p j=true)->bm T n (e i)=cond ((List.range' i (N-i)).all p) fin hit:=by
  intro n;induction n with
  |zero=>intro i _ h;omega
  |succ n ih=>
   intro i hi hn hp;rw[bm];rcases ca i N with hlt|hge;rw[hs i _ hlt hp,show N-i=(N-(i+1))+1 by omega,List.range'_succ,cr];cases hq:p i with|false=>rfl|true=>refine ih (i+1) (by omega) (by omega) λj hj=>?_;by_cases hji:j=i;rw[hji];exact hq;exact hp j (by omega)
   have:i=N:=by omega
   subst this;rw[hf hp,lf];rfl
 have:=key fuel 0 (by omega) (by omega) (λj hj=>absurd hj (by omega));rw[Nat.sub_zero,<-List.range_eq_range']at this;exact this
theorem Cp {T:(Int->aB R)->Int->aB R}{fin:aB R}{hit:Int->aB R}(p:α->Bool)(a:ax α)(h:a.length<=1000000000000)(hs:∀i (hi:i<a.length) nx,T nx (i:Int)=cond (p a[i]) (hit (i:Int)) (nx ((i+1:Nat):Int)))(hf:∀nx,T nx (a.length:Int)=fin): bm T fuel 0=(match a.findIdx? p with|some i=>hit (i:Int)|none=>fin):=by
 have hfu:=eO;have key:∀n i,i<=a.length->a.length-i<n->bm T n (i:Int)=(match (a.drop i).findIdx? p with|some j=>hit ((i+j:Nat):Int)|none=>fin):=by
  intro n;induction n with
  |zero=>intro i _ h;omega
  |succ n ih=>
   intro i hi hn;rw[bm];rcases ca i a.length with hlt|hge;rw[hs i hlt,cg hlt,List.findIdx?_cons];cases hq:p a[i]with|true=>rfl|false=>have:=ih (i+1) (by omega) (by omega);simp only[af];refine this.trans ?_;cases (a.drop (i+1)).findIdx? p with|none=>rfl|some j=>simp only[dz,ba,cl];congr 2;omega
   have:i=a.length:=by omega
   subst this;rw[hf,gX];rfl
 have:=key fuel 0 (by omega) (by omega);refine this.trans ?_;rw[fM];cases a.findIdx? p with|none=>rfl|some j=>simp only[cD]
theorem cF (a b:Bool):(bif a then b else false)=(a&&b):=by cases a<;>rfl
theorem cT (a b:Bool):(bif a then true else b)=(a||b):=by cases a<;>rfl
theorem cN (a b:Bool):(bif a then false else b)=(!a&&b):=by cases a<;>rfl
def Ox {α σ R:Type}(g:α->σ->Except (aB R) σ)(fin:σ->aB R):ax α->σ->aB R
 |[],s=>fin s
 |x::xs,s=>match g x s with| .error r=>r| .ok s'=>Ox g fin xs s'
theorem EZ {σ:Type}{T:(X->aB R)->X->aB R}(xs:ax α)(e:σ->Nat->X)(Inv:Nat->σ->Prop)(g:α->σ->Except (aB R) σ)(fin:σ->aB R)(h:xs.length<=1000000000000)(hs:∀i (hi:i<xs.length) s nx,Inv i s->T nx (e s i)=match g xs[i] s with| .error r=>r| .ok s'=>nx (e s' (i+1)))(hn:∀i (hi:i<xs.length) s s',Inv i s->g xs[i] s=.ok s'->Inv (i+1) s')(hf:∀s nx,Inv xs.length s->T nx (e s xs.length)=fin s)(s:σ)(h0:Inv 0 s): bm T fuel (e s 0)=Ox g fin xs s:=by
 have key:∀n i s,i<=xs.length->xs.length-i<n->Inv i s->bm T n (e s i)=Ox g fin (xs.drop i) s:=by
  intro n;induction n with
  |zero=>intro i s _ h;omega
  |succ n ih=>
   intro i s hi hn' hI;rw[bm];rcases ca i xs.length with hlt|hge;rw[hs i hlt s _ hI,cg hlt,Ox];cases hg:g xs[i] s with|error r=>rfl|ok s'=>exact ih (i+1) s' (by omega) (by omega) (hn i hlt s s' hI hg)
   have:i=xs.length:=by omega
   subst this;rw[hf s _ hI,gX,Ox]
 have hfu:=eO;have:=key fuel 0 s (by omega) (by omega) h0;rwa[fM]at this
theorem HT {α σ R:Type}(f:σ->α->σ)(fin:σ->aB R):∀(xs:ax α)(s:σ),Ox (λx s=> .ok (f s x)) fin xs s=fin (xs.foldl f s)
 |[],_=>rfl
 |x::xs,s=>by rw[Ox];exact HT f fin xs (f s x)
theorem eV {T:(X->aB R)->X->aB R}{fin:aB R}(e:Nat->X)(N:Nat)(h:N<=1000000000000)(hs:∀i nx,i<N->T nx (e i)=nx (e (i+1)))(hf:∀nx,T nx (e N)=fin):bm T fuel (e 0)=fin:=by rw[Lq (hit:=fin) (fin:=fin) e (λ_=>true) N h (λi nx hi _=>by rw[hs i nx hi];rfl) (λ_ nx=>hf nx)];cases (List.range N).all (λ_=>true)<;>rfl
theorem ni {l:ax α}{k:aB R}(h:l.length<=1000000000):room (List.length ([]:ax α)+l.length) k=k:=aZ (by simp only[eD];omega)
def dp (a lo hi:Int):Bool:=decide (lo<=a)&&decide (a<=hi)
theorem aX {a lo hi:Int}:dp a lo hi=true↔lo<=a/\a<=hi:=by simp[dp]
theorem eI (a b c:Int):bh a b c=some (dp a b c):=by simp only[bh,cu,ab,dp];cases h:decide (a>=b)<;>rfl
theorem di (a b c:Int):aE a b c=some (dp a b c):=eI a b c
theorem cS {l:ax α}(h:i<l.length)(d:α):l.getD i d=l[i]:=by rw[aY,al h];rfl
def KK (l:dC)(i:Nat):Bool:=dp (l.getD i 0) 0 4095&& !(decide (0<i)&&decide (l.getD i 0<=l.getD (i-1) 0))
def qp (f:Filter):Bool:=(List.range f.2.2.length).all (KK f.2.2)&&(dp f.1 0 281474976710654&&decide ((f.2.2.length:Int)<=8))
theorem T6 (f:Filter)(h:f.2.2.length<=1000000000):vD f=some (qp f):=by
 unfold vD;rw[ql (hit:=some false) (fin:=some (dp f.1 0 281474976710654&&decide ((f.2.2.length:Int)<=8))) (KK f.2.2) f.2.2.length (by omega) (λi nx hi=>?hs) (λnx=>?hf)]
 case hs=>
  simp only[qM]
  rw[lT,bK hi,ak (n:=(i:Int)+1)]
  simp only[ah,ab,eI,KK,cS hi]
  by_cases h0:0<i
  ·have e:aq ((i:Int)-1)=((i-1:Nat):Int):=by rw[ak];omega
   have hp:i-1<f.2.2.length:=by omega
   rw[e,bK hp,au (show(i:Int)>0 by omega),au h0,cS hp]
   simp only[ah,ab,bB]
   cases dp f.2.2[i] 0 4095<;>cases decide (f.2.2[i]<=f.2.2[i-1])<;>rfl
  ·rw[ar (show¬(i:Int)>0 by omega),ar h0]
   simp only[af,fi]
   cases dp f.2.2[i] 0 4095<;>rfl
 case hf=>
  simp only[qM]
  rw[jJ]
  simp only[af,eI,ab,AZ,cu]
  cases dp f.1 0 281474976710654<;>rfl
 unfold qp;cases (List.range f.2.2.length).all (KK f.2.2)<;>rfl
theorem Jq (f:Filter)(h:f.2.2.length<=1000000000):ry f=some (qp f):=by
 unfold ry;rw[ql (hit:=some false) (fin:=some (dp f.1 0 281474976710654&&decide ((f.2.2.length:Int)<=8))) (KK f.2.2) f.2.2.length (by omega) (λi nx hi=>?hs) (λnx=>?hf)]
 case hs=>
  simp only[qs]
  rw[lT,bK hi,ak (n:=(i:Int)+1)]
  simp only[ah,ab,di,KK,cS hi]
  by_cases h0:0<i
  ·have e:aq ((i:Int)-1)=((i-1:Nat):Int):=by rw[ak];omega
   have hp:i-1<f.2.2.length:=by omega
   rw[e,bK hp,au (show(i:Int)>0 by omega),au h0,cS hp]
   simp only[ah,ab,bB,ge_iff_le]
   cases dp f.2.2[i] 0 4095<;>cases decide (f.2.2[i]<=f.2.2[i-1])<;>rfl
  ·rw[ar (show¬(i:Int)>0 by omega),ar h0]
   simp only[af,fi]
   cases dp f.2.2[i] 0 4095<;>rfl
 case hf=>
  simp only[qs]
  rw[jJ]
  simp only[af,di,ab,AZ,cu]
  cases dp f.1 0 281474976710654<;>rfl
 unfold qp;cases (List.range f.2.2.length).all (KK f.2.2)<;>rfl
def yJ (r:kb):Bool:=(lO r).getD false
theorem RQ (r:kb):lO r=some (yJ r):=by
 have:∃b,lO r=some b:=by simp only[lO,eI,ab,cu];exact⟨_,rfl⟩
 obtain⟨b,hb⟩:=this;simp[yJ,hb]
theorem Zy (r:kb):yD r=some (yJ r):=RQ r
theorem Rz {r:kb}(h:yJ r=true):r.2.2.2.2.2.2.2.1=0\/r.2.2.2.2.2.2.2.2=0:=by
 by_cases h0:r.2.2.2.2.2.2.2.1=0;exact .inl h0;by_cases h1:r.2.2.2.2.2.2.2.2=0;exact .inr h1;exfalso;have e0:(r.2.2.2.2.2.2.2.1==0)=false:=by simp[h0]
 have e1:(r.2.2.2.2.2.2.2.2==0)=false:=by simp[h1]
 revert h;unfold yJ;simp only[lO,eI,ab,cu,e0,e1,af,fX];have z:∀c:Bool,(bif c then false else false)=false:=by intro c;cases c<;>rfl
 simp only[z];intro h;cases h
def wD (l:ax kb):Bool:=l.all yJ&&decide ((l.length:Int)<=12)
theorem MD (l:ax kb)(h:l.length<=1000000000):xi l=some (wD l):=by
 unfold xi;rw[oK (hit:=some false) (fin:=some (decide ((l.length:Int)<=12))) yJ l (by omega) (λi hi nx=>?hs) (λnx=>?hf)]
 case hs=>
  simp only[sy]
  rw[lT,bK hi,ak]
  simp only[ah,ab,RQ];rfl
 case hf=>
  simp only[sy]
  rw[jJ];rfl
 unfold wD;cases l.all yJ<;>rfl
theorem LZ (l:ax kb)(h:l.length<=1000000000):xa l=some (wD l):=by rw[<-MD l h];rfl
theorem amL (x:Int):((BitVec.ofInt 64 x&&&BitVec.ofInt 64 7).toNat:Int)=x%8:=by
 have h7:(BitVec.ofInt 64 7).toNat=2^3-1:=by decide
 rw[BitVec.toNat_and,h7,Nat.and_two_pow_sub_one_eq_mod];simp only[BitVec.toNat_ofInt];omega
theorem aix (x:Int):((gN x&&&gN 7).toNat:Int)=x%8:=amL x
theorem acJ (x:Int):iW x 8=some (x%8):=by unfold iW;rw[jR,Int.tmod_eq_emod];split;rw[jJ];simp;rw[au (by simp;omega),ak (by simp;omega) (by simp;omega)];simp
def zD (f:iY):Int:=(f.1%8+f.2.1%8+f.2.2.1%8+f.2.2.2.1%8+f.2.2.2.2%8)%8
theorem Jk (f:iY):0<=zD f/\zD f<8:=by unfold zD;omega
theorem abD {n:Int}(h:0<=n:=by omega):Int.tmod n 8=n%8:=dB h
theorem RM (f:iY):rP f=some (zD f):=by
 unfold rP;generalize hL:[f.1,f.2.1,f.2.2.1,f.2.2.2.1,f.2.2.2.2]=L;have hlen:L.length=5:=by rw[<-hL];rfl
 have hfu:=eO;have key:=Cz (R:=Int) (T:=nq (λ(y2:Int) (y3:Int)=>if 8=0 then none else(some (Int.tmod y2 8))) L) L (λ(s:Int) i=>(s,(i:Int))) (λx s k=>k (aq (s+aq (x%8)))) (λs=>some (Int.tmod s 8)) (λi hi s nx=>by simp only[nq];rw[lT,bK hi,ak (n:=(i:Int)+1)];simp only[ah,ab];rw[aix L[i]];rfl) (λs nx=>by simp only[nq];rw[jJ];rfl) fuel 0 0 (by omega) (by omega);refine key.trans ?_;rw[<-hL];simp only[fM,Bd];rw[ak (n:=f.1%8),ak (n:=f.2.1%8),ak (n:=f.2.2.1%8),ak (n:=f.2.2.2.1%8),ak (n:=f.2.2.2.2%8)];rw[ak (n:=0+f.1%8),ak (n:=0+f.1%8+_),ak (n:=0+f.1%8+_+_),ak (n:=0+f.1%8+_+_+_),ak (n:=0+f.1%8+_+_+_+_)];rw[abD,zD,Int.zero_add]
theorem Zr (f:iY):vj f=some (zD f):=by
 unfold vj;generalize hL:[f.1,f.2.1,f.2.2.1,f.2.2.2.1,f.2.2.2.2]=L;have hlen:L.length=5:=by rw[<-hL];rfl
 have hfu:=eO;have key:=Cz (R:=Int) (T:=mS (λ(y2:Int) (y3:Int)=>if 8=0 then none else(some (Int.tmod y2 8))) L (L.length:Int)) L (λ(s:Int) i=>(s,(i:Int))) (λx s k=>k (aq (s+(x%8)))) (λs=>some (Int.tmod s 8)) (λi hi s nx=>by simp only[mS];rw[lT,bK hi,ak (n:=(i:Int)+1)];simp only[ah,ab,acJ];rfl) (λs nx=>by simp only[mS];rw[jJ];rfl) fuel 0 0 (by omega) (by omega);refine key.trans ?_;rw[<-hL];simp only[fM,Bd];rw[ak (n:=0+f.1%8),ak (n:=0+f.1%8+_),ak (n:=0+f.1%8+_+_),ak (n:=0+f.1%8+_+_+_),ak (n:=0+f.1%8+_+_+_+_)];rw[abD,zD,Int.zero_add]
def gB (t:ax Slot)(i:Nat):Slot:=t.getD i (0,(0,0,0,0,0),0)
theorem uN {t:ax Slot}(h:i<t.length):gB t i=t[i]:=cS h _
def kW (f:iY)(k:Nat):Nat:=((zD f).toNat+k)%8
theorem CK (f:iY)(k:Nat):kW f k<8:=Nat.mod_lt _ (by omega)
theorem R7 (f:iY)(k:Nat)(h:k<8):Int.tmod (aq (zD f+(k:Int))) 8=(kW f k:Int):=by have:=Jk f;rw[ak,abD,kW];omega
def oI (s:Slot)(f:iY):Bool:=(s.1==1)&&decide (s.2.1=f)
theorem Eh (p q:iY):((p.1==q.1)&&((p.2.1==q.2.1)&&((p.2.2.1==q.2.2.1)&&((p.2.2.2.1==q.2.2.2.1)&&((p.2.2.2.2==q.2.2.2.2)&&true)))))=decide (p=q):=by obtain⟨a,b,c,d,e⟩:=p;obtain⟨a',b',c',d',e'⟩:=q;rw[dS];simp
def walk (t:ax Slot)(f:iY):Nat->Nat->Int
 |0,_=> -1
 |n+1,k=>if(gB t (kW f k)).1=0 then-1 else if oI (gB t (kW f k)) f then(kW f k:Int) else walk t f n (k+1)
theorem RL (t:ax Slot)(f:iY)(ht:t.length=8):uo t f=some (walk t f 8 0):=by
 unfold uo;have hfu:=eO
 have key:=EJ (R:=Int) (T:=oE (λ(y6:Int)=>some (-1)) (λ(y7:Int) (y8:Int)=>some y7) 0 t f) 8 (λ(_:Unit) i=>(i:Int))
  (λi s k=>if(gB t (kW f i)).1=0 then some (-1) else if oI (gB t (kW f i)) f then some (kW f i:Int) else k s) (λ_=>some (-1))
  (λi s nx hi=>by
   have hw:kW f i<t.length:=by have:=CK f i;omega
   simp only[oE,RM];rw[lT,ak (n:=(i:Int)+1)];simp only[ah,ab,R7 f i hi,bK hw,uN hw,Eh,oI,cu,ab];rw[jR];by_cases h0:t[kW f i].1=0;simp[h0];have e0:(t[kW f i].1==0)=false:=by simp[h0]
   rw[e0,aI h0];cases (t[kW f i].1==1)<;>cases decide (t[kW f i].2.1=f)<;>rfl)
  (λs nx=>by simp only[oE];rfl)
  fuel 0 () (by omega) (by omega)
 refine key.trans ?_;have main:∀n i,upK (R:=Int) (λi (s:Unit) k=>if(gB t (kW f i)).1=0 then some (-1) else if oI (gB t (kW f i)) f then some (kW f i:Int) else k s) (λ_=>some (-1)) 8 n i ()=some (walk t f n i):=by intro n;induction n with|zero=>intro i;rfl|succ n ih=>intro i;rw[upK,walk];split;rfl;split;rfl;exact ih (i+1)
 exact main 8 0
def wz (f:iY):ax Slot->Int->Int
 |[],_=> -1
 |s::r,i=>if oI s f then i else wz f r (i+1)
theorem Qo (t:ax Slot)(f:iY)(h:t.length<=1000000000):vZ t f=some (wz f t 0):=by
 unfold vZ;have hfu:=eO;have key:∀n i,i<=t.length->t.length-i<n->bm (tO (λ(y3:Int)=>some (-1)) (λ(y4:Int) (y5:Int)=>some y4) 0 t ((List.length t:Int)) f) n (i:Int)=some (wz f (t.drop i) i):=by
  intro n;induction n with
  |zero=>intro i _ h;omega
  |succ n ih=>
   intro i hi hn;rw[bm];simp only[tO];rcases ca i t.length with hlt|hge;rw[lT,bK hlt,cg hlt,wz,ak];simp only[ah,ab,Eh,cu];have e:(bif t[i].1==1 then decide (t[i].2.1=f) else false)=oI t[i] f:=by unfold oI;cases (t[i].1==1)<;>rfl
   rw[e];cases oI t[i] f with|true=>rfl|false=>exact ih (i+1) (by omega) (by omega)
   have:i=t.length:=by omega
   subst this;rw[jJ,gX];rfl
 exact key fuel 0 (by omega) (by omega)
theorem acj (f:iY):Aq f=some ((List.range 8).map λk=>(kW f k:Int)):=by unfold Aq;have hfu:=eO;have key:=EJ (R:=dC) (T:=rK (λ(y2:dC) (y3:Int)=>some y2) f) 8 (λ(_:Unit) i=>((List.range i).map (λk=>(kW f k:Int)),(i:Int))) (λ_ s k=>k s) (λ_=>some ((List.range 8).map λk=>(kW f k:Int))) (λi s nx hi=>by simp only[rK,Zr];rw[lT,ak (n:=(i:Int)+1)];simp only[ah,ab,R7 f i hi];rw[jR,aZ (by simp;omega),List.range_succ,cY];rfl) (λs nx=>by simp only[rK];rfl) fuel 0 () (by omega) (by omega);exact key
def clear (t:ax Slot)(f:iY)(i:Nat):Nat->Nat->Bool
 |0,_=>true
 |n+1,k=>if kW f k=i then true else if(gB t (kW f k)).1=0 then false else clear t f i n (k+1)
theorem Ws (k0:Int->aB R)(k1:Bool->Int->aB R)(hit fin:aB R)(h0:∀x,k0 x=fin)(h1:∀x,k1 false x=hit)(v2:Bool)(i:Nat)(v12:ax Slot)(v13 v14:Int)(t:ax Slot)(f:iY)(ht:t.length=8): bm (kz k0 k1 v2 (i:Int) v12 v13 v14 ((List.range 8).map λk=>(kW f k:Int)) (((List.range 8).map λk=>(kW f k:Int)).length:Int) t) fuel 0=cond (clear t f i 8 0) fin hit:=by
 have hfu:=eO;have hl:((List.range 8).map λk=>(kW f k:Int)).length=8:=by simp
 have key:=EJ (R:=R) (T:=kz k0 k1 v2 (i:Int) v12 v13 v14 ((List.range 8).map λk=>(kW f k:Int)) (((List.range 8).map λk=>(kW f k:Int)).length:Int) t) 8 (λ(_:Unit) i=>(i:Int))
  (λk s c=>if kW f k=i then fin else if(gB t (kW f k)).1=0 then hit else c s) (λ_=>fin)
  (λk s nx hk=>by
   have hw:kW f k<t.length:=by have:=CK f k;omega
   simp only[kz];rw[lT,bK (show k<((List.range 8).map λk=>(kW f k:Int)).length by omega),ak (n:=(k:Int)+1)];simp only[ah,ab,List.getElem_map,List.getElem_range,bK hw,uN hw,h0,h1];by_cases e1:kW f k=i;subst e1;simp;have:((kW f k:Int)==(i:Int))=false:=by simp;omega
   rw[this,aI e1];by_cases e2:t[kW f k].1=0;simp[e2];have:(t[kW f k].1==0)=false:=by simp[e2]
   rw[this,aI e2];rfl)
  (λs nx=>by simp only[kz];rw[jJ];exact h0 _)
  fuel 0 () (by omega) (by omega)
 refine key.trans ?_;have main:∀n k,upK (R:=R) (λk (s:Unit) c=>if kW f k=i then fin else if(gB t (kW f k)).1=0 then hit else c s) (λ_=>fin) 8 n k ()=cond (clear t f i n k) fin hit:=by intro n;induction n with|zero=>intro k;rfl|succ n ih=>intro k;rw[upK,clear];split;rfl;split;rfl;exact ih (k+1)
 exact main 8 0
def PR:iY:=(0,0,0,0,0)
theorem PT (p:iY):((p.1==0)&&((p.2.1==0)&&((p.2.2.1==0)&&((p.2.2.2.1==0)&&((p.2.2.2.2==0)&&true)))))=decide (p=PR):=Eh p PR
def MC (s:Slot):Bool:=dp s.1 0 2&&dp s.2.2 0 3&&((s.1==1)||(s.2.2==0)&&decide (s.2.1=PR))
def nk (t:ax Slot)(i:Nat):Bool:=MC (gB t i)&&(!((gB t i).1==1)||(walk t (gB t i).2.1 8 0==(i:Int)))
def sQ (t:ax Slot)(i:Nat):Bool:=MC (gB t i)&&(!((gB t i).1==1)||(wz (gB t i).2.1 t 0==(i:Int))&&clear t (gB t i).2.1 i 8 0)
def og (t:ax Slot):Bool:=(t.length==8)&&(List.range 8).all (nk t)
theorem ME (t:ax Slot):ug t=some (og t):=by
 unfold ug og;by_cases ht:t.length=8
 ·have e:((t.length:Int) !=8)=false:=by rw[ht];rfl
  have e2:(t.length==8)=true:=by rw[ht];rfl
  rw[e,e2];simp only[af,bB];rw[ql (hit:=some false) (fin:=some true) (nk t) 8 (by omega) (λi nx hi=>?hs) (λnx=>?hf)]
  case hs=>
   have hl:i<t.length:=by omega
   simp only[sB]
   rw[lT,bK hl,ak]
   simp only[ah,ab,eI,cu,PT,RL t _ ht,nk,uN hl,MC,bne]
   cases dp t[i].1 0 2<;>cases dp t[i].2.2 0 3<;>cases (t[i].1==1)<;>cases (t[i].2.2==0)<;>cases decide (t[i].2.1=PR)<;>first|rfl|(cases (walk t t[i].2.1 8 0==(i:Int))<;>rfl)
  case hf=>
   simp only[sB]
   rw[jJ];rfl
  cases (List.range 8).all (nk t)<;>rfl
 have e:((t.length:Int) !=8)=true:=by simp;omega
 have e2:(t.length==8)=false:=by simp[ht]
 rw[e,e2];rfl
theorem Ta (t:ax Slot):qD t=some ((t.length==8)&&(List.range 8).all (sQ t)):=by
 unfold qD;by_cases ht:t.length=8
 ·have e:((t.length:Int) !=8)=false:=by rw[ht];rfl
  have e2:(t.length==8)=true:=by rw[ht];rfl
  rw[e,e2];simp only[af,bB];rw[ql (hit:=some false) (fin:=some true) (sQ t) 8 (by omega) (λi nx hi=>?hs) (λnx=>?hf)]
  case hs=>
   have hl:i<t.length:=by omega
   simp only[si]
   rw[lT,bK hl,ak]
   simp only[ah,ab,di,cu,PT,Qo t _ (show t.length<=1000000000 by omega),acj,sQ,uN hl,MC,bne]
   rw[Ws (λ_=>nx ((i:Int)+1)) (λ(y:Bool) (_:Int)=>some y) (some false) (nx ((i:Int)+1)) (λ_=>rfl) (λ_=>rfl) _ _ _ _ _ _ _ ht]
   cases dp t[i].1 0 2<;>cases dp t[i].2.2 0 3<;>cases (t[i].1==1)<;>cases (t[i].2.2==0)<;>cases decide (t[i].2.1=PR)<;>first|rfl|(cases (wz t[i].2.1 t 0==(i:Int))<;>first|rfl|(cases clear t t[i].2.1 i 8 0<;>rfl))
  case hf=>
   simp only[si]
   rw[jJ];rfl
  cases (List.range 8).all (sQ t)<;>rfl
 have e:((t.length:Int) !=8)=true:=by simp;omega
 have e2:(t.length==8)=false:=by simp[ht]
 rw[e,e2];rfl
theorem ML (t:ax Slot)(f:iY)(i:Nat):∀n k,walk t f n k=(i:Int)->oI (gB t i) f=true/\clear t f i n k=true/\∃j,j<n/\kW f (k+j)=i
 |0,k,h=>by unfold walk at h;omega
 |n+1,k,h=>by
  unfold walk at h;unfold clear;by_cases h0:(gB t (kW f k)).1=0;rw[aH h0]at h;omega;rw[aI h0]at h;by_cases h1:oI (gB t (kW f k)) f=true;rw[aH h1]at h;have:kW f k=i:=by omega
  subst this;exact⟨h1,by simp,0,by omega,rfl⟩;rw[aI h1]at h;obtain⟨a,b,j,hj,e⟩:=ML t f i n (k+1) h;refine⟨a,?_,j+1,by omega,by rw[<-e];congr 1;omega⟩;rw[aI h0,b];split<;>rfl
theorem VQ (t:ax Slot)(f:iY)(i:Nat)(hu:oI (gB t i) f=true)(huniq:∀j,j<8->oI (gB t j) f=true->j=i):∀n k,clear t f i n k=true->(∃j,j<n/\kW f (k+j)=i)->walk t f n k=(i:Int)
 |0,k,_,h=>by obtain⟨j,hj,_⟩:=h;omega
 |n+1,k,hc,⟨j,hj,e⟩=>by unfold walk;unfold clear at hc;by_cases h1:kW f k=i;rw[h1,aI,aH hu];intro h0;unfold oI at hu;rw[h0]at hu;simp at hu;rw[aI h1]at hc;by_cases h0:(gB t (kW f k)).1=0;rw[aH h0]at hc;cases hc;rw[aI h0]at hc;rw[aI h0,aI (λhu'=>h1 (huniq _ (CK f k) hu'))];refine VQ t f i hu huniq n (k+1) hc ?_;cases j with|zero=>exact absurd e h1|succ j=>exact⟨j,by omega,by rw[<-e];congr 1;omega⟩
theorem ado (f:iY)(i:Nat)(hi:i<8):∃j,j<8/\kW f (0+j)=i:=by have:=Jk f;refine⟨(i+8-(zD f).toNat)%8,by omega,?_⟩;unfold kW;omega
theorem Bz (f:iY):∀(t:ax Slot)(m:Nat),(∃j,j<t.length/\oI (gB t j) f=true)->∃j,j<t.length/\oI (gB t j) f=true/\wz f t m=((m+j:Nat):Int)
 |[],_,h=>by obtain⟨j,hj,_⟩:=h;simp at hj
 |s::r,m,⟨j,hj,e⟩=>by
  unfold wz;by_cases hs:oI s f=true;rw[aH hs];exact⟨0,by simp,by simpa[gB]using hs,by simp⟩;rw[aI hs];cases j with
  |zero=>exact absurd (by simpa[gB]using e) hs
  |succ j=>
   obtain⟨j',h1,h2,h3⟩:=Bz f r (m+1) ⟨j,by simpa using hj,by simpa[gB]using e⟩;refine⟨j'+1,by simpa using h1,by simpa[gB]using h2,?_⟩;have:((m:Int)+1)=((m+1:Nat):Int):=by omega
   rw[this,h3];congr 1;omega
theorem T4 (t:ax Slot)(ht:t.length=8):(List.range 8).all (sQ t)=(List.range 8).all (nk t):=by
 rw[dS,aJ,aJ];simp only[cp];constructor;intro h i hi;have hI:=h i hi;unfold sQ at hI;unfold nk;simp only[ae,cG,aL,bq]at hI⊢;refine⟨hI.1,?_⟩;rcases hI.2 with h1|⟨h1,h2⟩;exact .inl h1;by_cases hu:((gB t i).1==1)=true;right;have hu':oI (gB t i) (gB t i).2.1=true:=by unfold oI;rw[hu];simp
 refine VQ t _ i hu' (λj hj huj=>?_) 8 0 h2 (ado _ i hi);have hJ:=h j hj;unfold sQ at hJ;unfold oI at huj;simp only[ae,aD]at huj;simp only[ae,cG,aL,bq]at hJ;rcases hJ.2 with h3|⟨h3,_⟩;rw[huj.1]at h3;cases h3;rw[huj.2]at h3;omega;exact .inl (by simpa using hu);intro h i hi;have hI:=h i hi;unfold nk at hI;unfold sQ;simp only[ae,cG,aL,bq]at hI⊢;refine⟨hI.1,?_⟩;rcases hI.2 with h1|h1;exact .inl h1;right;obtain⟨hu,hc,_⟩:=ML t _ i 8 0 h1;refine⟨?_,hc⟩;obtain⟨j,hj,huj,e⟩:=Bz (gB t i).2.1 t 0 ⟨i,by omega,hu⟩;have hJ:=h j (by omega);unfold nk at hJ;unfold oI at huj;simp only[ae,aD]at huj;simp only[ae,cG,aL,bq]at hJ;rcases hJ.2 with h3|h3;rw[huj.1]at h3;cases h3;rw[huj.2,h1]at h3;have e':wz (gB t i).2.1 t 0=((0+j:Nat):Int):=e;rw[e'];omega
theorem L3 (t:ax Slot):qD t=some (og t):=by
 rw[Ta,og];by_cases ht:t.length=8;rw[T4 t ht];have e2:(t.length==8)=false:=by simp[ht]
 rw[e2];rfl
def Vz (n:Int):Bool:=(n==1)||(n==2)||(n==4)||(n==8)||(n==16)
theorem Tj (n:Int):xn n=some (Vz n):=by simp only[xn,cu,ab,Vz];cases (n==1)<;>cases (n==2)<;>cases (n==4)<;>cases (n==8)<;>rfl
def pE (s:lU)(q:Int):Bool:=dp q 1 4&&((s.1.length:Int)==16)&&Vz s.2.length&&s.2.all λx=>dp x 0 (q-1)
theorem Kr (s:lU)(q:Int)(h:s.2.length<=1000000000):vG s q=some (pE s q):=by
 unfold vG pE;simp only[eI,Tj,ab,cu,bne];by_cases hq:dp q 1 4=true
 ·rw[oK (hit:=some false) (fin:=some true) (λx=>dp x 0 (q-1)) s.2 (by omega) (λi hi nx=>?hs) (λnx=>?hf)]
  case hs=>
   rw[aX]at hq
   simp only[qP]
   rw[lT,bK hi,ak (n:=(i:Int)+1),ak (n:=q-1)]
   simp only[ah,ab,eI];rfl
  case hf=>
   simp only[qP]
   rw[jJ];rfl
  rw[hq];cases ((s.1.length:Int)==16)<;>cases Vz s.2.length<;>cases s.2.all (λx=>dp x 0 (q-1))<;>rfl
 have hq':dp q 1 4=false:=by simpa using hq
 rw[hq'];rfl
theorem Jx (s:lU)(q:Int)(h:s.2.length<=1000000000):vr s q=some (pE s q):=by rw[<-Kr s q h];rfl
def fL (s:dm)(q:Int):Bool:=wD s.1&&og s.2.1&&pE s.2.2 q&&s.1.all (λr=> !(decide (r.2.2.2.2.2.2.2.2>=q)))&&s.2.1.all (λx=> !(decide (x.2.2>=q)))
theorem OG (s:dm)(q:Int)(h1:s.1.length<=1000000000)(h2:s.2.1.length<=1000000000)(h3:s.2.2.2.length<=1000000000):sA s q=some (fL s q):=by
 unfold sA fL;simp only[MD _ h1,ME,Kr _ _ h3,ab,cu];rw[oK (hit:=some false) (fin:=cond (s.2.1.all (λx=> !(decide (x.2.2>=q)))) (some true) (some false)) (λr:kb=> !(decide (r.2.2.2.2.2.2.2.2>=q))) s.1 (by omega) (λi hi nx=>?hs) (λnx=>?hf)]
 case hs=>
  simp only[od]
  rw[lT,bK hi,ak]
  simp only[ah,ab,gL];rfl
 case hf=>
  simp only[od]
  rw[jJ]
  simp only[af]
  rw[oK (hit:=some false) (fin:=some true) (λx:Slot=> !(decide (x.2.2>=q))) s.2.1 (by omega) (λi hi nx=>?hs) (λnx=>?hf)]
  case hs=>
   simp only[oe]
   rw[lT,bK hi,ak]
   simp only[ah,ab,gL];rfl
  case hf=>
   simp only[oe]
   rw[jJ];rfl
 cases wD s.1<;>cases og s.2.1<;>cases pE s.2.2 q<;>cases s.1.all (λr=> !(decide (r.2.2.2.2.2.2.2.2>=q)))<;>cases s.2.1.all (λx=> !(decide (x.2.2>=q)))<;>rfl
theorem Ez (s:dm)(q:Int)(h1:s.1.length<=1000000000)(h2:s.2.1.length<=1000000000)(h3:s.2.2.2.length<=1000000000):ov s q=some (fL s q):=by
 unfold ov fL;simp only[LZ _ h1,L3,Jx _ _ h3,ab,cu];rw[oK (hit:=some false) (fin:=cond (s.2.1.all (λx=> !((x.1==1)&&decide (x.2.2>=q)))) (some true) (some false)) (λr:kb=> !((r.2.2.2.2.2.2.2.1==0)&&decide (r.2.2.2.2.2.2.2.2>=q))) s.1 (by omega) (λi hi nx=>?hs) (λnx=>?hf)]
 case hs=>
  simp only[nQ]
  rw[lT,bK hi,ak]
  simp only[ah,ab,gL,cu]
  cases (s.1[i].2.2.2.2.2.2.2.1==0)<;>rfl
 case hf=>
  simp only[nQ]
  rw[jJ]
  simp only[af]
  rw[oK (hit:=some false) (fin:=some true) (λx:Slot=> !((x.1==1)&&decide (x.2.2>=q))) s.2.1 (by omega) (λi hi nx=>?hs) (λnx=>?hf)]
  case hs=>
   simp only[mx]
   rw[lT,bK hi,ak]
   simp only[ah,ab,gL,cu]
   cases (s.2.1[i].1==1)<;>rfl
  case hf=>
   simp only[mx]
   rw[jJ];rfl
 cases hr:wD s.1 with
 |false=>rfl
 |true=>
  cases ht:og s.2.1 with
  |false=>rfl
  |true=>
   cases hs:pE s.2.2 q with
   |false=>rfl
   |true=>
    have hq:1<=q:=by unfold pE at hs;simp only[ae,aX]at hs;exact hs.1.1.1.1
    have e1:s.1.all (λr=> !((r.2.2.2.2.2.2.2.1==0)&&decide (r.2.2.2.2.2.2.2.2>=q)))=s.1.all (λr=> !(decide (r.2.2.2.2.2.2.2.2>=q))):=by unfold wD at hr;simp only[ae,aJ]at hr;rw[dS,aJ,aJ];refine forall_congr' λr=>forall_congr' λhm=>?_;rcases Rz (hr.1 r hm)with h0|h0;rw[h0];simp;rw[h0];simp only[ar (show¬(0:Int)>=q by omega),eM]
    have e2:s.2.1.all (λx=> !((x.1==1)&&decide (x.2.2>=q)))=s.2.1.all (λx=> !(decide (x.2.2>=q))):=by unfold og at ht;simp only[ae,aJ,cp,bq]at ht;rw[dS,aJ,aJ];refine forall_congr' λx=>forall_congr' λhm=>?_;obtain⟨i,hi,rfl⟩:=List.mem_iff_getElem.1 hm;have hsl:=ht.2 i (by omega);unfold nk MC at hsl;rw[uN hi]at hsl;simp only[ae,cG,bq]at hsl;rcases hsl.1.2 with h0|⟨h0,_⟩;rw[h0];simp;rw[h0];simp only[ar (show¬(0:Int)>=q by omega),eM]
    rw[e1,e2];cases s.1.all (λr=> !(decide (r.2.2.2.2.2.2.2.2>=q)))<;>cases s.2.1.all (λx=> !(decide (x.2.2>=q)))<;>rfl
theorem ix (h:n<9223372036854775808:=by omega):aq (n:Int)=(n:Int):=ak
theorem Fl (h:n<4294967296:=by omega):IntKind.wrap .u32 (n:Int)=(n:Int):=by simp only[aq,gx,IntKind.wrap,IntKind.bits,IntKind.signed];simp;omega
theorem mu (b:UInt8):b.toNat<256:=b.toNat_lt
def bV (v:Int):Bytes:=(dk v).getD []
theorem nY (v:Int):dk v=some (bV v):=by
 unfold bV;have:∃x,dk v=some x:=by simp only[dk,eI,ab];cases dp v 0 65535<;>exact⟨_,rfl⟩
 obtain⟨x,hx⟩:=this;rw[hx];rfl
theorem kG (v:Int):cn v=some (bV v):=nY v
theorem DZ (v:Int):(bV v).length=bif dp v 0 65535 then 2 else 0:=by have h:=nY v;simp only[dk,eI,ab]at h;cases hb:dp v 0 65535<;>rw[hb]at h<;>(rw[<-cZ h];rfl)
theorem bL (v:Int):(bV v).length<=2:=by rw[DZ];cases dp v 0 65535<;>simp
def il (v:Int):Bytes:=(gj v).getD []
theorem qf (v:Int):gj v=some (il v):=by
 unfold il;have:∃x,gj v=some x:=by simp only[gj,eI,ab];cases dp v 0 4294967295<;>exact⟨_,rfl⟩
 obtain⟨x,hx⟩:=this;rw[hx];rfl
theorem ya (v:Int):gJ v=some (il v):=qf v
theorem KN (v:Int):(il v).length=bif dp v 0 4294967295 then 4 else 0:=by have h:=qf v;simp only[gj,eI,ab]at h;cases hb:dp v 0 4294967295<;>rw[hb]at h<;>(rw[<-cZ h];rfl)
theorem eH (v:Int):(il v).length<=4:=by rw[KN];cases dp v 0 4294967295<;>simp
def bR (s:Bytes)(i:Nat):Nat:=(s.getD i 0).toNat
theorem fb (s:Bytes)(i:Nat):bR s i<256:=mu _
theorem lz (h:i<s.length:=by omega):∃x,idx s (i:Int)=some x/\x.toNat=bR s i:=⟨s[i],bK h,by rw[bR,cS h]⟩
def fH (s:Bytes)(a n:Int):Bool:=decide (0<=a/\a+n<=(s.length:Int))
theorem B5 (s:Bytes)(a n:Int)(h:s.length<=1000000000)(hn:0<=n:=by omega):nr s a n=some (fH s a n):=by
 unfold nr fH;by_cases h0:0<=a;by_cases h1:a<=(s.length:Int)
 rw[au (show a>=0 from h0),au h1,ak];simp only[ah,ab];congr 1;rw[decide_eq_decide];omega;rw[au (show a>=0 from h0),ar h1,ar (show¬(0<=a/\a+n<=(s.length:Int)) by omega)];rfl;rw[ar (show¬a>=0 from h0),ar (show¬(0<=a/\a+n<=(s.length:Int)) by omega)];rfl
def cw (s:Bytes)(a:Int):Int:=bif fH s a 2 then((bR s a.toNat*256+bR s (a.toNat+1):Nat):Int) else-1
def fZ (s:Bytes)(a:Int):Int:=bif fH s a 4 then(((bR s a.toNat*256+bR s (a.toNat+1))*65536+(bR s (a.toNat+2)*256+bR s (a.toNat+3)):Nat):Int) else-1
theorem zQ (s:Bytes)(a:Int)(h:s.length<=1000000000):ij s a=some (cw s a):=by unfold ij cw;rw[B5 s a 2 h,ab];cases hw:fH s a 2 with|false=>rfl|true=>simp only[fH,aD]at hw;obtain⟨n,rfl⟩:=aG hw.1;obtain⟨x,hx,ex⟩:=lz (s:=s) (i:=n);obtain⟨y,hy,ey⟩:=lz (s:=s) (i:=n+1);have hxl:=fb s n;have hyl:=fb s (n+1);rw[ak (n:=(n:Int)+1),hx,show(n:Int)+1=((n+1:Nat):Int) by omega,hy];simp only[aj,af,ab,ay,ah];rw[jR,ex,ey,ix,ix];have e8:mq 8=8:=rfl;rw[e8,ak (n:=((bR s n:Nat):Int)*2^8),ak];congr 1;all_goals omega
theorem Gk (s:Bytes)(a:Int)(h:s.length<=1000000000):oa s a=some (fZ s a):=by
 unfold oa fZ;rw[B5 s a 4 h,ab];cases hw:fH s a 4 with
 |false=>rfl
 |true=>
  simp only[fH,aD]at hw;obtain⟨n,rfl⟩:=aG hw.1;have w1:fH s (n:Int) 2=true:=by simp only[fH,aD];omega
  have w2:fH s ((n:Int)+2) 2=true:=by simp only[fH,aD];omega
  have b0:=fb s n;have b1:=fb s (n+1);have b2:=fb s (n+2);have b3:=fb s (n+3);rw[ak (n:=(n:Int)+2),zQ s _ h,zQ s _ h];simp only[aj,af,ab,ah,cw,w1,w2,ay];rw[jR,show((n:Int)+2).toNat=n+2 by omega,show n+2+1=n+3 by omega];have e8:mq 16=16:=rfl;rw[e8,ak (n:=((bR s n*256+bR s (n+1):Nat):Int)*2^16),ak];congr 1;all_goals omega
theorem are (a b:Nat)(ha:a<9223372036854775808)(hb:b<9223372036854775808):BitVec.toNat (gN (a:Int)|||gN (b:Int))=a|||b:=by show(BitVec.ofInt 64 (a:Int)|||BitVec.ofInt 64 (b:Int)).toNat=_;rw[dK,dK,BitVec.toNat_or,eh,eh,eF (by omega),eF (by omega)]
theorem adx (a b:Nat)(ha:a<9223372036854775808:=by omega)(hb:b<9223372036854775808:=by omega):BitVec.toNat (gN (a:Int)&&&gN (b:Int))=a&&&b:=by show(BitVec.ofInt 64 (a:Int)&&&BitVec.ofInt 64 (b:Int)).toNat=_;rw[dK,dK,BitVec.toNat_and,eh,eh,eF (by omega),eF (by omega)]
theorem abK (a b:Nat)(ha:a<9223372036854775808)(hb:b<9223372036854775808):BitVec.toNat (gN (a:Int)^^^gN (b:Int))=a^^^b:=by show(BitVec.ofInt 64 (a:Int)^^^BitVec.ofInt 64 (b:Int)).toNat=_;rw[dK,dK,BitVec.toNat_xor,eh,eh,eF (by omega),eF (by omega)]
theorem aiw (a b:Nat)(ha:a<4294967296)(hb:b<4294967296):BitVec.toNat (BitVec.ofInt (IntKind.bits .u32) (a:Int)&&&BitVec.ofInt (IntKind.bits .u32) (b:Int))=a&&&b:=by show(BitVec.ofInt 32 (a:Int)&&&BitVec.ofInt 32 (b:Int)).toNat=_;rw[dK,dK,BitVec.toNat_and,eh,eh,eF (by omega),eF (by omega)]
theorem aea (a b:Nat)(ha:a<4294967296)(hb:b<4294967296):BitVec.toNat (BitVec.ofInt (IntKind.bits .u32) (a:Int)^^^BitVec.ofInt (IntKind.bits .u32) (b:Int))=a^^^b:=by show(BitVec.ofInt 32 (a:Int)^^^BitVec.ofInt 32 (b:Int)).toNat=_;rw[dK,dK,BitVec.toNat_xor,eh,eh,eF (by omega),eF (by omega)]
theorem DM (x k y:Nat)(hy:y<2^k:=by omega)(h:2^k*x+y<9223372036854775808:=by omega):aq (BitVec.toNat (gN ((2^k*x:Nat):Int)|||gN (y:Int)):Int)=((2^k*x+y:Nat):Int):=by rw[are _ _ (by omega) (by omega),<-Nat.two_pow_add_eq_or_of_lt hy];exact ix h
theorem Ho (s:Bytes)(a n:Int):(cond (decide (a<0)) (some true) (some (decide (a>(s.length:Int)-n))))=some (!fH s a n):=by cases hw:fH s a n with|true=>simp only[fH,aD]at hw;rw[ar (show¬a<0 by omega),ar (show¬a>(s.length:Int)-n by omega)];rfl|false=>simp only[fH,cR]at hw;by_cases h0:a<0;rw[au h0];rfl;rw[ar h0,au (show a>(s.length:Int)-n by omega)];rfl
theorem uC (s:Bytes)(a:Int)(h:s.length<=1000000000):fI s a=some (cw s a):=by unfold fI cw;rw[ak (n:=(s.length:Int)-2)];rw[Ho,ab];cases hw:fH s a 2 with|false=>rfl|true=>simp only[fH,aD]at hw;obtain⟨n,rfl⟩:=aG hw.1;obtain⟨x,hx,ex⟩:=lz (s:=s) (i:=n);obtain⟨y,hy,ey⟩:=lz (s:=s) (i:=n+1);have hxl:=fb s n;have hyl:=fb s (n+1);rw[ak (n:=(n:Int)+1),hx,show(n:Int)+1=((n+1:Nat):Int) by omega,hy];simp only[aj,af,ah,ab,ay];rw[jR,ex,ey,ix (n:=bR s n),ix (n:=bR s (n+1))];have e8:mq 8=8:=rfl;rw[e8,show((bR s n:Nat):Int)*2^8=((2^8*bR s n:Nat):Int) by omega,ix (n:=2^8*bR s n),DM (bR s n) 8 (bR s (n+1))];congr 1;all_goals omega
theorem xG (s:Bytes)(a:Int)(h:s.length<=1000000000):iJ s a=some (fZ s a):=by
 unfold iJ fZ;rw[ak (n:=(s.length:Int)-4)];rw[Ho,ab];cases hw:fH s a 4 with
 |false=>rfl
 |true=>
  simp only[fH,aD]at hw;obtain⟨n,rfl⟩:=aG hw.1;obtain⟨x0,h0,e0⟩:=lz (s:=s) (i:=n);obtain⟨x1,h1,e1⟩:=lz (s:=s) (i:=n+1);obtain⟨x2,h2,e2⟩:=lz (s:=s) (i:=n+2);obtain⟨x3,h3,e3⟩:=lz (s:=s) (i:=n+3);have b0:=fb s n;have b1:=fb s (n+1);have b2:=fb s (n+2);have b3:=fb s (n+3)
  rw[ak (n:=(n:Int)+1),ak (n:=(n:Int)+2),ak (n:=(n:Int)+3),h0,show(n:Int)+1=((n+1:Nat):Int) by omega,h1,
   show(n:Int)+2=((n+2:Nat):Int) by omega,h2,show(n:Int)+3=((n+3:Nat):Int) by omega,h3]
  simp only[aj,af,ah,ab,ay];rw[jR,jR,jR,e0,e1,e2,e3];generalize bR s n=p0 at*;generalize bR s (n+1)=p1 at*;generalize bR s (n+2)=p2 at*;generalize bR s (n+3)=p3 at*;have f24:mq 24=24:=rfl;have f16:mq 16=16:=rfl;have f8:mq 8=8:=rfl
  rw[ix (n:=p0),ix (n:=p1),ix (n:=p2),ix (n:=p3),f24,f16,f8,
   show((p0:Nat):Int)*2^24=((2^24*p0:Nat):Int) by omega,show((p1:Nat):Int)*2^16=((2^16*p1:Nat):Int) by omega,show((p2:Nat):Int)*2^8=((2^8*p2:Nat):Int) by omega,
   ix (n:=2^24*p0),ix (n:=2^16*p1),ix (n:=2^8*p2),DM p0 24 (2^16*p1),
   show 2^24*p0+2^16*p1=2^16*(2^8*p0+p1) by omega,DM _ 16 (2^8*p2),
   show 2^16*(2^8*p0+p1)+2^8*p2=2^8*(2^8*(2^8*p0+p1)+p2) by omega,DM _ 8 p3]
  congr 1;all_goals omega
def Dv (c:Nat):Nat:=if c%2=1 then(c/2)^^^3988292384 else c/2
def td:Nat->Nat->Nat
 |0,c=>c
 |n+1,c=>Dv (td n c)
def amM (c:Nat)(s:Bytes):Nat:=s.foldl (λc b=>td 8 (c^^^b.toNat)) c
def YP (s:Bytes):Int:=4294967295-(amM 4294967295 s:Int)
theorem AP {b:Nat}(ha:a<4294967296:=by omega)(hb:b<4294967296:=by omega):a^^^b<4294967296:=Nat.xor_lt_two_pow (n:=32) ha hb
theorem V5 {c:Nat}(h:c<4294967296):Dv c<4294967296:=by unfold Dv;split;exact AP;omega
theorem Eb {c:Nat}(h:c<4294967296):∀n,td n c<4294967296
 |0=>h
 |n+1=>V5 (Eb h n)
theorem aam (k0:Int->Int->aB R)(k:Int->aB R)(hk:∀x y,k0 x y=k x)(v0:Bytes)(v4:Int)(c:Nat)(h:c<4294967296):bm (oS k0 v0 v4) fuel ((c:Int),0)=k (td 8 c:Int):=by
 have hfu:=eO
 have key:=EJ (T:=oS k0 v0 v4) 8 (λ(_:Unit) i=>((td i c:Int),(i:Int))) (λ_ s nx=>nx s) (λ_=>k (td 8 c:Int))
  (λi s nx hi=>by
   have hc:=Eb h i;simp only[oS];have a1:=adx (td i c) 1;have x1:=abK (td i c/2) 3988292384 (by omega) (by omega);simp only[Int.natCast_one]at a1
   rw[lT,ah,a1,Nat.and_one_is_mod,
    show mq 1=1 from rfl,show Int.fdiv ((td i c:Nat):Int) (2^1)=((td i c/2:Nat):Int) from by rw[Int.fdiv_eq_ediv_of_nonneg _ (by omega)];rfl,
    show(3988292384:Int)=((3988292384:Nat):Int) from rfl,x1,
    ix (n:=td i c%2),ix (n:=(td i c/2)^^^3988292384) (by have:=AP (a:=td i c/2) (b:=3988292384);omega),jR,jR,ak (n:=(i:Int)+1)]
   show _=nx ((Dv (td i c):Int),((i+1:Nat):Int));unfold Dv;by_cases hp:td i c%2=1;rw[hp,aH rfl];rfl;have h0:td i c%2=0:=by omega
   rw[h0,jR];rfl)
  (λs nx=>by simp only[oS];rw[jJ,af,hk])
  fuel 0 () (by omega) (by omega)
 refine key.trans ?_;rfl
theorem Zo (k0:Int->Int->aB R)(k:Int->aB R)(hk:∀x y,k0 x y=k x)(v0:Bytes)(v4:Int)(c:Nat)(h:c<4294967296):bm (oN k0 v0 v4) fuel ((c:Int),0)=k (td 8 c:Int):=by
 have hfu:=eO
 have key:=EJ (T:=oN k0 v0 v4) 8 (λ(_:Unit) i=>((td i c:Int),(i:Int))) (λ_ s nx=>nx s) (λ_=>k (td 8 c:Int))
  (λi s nx hi=>by
   have hc:=Eb h i;simp only[oN];have a1:=aiw (td i c) 1 (by omega) (by omega);have x1:=aea (td i c/2) 3988292384 (by omega) (by omega);simp only[Int.natCast_one]at a1
   rw[lT,ah,a1,Nat.and_one_is_mod,
    show min (Int.toNat 1) (IntKind.bits .u32)=1 from rfl,show Int.fdiv ((td i c:Nat):Int) (2^1)=((td i c/2:Nat):Int) from by rw[Int.fdiv_eq_ediv_of_nonneg _ (by omega)];rfl,
    show(3988292384:Int)=((3988292384:Nat):Int) from rfl,x1,
    Fl (n:=td i c%2),Fl (n:=(td i c/2)^^^3988292384) (AP),jR,ak (n:=(i:Int)+1)]
   show _=nx ((Dv (td i c):Int),((i+1:Nat):Int));unfold Dv;by_cases hp:td i c%2=1;rw[hp,aH rfl];rfl;have h0:td i c%2=0:=by omega
   rw[h0,jR];rfl)
  (λs nx=>by simp only[oN];rw[jJ,af,hk])
  fuel 0 () (by omega) (by omega)
 refine key.trans ?_;rfl
theorem ac5 (s:Bytes)(h:s.length<=1000000000):AF s=some (YP s):=by
 unfold AF;have:=EZ (T:=rN (λ(y4:Int) (_:Int)=>some (aq (4294967295-y4))) s) s (λ(c:Nat) i=>((c:Int),(i:Int))) (λ_ c=>c<4294967296) (λb c=> .ok (td 8 (c^^^b.toNat))) (λc=>some (4294967295-(c:Int))) (by omega) (λi hi c nx hI=>?hs) (λi hi c c' hI hg=>?hn) (λc nx hI=>?hf) 4294967295 (by omega)
 case hs=>
  have hb:=mu s[i]
  simp only[rN]
  rw[lT,bK hi,ah,ab,ix (n:=s[i].toNat),abK c s[i].toNat (by omega) (by omega)]
  have hx:=AP hI (show s[i].toNat<4294967296 by omega)
  rw[ix,aam _ (λy=>nx (y,(i:Int)+1)) (λx y=>by rw[ak]) _ _ _ hx];rfl
 case hn=>
  cases hg
  exact Eb (AP hI (by have:=mu s[i];omega)) 8
 case hf=>
  simp only[rN]
  rw[jJ,af,ak]
 rw[HT]at this;exact this
theorem not_xor (c:Nat)(h:c<4294967296):BitVec.toNat (BitVec.ofInt (IntKind.bits .u32) (IntKind.max .u32)^^^BitVec.ofInt (IntKind.bits .u32) (c:Int))=4294967295-c:=by show(BitVec.ofInt 32 4294967295^^^BitVec.ofInt 32 (c:Int)).toNat=_;rw[show BitVec.ofInt 32 4294967295=BitVec.allOnes 32 by decide,dK,BitVec.allOnes_xor,BitVec.toNat_not,eh,eF (show c<2^32 by omega)]
theorem aca (s:Bytes)(h:s.length<=1000000000):Al s=some (YP s):=by
 unfold Al;have:=EZ (T:=ru (λ(y4:Int) (_:Int)=>some (aq (IntKind.wrap .u32 (BitVec.toNat (BitVec.ofInt (IntKind.bits .u32) (IntKind.max .u32)^^^BitVec.ofInt (IntKind.bits .u32) y4))))) s) s (λ(c:Nat) i=>((c:Int),(i:Int))) (λ_ c=>c<4294967296) (λb c=> .ok (td 8 (c^^^b.toNat))) (λc=>some (4294967295-(c:Int))) (by omega) (λi hi c nx hI=>?hs) (λi hi c c' hI hg=>?hn) (λc nx hI=>?hf) 4294967295 (by omega)
 case hs=>
  have hb:=mu s[i]
  simp only[ru]
  rw[lT,bK hi,ah,ab,Fl (n:=s[i].toNat),aea c s[i].toNat (by omega) (by omega)]
  have hx:=AP hI (show s[i].toNat<4294967296 by omega)
  rw[Fl hx,Zo _ (λy=>nx (y,(i:Int)+1)) (λx y=>by rw[ak]) _ _ _ hx];rfl
 case hn=>
  cases hg
  exact Eb (AP hI (by have:=mu s[i];omega)) 8
 case hf=>
  simp only[ru]
  rw[jJ,af,not_xor c hI,Fl,ix]
  congr 1
  all_goals omega
 rw[HT]at this;exact this
def Sq (s:Bytes)(i:Nat):Nat:=bR s (i/8)/2^(7-i%8)%2
theorem MU (s:Bytes)(i:Nat):Sq s i<2:=Nat.mod_lt _ (by omega)
theorem YJ (b k:Nat)(hb:b<256)(hk:k<=7):aq (BitVec.toNat (gN (aq (Int.fdiv (b:Int) ((2^k:Nat):Int)))&&&gN 1))=((b/2^k%2:Nat):Int):=by have e:Int.fdiv (b:Int) ((2^k:Nat):Int)=((b/2^k:Nat):Int):=(Int.ofNat_fdiv b (2^k)).symm;have h1:b/2^k<=b:=Nat.div_le_self _ _;rw[e,ix (n:=b/2^k)];have:=adx (b/2^k) 1;rw[show((1:Nat):Int)=1 from rfl]at this;rw[this,Nat.and_one_is_mod];exact ix
theorem Vb (s:Bytes)(i:Nat)(hi:i/8<s.length:=by omega)(h:s.length<=1000000000:=by omega):vW s (i:Int)=some ((Sq s i:Nat):Int):=by
 have e1:Int.tdiv (i:Int) 8=((i/8:Nat):Int):=(Int.ofNat_tdiv i 8).symm;have e2:Int.tmod (i:Int) 8=((i%8:Nat):Int):=(Int.ofNat_tmod i 8).symm;unfold vW;rw[jR,e1,ak (n:=((i/8:Nat):Int)),bK hi,ab,jR,e2,ak (n:=7-((i%8:Nat):Int)),jR];have e3:(2:Int)^(min (Int.toNat (7-((i%8:Nat):Int))) (IntKind.bits .u8))=((2^(7-i%8):Nat):Int):=by rw[show min (Int.toNat (7-((i%8:Nat):Int))) (IntKind.bits .u8)=7-i%8 from by show min _ 8=_;omega];push_cast;rfl
 rw[e3,YJ _ _ (mu _) (by omega),Sq,bR,cS hi]
def win (s:Bytes)(a:Nat):Nat->Nat
 |0=>0
 |j+1=>2*win s a j+Sq s (a+j)
theorem abJ (s:Bytes)(a:Nat):∀j,win s a j<2^j
 |0=>by simp[win]
 |j+1=>by have:=abJ s a j;have:=MU s (a+j);rw[win,Nat.pow_succ];omega
theorem Up (s:Bytes)(a j:Nat)(hj:j<=32:=by omega):win s a j<4294967296:=Nat.lt_of_lt_of_le (abJ s a j) (Nat.pow_le_pow_right (n:=2) (by omega) hj)
def adp (s:Bytes)(a:Int):Int:=bif ((s.length:Int) !=16)|| !dp a 0 96 then-1 else((win s a.toNat 32:Nat):Int)
theorem ack (s:Bytes)(a:Int):tA s a=some (adp s a):=by
 unfold tA adp;rw[di];cases hs:(s.length:Int) !=16 with|true=>rfl|false=>?_
 cases ha:dp a 0 96 with|false=>rfl|true=>?_
 have h1:=aX.1 ha;have h2:s.length=16:=by simp at hs;omega
 obtain⟨a,rfl⟩:=aG h1.1;simp only[af,ab,aj,bQ,ay];refine eV (λi=>(((win s a i:Nat):Int),((a+i:Nat):Int))) 32 (by omega) (λi nx hi=>?_) (λnx=>?_);have hw:=Up s a i;have hb:=MU s (a+i);simp only[po];rw[ak (n:=(a:Int)+32),lT,ah,jR,Vb s (a+i),ab,ak (n:=((a+i:Nat):Int)+1)];have e1:aq (((win s a i:Nat):Int)*2^(mq 1))=((2^1*win s a i:Nat):Int):=by have:(2:Int)^(mq 1)=2:=rfl;rw[this,ak];omega
 rw[e1,DM _ _ _];rw[show(((a+i:Nat):Int)+1)=((a+(i+1):Nat):Int) by omega];rfl;simp only[po];rw[ak (n:=(a:Int)+32),jJ];rfl
def C0 (s v:Bytes):Nat->Nat
 |0=>0
 |i+1=>if Sq v i=1 then C0 s v i^^^win s i 32 else C0 s v i
theorem Jh (s v:Bytes):∀i,C0 s v i<4294967296
 |0=>by simp[C0]
 |i+1=>by have:=Jh s v i;rw[C0];split;exact AP this (Up s i 32);exact this
def sP (s v:Bytes):Int:=bif ((s.length:Int) !=16)||decide ((v.length:Int)>12) then-1 else((C0 s v (8*v.length):Nat):Int)
theorem Zq (s v:Bytes):tu s v=some (sP s v):=by
 unfold tu sP;cases hs:(s.length:Int) !=16 with|true=>rfl|false=>?_
 cases hv:decide ((v.length:Int)>12)with|true=>rfl|false=>?_
 have h2:s.length=16:=by simp at hs;omega
 have h3:v.length<=12:=by simp at hv;omega
 simp only[af,ab,bQ];refine eV (λi=>(((C0 s v i:Nat):Int),(i:Int))) (8*v.length) (by omega) (λi nx hi=>?_) (λnx=>?_);have hw:=Up s i 32;have hh:=Jh s v i;have hb:=MU v i;have eW:adp s (i:Int)=((win s i 32:Nat):Int):=by unfold adp;rw[hs,aX.2 (show(0:Int)<=(i:Int)/\(i:Int)<=96 by omega)];rfl
 simp only[pj];rw[ak (n:=8*(v.length:Int)),lT,ah,Vb v i,ab,ack,ab,eW,abK _ _ (by omega) (by omega),ak (n:=(i:Int)+1),ix (Nat.lt_trans (AP hh hw) (by omega)),C0];by_cases h1:Sq v i=1;rw[h1,aH rfl];rfl;rw[aI h1,show(((Sq v i:Nat):Int)==1)=false from by simp;omega];rfl;simp only[pj];rw[ak (n:=8*(v.length:Int)),jJ];rfl
def oU (f:CL):Bytes:=((il f.2.1++il f.2.2.1)++bV f.2.2.2.1)++bV f.2.2.2.2
theorem Wm (f:CL):(oU f).length<=12:=by have:=eH f.2.1;have:=eH f.2.2.1;have:=bL f.2.2.2.1;have:=bL f.2.2.2.2;simp only[oU,ai];omega
theorem S5 (f:CL):tw f=some (oU f):=by have:=eH f.2.1;have:=eH f.2.2.1;have:=bL f.2.2.2.1;have:=bL f.2.2.2.2;simp only[tw,ya,kG,ab];rw[aZ,aZ (by simp only[ai];omega),aZ (by simp only[ai];omega)];rfl
theorem Es (s:Bytes)(f:CL):rz s f=some (sP s (oU f)):=by simp only[rz,S5,Zq,ab]
def Aa (s:lU)(f:CL):Int:=bif ((s.2.length:Int)==0)||decide (sP s.1 (oU f)<0) then-1 else Int.tmod (sP s.1 (oU f)) (s.2.length:Int)
theorem Wu (s:lU)(f:CL):wX s f=some (Aa s f):=by
 unfold wX Aa;rw[Es,ab];cases h0:(s.2.length:Int)==0 with|true=>rfl|false=>?_
 cases decide (sP s.1 (oU f)<0)with|true=>rfl|false=>?_
 simp only[af,ab,bQ];rw[aI (by simpa using h0)]
theorem LD (s:lU)(f:CL)(h:¬Aa s f<0):∃n:Nat,Aa s f=(n:Int)/\n<s.2.length:=by
 unfold Aa at h⊢;cases hc:((s.2.length:Int)==0)||decide (sP s.1 (oU f)<0)with
 |true=>rw[hc]at h;simp at h
 |false=>
  rw[hc]at h;simp only[cj,bT,cR]at hc;simp only[af]at h⊢;have h1:0<=sP s.1 (oU f):=by omega
  rw[dB h1]at h⊢;have:=fA (sP s.1 (oU f)) (show(0:Int)<s.2.length by omega);obtain⟨n,hn⟩:=aG (show 0<=sP s.1 (oU f)%(s.2.length:Int) by omega);exact⟨n,hn,by omega⟩
def HV (s:lU)(q:Int)(f:CL):Int:=bif !pE s q||decide (Aa s f<0) then-1 else s.2.getD (Aa s f).toNat 0
theorem Qp (s:lU)(q:Int)(f:CL)(h:s.2.length<=1000000000):qz s q f=some (HV s q f):=by
 unfold qz HV;rw[Wu,ab,Jx s q h,ab];cases pE s q with|false=>rfl|true=>?_
 have hin:=LD s f;cases hd:decide (Aa s f<0)with|true=>rfl|false=>?_
 obtain⟨n,hn,hl⟩:=hin (gz hd);simp only[aj,af,ab,bQ,hn,bK hl,ay,cS hl]
theorem MK (t:ax Slot)(f:CL)(h:∀j,j<8->oI (gB t j) f=false):∀n k,walk t f n k= -1
 |0,_=>rfl
 |n+1,k=>by unfold walk;rw[h _ (CK f k),MK t f h n (k+1)];split<;>rfl
theorem GB (f:CL):∀(t:ax Slot)(m:Int),(∀s∈t,oI s f=false)->wz f t m= -1
 |[],_,_=>rfl
 |s::r,m,h=>by unfold wz;rw[h s (by simp)];exact GB f r (m+1) (λx hx=>h x (by simp[hx]))
theorem SP (t:ax Slot)(f:CL)(h:og t=true):wz f t 0=walk t f 8 0:=by simp only[og,ae,bq,aJ,cp]at h;obtain⟨h8,hs⟩:=h;by_cases hex:∃j,j<t.length/\oI (gB t j) f=true;obtain⟨j,hj,hu,e⟩:=Bz f t 0 hex;have:=hs j (by omega);simp only[nk,ae,cG,aL,bq]at this;simp only[oI,ae,bq,aD]at hu;rcases this.2 with g|g;rw[hu.1]at g;simp at g;rw[hu.2]at g;rw[show((0:Int))=((0:Nat):Int) from rfl,e,g];omega;have hn:∀j,j<t.length->oI (gB t j) f=false:=λj hj=>Bool.eq_false_iff.2 λhu=>hex ⟨j,hj,hu⟩;rw[MK t f (λj hj=>hn j (by omega)),GB];intro s hs';obtain⟨j,hj,rfl⟩:=fN hs';have:=hn j hj;rwa[uN hj]at this
def findF (t:ax Slot)(f:CL):Int:=bif og t then walk t f 8 0 else-1
theorem N5 (t:ax Slot)(f:CL)(h:t.length<=1000000000):vg t f=some (findF t f):=by
 unfold vg findF;rw[L3,ab];cases ht:og t with|false=>rfl|true=>?_
 simp only[aj,af,ah,Qo t f h,ab,SP t f ht]
theorem VP (t:ax Slot)(f:CL):∀n k,walk t f n k= -1\/∃m:Nat,walk t f n k=(m:Int)/\m<8
 |0,_=> .inl rfl
 |n+1,k=>by unfold walk;split;exact .inl rfl;split;exact .inr ⟨_,rfl,CK f k⟩;exact VP t f n (k+1)
theorem PL (t:ax Slot)(f:CL)(h:findF t f>=0):∃m:Nat,findF t f=(m:Int)/\m<t.length:=by
 unfold findF at h⊢;cases ht:og t with
 |false=>rw[ht]at h;simp at h
 |true=>
  rw[ht]at h;simp only[ah]at h⊢;have h8:t.length=8:=by simp only[og,ae,bq]at ht;exact ht.1
  rcases VP t f 8 0 with g|⟨m,g,hm⟩;omega;exact⟨m,g,by omega⟩
def cP (m:bW):Bool:=m.all (λx=>(x.length:Int)==128)&&decide ((m.length:Int)<=64)
theorem DQ (m:bW)(h:m.length<=1000000000):rQ m=some (cP m):=by
 unfold rQ cP;rw[oK (hit:=some false) (fin:=some (decide ((m.length:Int)<=64))) (λx:Bytes=>(x.length:Int)==128) m (by omega) (λi hi nx=>?hs) (λnx=>?hf)]
 case hs=>
  simp only[qN]
  rw[lT,bK hi,ak];rfl
 case hf=>
  simp only[qN]
  rw[jJ];rfl
 cases m.all (λx=>(x.length:Int)==128)<;>rfl
theorem DG (m:bW)(h:m.length<=1000000000):rC m=some (cP m):=DQ m h
def Hz:aC:=(0,0,0,false)
def FQ (m:aC):Bool:=dp m.1 0 7&&(dp m.2.1 0 1023&&dp m.2.2.1 0 63)
def pY (d p:Int)(m:aC):Bool:=(m.1==d)&&(m.2.1==p)
def JK (l:ax aC)(i:Nat):Bool:=FQ (l.getD i Hz)&&(List.range i).all (λj=> !(pY (l.getD i Hz).1 (l.getD i Hz).2.1 (l.getD j Hz)))
def fS (l:ax aC):Bool:=decide ((l.length:Int)<=96)&&(List.range l.length).all (JK l)
theorem OD (l:ax aC)(h:l.length<=1000000000):sv l=some (fS l):=by
 unfold sv fS;rw[ql (hit:=some false) (fin:=some true) (JK l) l.length (by omega) (λi nx hi=>?hs) (λnx=>?hf)]
 case hs=>
  simp only[oc]
  rw[lT,bK hi,ak]
  simp only[ah,ab,eI,cu]
  rw[ql (hit:=some false) (fin:=nx ((i:Int)+1)) (λj=> !(pY l[i].1 l[i].2.1 (l.getD j Hz))) i (by omega) (λj nx hj=>?hs2) (λnx=>?hf2)]
  case hs2=>
   have hjl:j<l.length:=by omega
   simp only[mG]
   rw[lT,bK hjl,ak]
   simp only[ah,ab,cu,cS hjl,pY,cF,gL];rfl
  case hf2=>
   simp only[mG]
   rw[jJ];rfl
  simp only[JK,FQ,cS hi,cT]
  cases dp l[i].1 0 7<;>cases dp l[i].2.1 0 1023<;>cases dp l[i].2.2.1 0 63<;>cases (List.range i).all (λj=> !(pY l[i].1 l[i].2.1 (l.getD j Hz)))<;>rfl
 case hf=>
  simp only[oc]
  rw[jJ];rfl
 have e:decide ((l.length:Int)>96)= !decide ((l.length:Int)<=96):=by rw[dS];simp
 rw[e];cases decide ((l.length:Int)<=96)<;>cases (List.range l.length).all (JK l)<;>rfl
def Rd (l:ax aC)(d p:Int):Int:=match l.findIdx? (pY d p)with|some i=>(i:Int)|none=> -1
theorem Qj (l:ax aC)(d p:Int)(h:l.length<=1000000000):mW l d p=some (Rd l d p):=by
 unfold mW Rd;rw[Cp (hit:=λi=>some i) (fin:=some (-1)) (pY d p) l (by omega) (λi hi nx=>?hs) (λnx=>?hf)]
 case hs=>
  simp only[mC]
  rw[lT,bK hi,ak]
  simp only[ah,ab,cu,cF,pY];rfl
 case hf=>
  simp only[mC]
  rw[jJ];rfl
 cases l.findIdx? (pY d p)<;>rfl
theorem TJ (l:ax aC)(i:Nat)(hi:i<l.length):(Rd l l[i].1 l[i].2.1==(i:Int))=(List.range i).all (λj=> !(pY l[i].1 l[i].2.1 (l.getD j Hz))):=by
 have hself:pY l[i].1 l[i].2.1 l[i]=true:=by simp[pY]
 unfold Rd;cases hq:l.findIdx? (pY l[i].1 l[i].2.1)with
 |none=>rw[List.findIdx?_eq_none_iff]at hq;rw[hq l[i] (bz hi)]at hself;cases hself
 |some k=>
  rw[List.findIdx?_eq_some_iff_getElem]at hq;obtain⟨hk,hpk,hlt⟩:=hq;rw[dS,aJ];simp only[cp,bq,aL];constructor;intro e j hj;have hjl:j<l.length:=by omega
  rw[cS hjl];have:=hlt j (by omega);simpa using this;intro hall;rcases Nat.lt_trichotomy k i with hki|hki|hki;have:=hall k hki;rw[cS hk,hpk]at this;cases this;omega;have:=hlt i hki;rw[hself]at this;simp at this
theorem Et (l:ax aC)(h:l.length<=1000000000):ot l=some (fS l):=by
 unfold ot fS;rw[ql (hit:=some false) (fin:=some (decide ((l.length:Int)<=96))) (JK l) l.length (by omega) (λi nx hi=>?hs) (λnx=>?hf)]
 case hs=>
  simp only[nL]
  rw[lT,bK hi,ak]
  simp only[ah,ab,di,cu,Qj _ _ _ h,bne,TJ l i hi,JK,FQ,cS hi]
  cases dp l[i].1 0 7<;>cases dp l[i].2.1 0 1023<;>cases dp l[i].2.2.1 0 63<;>cases (List.range i).all (λj=> !(pY l[i].1 l[i].2.1 (l.getD j Hz)))<;>rfl
 case hf=>
  simp only[nL]
  rw[jJ];rfl
 cases decide ((l.length:Int)<=96)<;>cases (List.range l.length).all (JK l)<;>rfl
def zA (n:Int)(l:dC)(i:Nat):Bool:=dp (l.getD i 0) 0 (n-1)&& !((l.take i).contains (l.getD i 0))
def dh (p:de):Bool:=dp p.1 0 130944&&(dp p.2.1 1 512&&(dp p.2.2.1 0 16&&(List.range p.2.2.2.length).all (zA p.2.2.1 p.2.2.2)))
def Bh (n:Int)(l:dC):ax Bool:=(List.range n.toNat).map λk:Nat=>l.contains (k:Int)
theorem MA (n:Int)(l:dC):(Bh n l).length=n.toNat:=by simp[Bh]
theorem CE (n:Int)(l:dC)(k:Nat)(h:k<(Bh n l).length):(Bh n l)[k]=l.contains (k:Int):=by simp[Bh]
theorem XR (n:Int)(l:dC)(k:Nat)(h:k<n.toNat):(Bh n l).set k true=Bh n (l++[(k:Int)]):=by
 apply List.ext_getElem;simp[Bh];intro j h1 h2;rw[List.getElem_set];split;rename_i e;subst e;rw[CE];simp;rename_i e;rw[CE,CE];simp only[List.contains_append];have:([(k:Int)].contains (j:Int))=false:=by simp;omega
 rw[this];simp
theorem Rj {T:(ax Bool×Int->aB Bool)->ax Bool×Int->aB Bool}(n:Int)(l:dC)(hl:l.length<=1000000000)
 (hs:∀i (hi:i<l.length)(s:ax Bool) nx,T nx (s,(i:Int))=aa (cond (!(dp l[i] 0 (n-1))) (some true) (aa (idx s l[i]) λx=>some x)) λq=>
  cond q (some false) (aa (idx s l[i]) λ_=>aa (idx s l[i]) λ_=>nx (s.set l[i].toNat true,((i+1:Nat):Int)))) (hf:∀s nx,T nx (s,(l.length:Int))=some true):
 bm T fuel (List.replicate n.toNat false,0)=some ((List.range l.length).all (zA n l)):=by
 have e0:(List.replicate n.toNat false,(0:Int))=(Bh n (l.take 0),((0:Nat):Int)):=by congr 1;simp only[Bh,List.take_zero,List.contains_nil,List.map_const',List.length_range]
 rw[e0,Lq (hit:=some false) (fin:=some true) (λi=>(Bh n (l.take i),(i:Int))) (zA n l) l.length (by omega) (λi nx hi hp=>?hs) (λ_ nx=>hf _ nx)]
 case hs=>
  rw[hs i hi]
  unfold zA
  rw[cS hi]
  by_cases hin:dp l[i] 0 (n-1)=true
  ·have hb:=hin
   rw[aX]at hb
   obtain⟨k,hk⟩:∃k:Nat,l[i]=(k:Int):=⟨l[i].toNat,by omega⟩
   have hkn:k<(Bh n (l.take i)).length:=by rw[MA];omega
   rw[hin,hk,bK hkn,CE]
   simp only[aj,af,ab,bB,gL,ay]
   rw[XR _ _ _ (by rw[MA]at hkn;exact hkn),<-hk,<-cb hi]
  ·have hin':dp l[i] 0 (n-1)=false:=by simpa using hin
   rw[hin'];rfl
 cases (List.range l.length).all (zA n l)<;>rfl
theorem E5 (p:de)(h:p.2.2.2.length<=1000000000):sX p=some (dh p):=by
 unfold sX dh;simp only[eI,ab,cu];by_cases hn:dp p.2.2.1 0 16=true
 ·have hb:=hn;rw[aX]at hb;rw[zip,aZ,Rj p.2.2.1 p.2.2.2 h (λi hi s nx=>?hs) (λs nx=>?hf)]
  case hs=>
   simp only[ud]
   rw[lT,bK hi,ak (n:=(i:Int)+1),ak (n:=p.2.2.1-1)]
   simp only[ah,ab,eI];rfl
  case hf=>
   simp only[ud]
   rw[jJ];rfl
  rw[hn];cases dp p.1 0 130944<;>cases dp p.2.1 1 512<;>rfl
 have hn':dp p.2.2.1 0 16=false:=by simpa using hn
 rw[hn'];cases dp p.1 0 130944<;>cases dp p.2.1 1 512<;>rfl
theorem tq (p:de)(h:p.2.2.2.length<=1000000000):iV p=some (dh p):=by
 unfold iV dh;simp only[di,ab,cu];by_cases hn:dp p.2.2.1 0 16=true
 ·have hb:=hn;rw[aX]at hb;rw[zip,aZ,Rj p.2.2.1 p.2.2.2 h (λi hi s nx=>?hs) (λs nx=>?hf)]
  case hs=>
   simp only[tD]
   rw[lT,bK hi,ak (n:=(i:Int)+1),ak (n:=p.2.2.1-1)]
   simp only[ah,ab,di];rfl
  case hf=>
   simp only[tD]
   rw[jJ];rfl
  rw[hn];cases dp p.1 0 130944<;>cases dp p.2.1 1 512<;>rfl
 have hn':dp p.2.2.1 0 16=false:=by simpa using hn
 rw[hn'];cases dp p.1 0 130944<;>cases dp p.2.1 1 512<;>rfl
def iv (n:Int):Bool:=(n==2)||((n==4)||((n==8)||(n==16)))
theorem DJ (n:Int):uq n=some (iv n):=by simp only[uq,cu,ab,iv,cT]
theorem BV (n:Int):rJ n=some (iv n):=DJ n
theorem gM {n:Int}:iv n=true↔n=2\/n=4\/n=8\/n=16:=by simp[iv]
theorem zS (x:Int)(k:Nat)(hk:k<=64:=by omega):aq x%(2^k:Int)=x%(2^k:Int):=by
 obtain⟨c,hc⟩:∃c:Int,(18446744073709551616:Int)=2^k*c:=⟨2^(64-k),by rw[<-Int.pow_add,show k+(64-k)=64 by omega];rfl⟩
 have:aq x=x\/∃q:Int,aq x=x+18446744073709551616*q:=by
  right;simp only[aq,gx,IntKind.wrap,IntKind.bits,IntKind.signed];simp;have h1:x=x%18446744073709551616+18446744073709551616*(x/18446744073709551616):=by omega
  split;exact⟨-(x/18446744073709551616)-1,by omega⟩;exact⟨-(x/18446744073709551616),by omega⟩
 rcases this with h|⟨q,h⟩;rw[h];rw[h,hc,Int.mul_assoc,Int.add_mul_emod_self_left]
theorem Bm (x:Int)(k:Nat)(hk:k<63:=by omega):((gN x&&&gN (2^k-1)).toNat:Int)=x%2^k:=by
 have h2:(2:Int)^k<=2^62:=by have:(2:Nat)^k<=2^62:=Nat.pow_le_pow_right (by omega) (by omega);exact_mod_cast this
 have h0:(1:Int)<=2^k:=by have:1<=(2:Nat)^k:=Nat.one_le_two_pow;exact_mod_cast this
 have hm:(gN (2^k-1)).toNat=2^k-1:=by
  show(BitVec.ofInt 64 (2^k-1)).toNat=2^k-1;rw[BitVec.toNat_ofInt,Int.emod_eq_of_lt (by omega) (by omega)];have:((2:Int)^k-1)=((2^k-1:Nat):Int):=by have:1<=(2:Nat)^k:=Nat.one_le_two_pow;push_cast [this];rfl
  rw[this];rfl
 rw[BitVec.toNat_and,hm,Nat.and_two_pow_sub_one_eq_mod];show(((BitVec.ofInt 64 x).toNat%2^k:Nat):Int)=x%2^k;rw[BitVec.toNat_ofInt];have hx:0<=x%18446744073709551616:=by omega
 have e:(((x%18446744073709551616).toNat%2^k:Nat):Int)=(x%18446744073709551616)%2^k:=by push_cast;rw[Int.toNat_of_nonneg hx]
 refine e.trans ?_;exact Int.emod_emod_of_dvd x ⟨2^(64-k),by rw[<-Int.pow_add,show k+(64-k)=64 by omega];rfl⟩
theorem FW (x n:Int)(h0:0<n:=by omega)(h1:n<=4611686018427387904:=by omega):iW x n=some (x%n):=by
 unfold iW;have:=fy x (show n≠0 by omega);have:=fA x h0;have hn:(n.natAbs:Int)=n:=by omega
 rw[jR,Int.tmod_eq_emod];split;rw[jJ];simp;rw[lT,ak];simp only[ah,hn];congr 1;omega
def bI (r:lb):Int:=if iv r.2.1 then(r.2.2.2-r.2.2.1)%(2*r.2.1) else 0
theorem RR (r:lb):rU r=some (bI r):=by
 unfold rU bI;rw[DJ,ab];cases hs:iv r.2.1 with
 |false=>rfl
 |true=>
  simp only[aj,af,bU];congr 1;rcases gM.1 hs with h|h|h|h<;>rw[h];have e:aq (aq (2*2)-1)=2^2-1:=by decide
  rw[e,Bm _ 2,zS _ 2,ak];rfl;have e:aq (aq (2*4)-1)=2^3-1:=by decide
  rw[e,Bm _ 3,zS _ 3,ak];rfl;have e:aq (aq (2*8)-1)=2^4-1:=by decide
  rw[e,Bm _ 4,zS _ 4,ak];rfl;have e:aq (aq (2*16)-1)=2^5-1:=by decide
  rw[e,Bm _ 5,zS _ 5,ak];rfl
theorem xY (r:lb):jl r=some (bI r):=by unfold jl bI;rw[BV,ab];cases hs:iv r.2.1 with|false=>rfl|true=>simp only[aj,af,bU];have hb:=gM.1 hs;rw[ak (n:=2*r.2.1)];have a1:=fy r.2.2.2 (show 2*r.2.1≠0 by omega);have a2:=fA r.2.2.2 (show 0<2*r.2.1 by omega);have a3:=fy r.2.2.1 (show 2*r.2.1≠0 by omega);have a4:=fA r.2.2.1 (show 0<2*r.2.1 by omega);simp only[FW _ (2*r.2.1) (show 0<2*r.2.1 by omega),ab];rw[ak,<-Int.sub_emod]
def dg (r:lb):Bool:=dp r.1 0 130944&&(iv r.2.1&&(dp r.2.2.1 0 (2*r.2.1-1)&&(dp r.2.2.2 0 (2*r.2.1-1)&&decide (bI r<=r.2.1))))
theorem uL {n:Int}(h:iv n=true):aq (aq (2*n)-1)=2*n-1:=by have:=gM.1 h;rw[ak (n:=2*n),ak]
theorem Kq (r:lb):sY r=some (dg r):=by unfold sY dg;simp only[eI,DJ,RR,ab,cu,cF];cases hs:iv r.2.1 with|false=>rfl|true=>rw[uL hs]
theorem vT (r:lb):jz r=some (dg r):=by unfold jz dg;simp only[di,BV,xY,ab,cu,cF];cases hs:iv r.2.1 with|false=>rfl|true=>rw[uL hs]
theorem Tk (p:de)(h:p.2.2.2.length<=1000000000):xr p=some p:=by unfold xr;rw[aZ (by simp;omega)];rfl
theorem lr (l:dC)(h:l.length<=1000000000):gw l=some l:=by unfold gw;rw[aZ (by simp;omega)];rfl
theorem sM (p:de)(h:p.2.2.2.length<=1000000000):iA p=some p:=by unfold iA;rw[lr _ h];rfl
def gG (p:de)(l:dC):de:=(p.1,p.2.1,p.2.2.1,p.2.2.2++l)
def xU (p:de)(l:dC):Bool:=dh p&&dh (gG p l)
def xT (p:de)(l:dC):de×Bool:=bif xU p l then(gG p l,true) else(p,false)
theorem Jt (p:de)(l:dC)(h:p.2.2.2.length+l.length<=1000000000):gv p l=some (xT p l):=by unfold gv;rw[sM p (by omega),ab,aZ,tq p (by omega)];rw[tq (p.1,p.2.1,p.2.2.1,p.2.2.2++l) (by simp;omega)];simp only[ab,cu,xT,xU];show _=some (bif dh p&&dh (p.1,p.2.1,p.2.2.1,p.2.2.2++l) then _ else _);cases dh p<;>cases dh (p.1,p.2.1,p.2.2.1,p.2.2.2++l)<;>rfl
theorem aeM (p:de)(l:dC):(xT p l).2=xU p l:=by unfold xT;cases xU p l<;>rfl
def nX (n:Int)(s:nG):Bool:=dp s.2.1 1 n&&dp s.1 0 65535
def bD (l:ax nG):dC:=l.flatMap (·.2.2)
def dW (l:ax nG):Int:=(l.map (·.2.1)).sum
def KH (t:dZ):Bool:=dg t.1&&(dh t.2.1&&(dp t.2.2.2 0 65535&&(t.2.2.1.all (nX t.1.2.1)&&(xU t.2.1 (bD t.2.2.1)&&decide (dW t.2.2.1<=t.1.2.1)))))
theorem wS (n:Int):∀l:ax nG,l.all (nX n)=true->0<=dW l
 |[],_=>by simp[dW]
 |x::l,h=>by simp only[cr,ae]at h;have:=wS n l h.2;have hx:=h.1;unfold nX at hx;simp only[ae,aX]at hx;simp only[dW,cU,List.sum_cons]at this⊢;omega
theorem L0 (p:de)(n:Int)(hn:n<=16)(fin:Int×dC->aB Bool)(hfin:∀s:Int×dC,p.2.2.2.length+s.2.length<=1000000000->fin s=some (xU p s.2)):
 ∀(l:ax nG)(left:Int)(acc:dC),0<=left->left<=n->p.2.2.2.length+(acc.length+(bD l).length)<=1000000000->
 Bd (λx (s:Int×dC) k=>cond (decide (x.2.1<1)||(decide (x.2.1>s.1)|| !(dp x.1 0 65535))) (some false) (room (s.2.length+x.2.2.length) (k (aq (s.1-x.2.1),s.2++x.2.2)))) fin l (left,acc)
  =some (l.all (nX n)&&(xU p (acc++bD l)&&decide (dW l<=left)))
 |[],left,acc,h0,h1,h2=>by rw[Bd,hfin _ (by simp[bD]at h2;exact h2)];simp[bD,dW,h0]
 |x::l,left,acc,h0,h1,h2=>by
  have hb:bD (x::l)=x.2.2++bD l:=by simp[bD]
  have hc:dW (x::l)=x.2.1+dW l:=by simp only[dW,cU,List.sum_cons]
  rw[hb,ai]at h2;rw[Bd,cr,hb,hc];by_cases c1:x.2.1<1;have e:nX n x=false:=by unfold nX dp;rw[ar (show¬1<=x.2.1 by omega)];rfl
  rw[e,au c1];rfl;rw[ar c1];by_cases c2:x.2.1>left;rw[au c2];simp only[jL,cz,iT,ah];cases ha:l.all (nX n)with|false=>simp|true=>have:=wS n l ha;rw[ar (show¬x.2.1+dW l<=left by omega)];simp
  rw[ar c2];have e:nX n x=dp x.1 0 65535:=by have:dp x.2.1 1 n=true:=aX.2 ⟨by omega,by omega⟩;unfold nX;rw[this];rfl
  rw[e];cases dp x.1 0 65535 with
  |false=>rfl
  |true=>
   simp only[cz,aj,af,bB];rw[aZ,ak,L0 p n hn fin hfin l _ _ (by omega) (by omega) (by rw[ai];omega),aN];have e:decide (dW l<=left-x.2.1)=decide (x.2.1+dW l<=left):=by rw[dS];simp;omega
   rw[e]
theorem Tb (t:dZ)(h1:t.2.2.1.length<=1000000000)(h2:t.2.1.2.2.2.length+(bD t.2.2.1).length<=1000000000):xH t=some (KH t):=by
 unfold xH KH;simp only[vT,tq _ (show t.2.1.2.2.2.length<=1000000000 by omega),di,ab,cu];cases hr:dg t.1 with
 |false=>rfl
 |true=>
  have hn:0<=t.1.2.1/\t.1.2.1<=16:=by unfold dg at hr;simp only[ae]at hr;have:=gM.1 hr.2.1;omega
  have hfu:=eO;have key:=Cz (R:=Bool) (T:=tH (λ(_:Int) (y9:dC) (_:Int)=>aa (gv t.2.1 y9) λr11=>some r11.2) (λ(y12:Bool) (_:Int) (_:dC) (_:Int)=>some y12) false t.2.2.1 ((List.length t.2.2.1:Int)) t) t.2.2.1 (λ(s:Int×dC) i=>(s.1,s.2,(i:Int))) (λx (s:Int×dC) k=>cond (decide (x.2.1<1)||(decide (x.2.1>s.1)|| !(dp x.1 0 65535))) (some false) (room (s.2.length+x.2.2.length) (k (aq (s.1-x.2.1),s.2++x.2.2)))) (λs=>aa (gv t.2.1 s.2) λr12=>some r12.2) (λi hi s nx=>by simp only[tH];rw[lT,bK hi,ak (n:=(i:Int)+1)];simp only[ah,ab,di,cu,cT];rfl) (λs nx=>by simp only[tH];rw[jJ];rfl) fuel 0 (t.1.2.1,([]:dC)) (by omega) (by omega);rw[fM,L0 t.2.1 t.1.2.1 (by omega) _ (λs hs=>by rw[Jt _ _ hs,ab,aeM]) _ _ _ (by omega) (by omega) (by simpa using h2)]at key;cases dh t.2.1 with|false=>rfl|true=>cases dp t.2.2.2 0 65535 with|false=>rfl|true=>refine key.trans ?_;simp
def rM (s:eR):Bool:=dp s.2.1 0 65535&&(dp s.2.2.1 0 65535&&(!decide ((List.length s.2.2.2.2.2.2.2:Int)>320)&&
 (bif s.1==17 then(s.2.2.2.1==0)&&((s.2.2.2.2.1==0)&&((s.2.2.2.2.2.1==0)&&(s.2.2.2.2.2.2.1==0)))
  else(s.1==6)&&(dp s.2.2.2.1 0 4294967295&&(dp s.2.2.2.2.1 0 4294967295&&(dp s.2.2.2.2.2.1 0 31&&dp s.2.2.2.2.2.2.1 0 65535))))))
theorem VC (s:eR):qh s=some (rM s):=by simp only[qh,eI,ab,cu,cF,cT,cN,Bool.not_or,gL,Bool.and_assoc,rM]
theorem Vf (s:eR):pR s=some (rM s):=by simp only[pR,di,ab,cu,cF,cT,cN,Bool.not_or,gL,Bool.and_assoc,rM];by_cases h:s.1=17;rw[h];rfl;rw[show(s.1==17)=false from by simpa using h];cases s.1==6<;>rfl
def Ab (f:Int):Bool:=(f==16)||(f==17)||(f==24)||(f==25)
theorem I5 (f:Int)(h:dp f 0 31=true):(aq (BitVec.toNat (gN f&&&~~~ gN 9))==16)=Ab f:=by
 have key:∀k:Fin 32,(aq (BitVec.toNat (gN (k.val:Int)&&&~~~ gN 9))==16)=Ab (k.val:Int):=by decide
 rw[aX]at h;have:=key ⟨f.toNat,by omega⟩;rwa[show((f.toNat:Nat):Int)=f by omega]at this
theorem I4 (f:Int)(h:dp f 0 31=true):pV f=some (Ab f):=by
 have key:∀k:Fin 32,((aq (BitVec.toNat (gN (k.val:Int)&&&gN 16)) !=0)&&(aq (BitVec.toNat (gN (k.val:Int)&&&~~~ gN 25))==0))=Ab (k.val:Int):=by decide
 rw[aX]at h;have:=key ⟨f.toNat,by omega⟩;rw[show((f.toNat:Nat):Int)=f by omega]at this;simp only[pV,cu,ab,cF];rw[this]
theorem CF {s:eR}(h:rM s=true)(h6:(s.1==6)=true):dp s.2.2.2.2.2.1 0 31=true:=by
 have:s.1=6:=by simpa using h6
 unfold rM at h;rw[this]at h;simp only[ae]at h;have h:=h.2.2.2;simp at h;exact h.2.2.1
def pb (p:aQ):Bool:=dp p.1 0 281474976710655&&(dp p.2.1 0 281474976710655&&(dp p.2.2.1 (-1) 4095&&(dp p.2.2.2.1 0 255&&(dp p.2.2.2.2.2.1 0 255&&(dp p.2.2.2.2.1 0 65535&&(dp p.2.2.2.2.2.2.1 0 4294967295&&(dp p.2.2.2.2.2.2.2.1 0 4294967295&&rM p.2.2.2.2.2.2.2.2)))))))
def dG (p:aQ):Bool:=pb p&&(decide ((List.length p.2.2.2.2.2.2.2.2.2.2.2.2.2.2.2:Int)<=128)||(p.2.2.2.2.2.2.2.2.1==6)&&Ab p.2.2.2.2.2.2.2.2.2.2.2.2.2.1)
theorem xX (h:pb p=true):rM p.2.2.2.2.2.2.2.2=true:=by unfold pb at h;simp only[ae]at h;exact h.2.2.2.2.2.2.2.2
theorem Gl (p:aQ):qS p=some (dG p):=by unfold qS dG;simp only[eI,VC,ab,cu,cF,cT,cN,Bool.not_or,gL];rw[show(dp p.1 0 281474976710655&&(dp p.2.1 0 281474976710655&&(dp p.2.2.1 (-1) 4095&&(dp p.2.2.2.1 0 255&&(dp p.2.2.2.2.2.1 0 255&&(dp p.2.2.2.2.1 0 65535&&(dp p.2.2.2.2.2.2.1 0 4294967295&&(dp p.2.2.2.2.2.2.2.1 0 4294967295&&rM p.2.2.2.2.2.2.2.2))))))))=pb p from rfl];cases hh:pb p with|false=>rfl|true=>cases h6:p.2.2.2.2.2.2.2.2.1==6 with|false=>simp|true=>rw[I5 _ (CF (xX hh) h6)];simp[Bool.or_comm]
theorem oM (p:aQ):gS p=some (dG p):=by
 unfold gS dG;simp only[di,Vf,ab];have e:∀X:aB Bool,(cond (dp p.1 0 281474976710655) (cond (dp p.2.1 0 281474976710655) (cond (dp p.2.2.1 (-1) 4095) (cond (dp p.2.2.2.1 0 255) (cond (dp p.2.2.2.2.2.1 0 255) (cond (dp p.2.2.2.2.1 0 65535) (cond (dp p.2.2.2.2.2.2.1 0 4294967295) (cond (dp p.2.2.2.2.2.2.2.1 0 4294967295) (cond (rM p.2.2.2.2.2.2.2.2) X (some false)) (some false)) (some false)) (some false)) (some false)) (some false)) (some false)) (some false)) (some false))=cond (pb p) X (some false):=by
  intro X;unfold pb;cases dp p.1 0 281474976710655 with|false=>rfl|true=>?_
  cases dp p.2.1 0 281474976710655 with|false=>rfl|true=>?_
  cases dp p.2.2.1 (-1) 4095 with|false=>rfl|true=>?_
  cases dp p.2.2.2.1 0 255 with|false=>rfl|true=>?_
  cases dp p.2.2.2.2.2.1 0 255 with|false=>rfl|true=>?_
  cases dp p.2.2.2.2.1 0 65535 with|false=>rfl|true=>?_
  cases dp p.2.2.2.2.2.2.1 0 4294967295 with|false=>rfl|true=>?_
  cases dp p.2.2.2.2.2.2.2.1 0 4294967295<;>rfl
 rw[e];cases hh:pb p with|false=>rfl|true=>cases h6:p.2.2.2.2.2.2.2.2.1==6 with|false=>simp[cu]|true=>rw[I4 _ (CF (xX hh) h6)];simp only[ah,ab,cu,cT,bB]
def fV (q:HI):Bool:=dp q.1 0 130944&&(iv q.2.1&&dp q.2.2 0 (aq ((aq (2*q.2.1))-1)))
theorem FH (q:HI):nO q=some (fV q):=by simp only[nO,di,BV,ab,cu,cF,fV]
def Yh:om:=((0,0,0,0,0,0,0,0,0,0,0,0,0,0,0,([]:Bytes)),0,0)
def VH (p:om):Bool:=(p.1.1==0)&&((p.1.2.1==0)&&((p.1.2.2.1==0)&&((p.1.2.2.2.1==0)&&((p.1.2.2.2.2.1==0)&&((p.1.2.2.2.2.2.1==0)&&((p.1.2.2.2.2.2.2.1==0)&&((p.1.2.2.2.2.2.2.2.1==0)&&((p.1.2.2.2.2.2.2.2.2.1==0)&&((p.1.2.2.2.2.2.2.2.2.2.1==0)&&((p.1.2.2.2.2.2.2.2.2.2.2.1==0)&&((p.1.2.2.2.2.2.2.2.2.2.2.2.1==0)&&((p.1.2.2.2.2.2.2.2.2.2.2.2.2.1==0)&&((p.1.2.2.2.2.2.2.2.2.2.2.2.2.2.1==0)&&((p.1.2.2.2.2.2.2.2.2.2.2.2.2.2.2.1==0)&&((p.1.2.2.2.2.2.2.2.2.2.2.2.2.2.2.2==([]:Bytes))&&((p.2.1==0)&&((p.2.2==0)&&true)))))))))))))))))
def Bl (r:bF):Bool:=(dg r.1&&(fV r.2.1&&(fV r.2.2.1&&((r.2.1.1==r.2.2.1.1)&&((r.2.1.2.1==r.2.2.1.2.1)&&dp r.2.2.2.2.2 0 1000000000000)))))&&
 (bif r.2.2.2.2.1 then dG r.2.2.2.1.1&&(dp r.2.2.2.1.2.1 0 320&&dp r.2.2.2.1.2.2 1 320) else VH r.2.2.2.1)
theorem aaw (p:om):VH p=true↔p=Yh:=by obtain⟨⟨a,b,c,d,e,f,g,h,i,j,k,l,m,n,o,q⟩,r,s⟩:=p;simp only[VH,Yh,iq,ae,bq,Prod.mk.injEq,and_assoc]
theorem Jw (r:bF):sS r=some (Bl r):=by unfold sS Bl VH;simp only[vT,FH,di,oM,ab,cu,cF,cT,cN,Bool.not_or,gL,bne];cases r.2.2.2.2.1<;>rfl
def dH (v:Vector):Bool:=(me v).getD false
theorem DS (v:Vector):me v=some (dH v):=by
 have:∃b,me v=some b:=by simp only[me,sZ,eI,ab,cu];exact⟨_,rfl⟩
 obtain⟨b,hb⟩:=this;rw[dH,hb];rfl
theorem xZ (v:Vector):lY v=some (dH v):=DS v
theorem Ga (l:ax α)(p:α->Bool):(List.range l.length).all (λi=>l[i]?.all p)=l.all p:=by rw[dS,aJ,aJ];constructor;intro h x hx;obtain⟨i,hi,rfl⟩:=fN hx;have:=h i (cp.2 hi);rwa[al hi]at this;intro h i hi;rw[al (cp.1 hi)];exact h _ (bz _)
theorem Uu (l:ax α)(p q:α->Bool):l.all (λx=>p x&&q x)=(l.all p&&l.all q):=by induction l with|nil=>rfl|cons x l ih=>simp only[cr,ih];cases p x<;>cases q x<;>cases l.all p<;>rfl
def iG (h:Host):dC:=[h.2.2.2.2.2.2.2.2.2.2.2.2.2.2.1,h.2.2.2.2.2.2.2.2.2.2.2.2.2.2.2.1,h.2.2.2.2.2.2.2.2.2.2.2.2.2.2.2.2.1,h.2.2.2.2.2.2.2.2.2.2.2.2.2.2.2.2.2.1,h.2.2.2.2.2.2.2.2.2.2.2.2.2.2.2.2.2.2]
def pX (h:Host):Bool:=dp (h.2.2.2.1.length:Int) 1 2&&(((h.2.2.2.2.1.length:Int)==(h.2.2.2.1.length:Int))&&(((h.2.2.2.2.2.1.length:Int)==(h.2.2.2.1.length:Int))&&((h.2.2.2.2.2.2.1.length:Int)==(h.2.2.2.1.length:Int))))
def Ry (h:Host):Bool:=h.2.2.2.1.all Bl&&(h.2.2.2.2.1.all dh&&h.2.2.2.2.2.1.all dH)
def eZ (h:Host):Bool:=cP h.1&&(fS h.2.1&&(KH h.2.2.1&&(qp h.2.2.2.2.2.2.2.1&&(pX h&&(fL h.2.2.2.2.2.2.2.2.1 (h.2.2.2.1.length:Int)&&(Ry h&&(iG h).all (λx=>dp x 0 1000000000000)))))))
structure H2 (h:Host):Prop where
 a1:h.1.length<=1000000000
 a2:h.2.1.length<=1000000000
 t1:h.2.2.1.2.2.1.length<=1000000000
 t2:h.2.2.1.2.1.2.2.2.length+(bD h.2.2.1.2.2.1).length<=1000000000
 f1:h.2.2.2.2.2.2.2.1.2.2.length<=1000000000
 s1:h.2.2.2.2.2.2.2.2.1.1.length<=1000000000
 s2:h.2.2.2.2.2.2.2.2.1.2.1.length<=1000000000
 s3:h.2.2.2.2.2.2.2.2.1.2.2.2.length<=1000000000
 p1:∀p∈h.2.2.2.2.1,p.2.2.2.length<=1000000000
theorem mD (l:pX h=true):h.2.2.2.1.length<=2/\h.2.2.2.2.1.length=h.2.2.2.1.length/\h.2.2.2.2.2.1.length=h.2.2.2.1.length/\h.2.2.2.2.2.2.1.length=h.2.2.2.1.length:=by unfold pX at l;simp only[ae,aX,bq]at l;omega
theorem XP {T:(Int->aB R)->Int->aB R}{fin hit:aB R}(l:pX h=true)(hs:∀i (hi:i<h.2.2.2.1.length) nx,T nx (i:Int)=cond (!(Bl h.2.2.2.1[i]&&(dh (h.2.2.2.2.1[i]'((mD l).2.1▸hi))&&dH (h.2.2.2.2.2.1[i]'((mD l).2.2.1▸hi))))) hit (nx ((i+1:Nat):Int)))(hf:∀nx,T nx (h.2.2.2.1.length:Int)=fin):bm T fuel 0=cond (Ry h) fin hit:=by
 have hl:=mD l;rw[ql (fin:=fin) (hit:=hit) (λi=>h.2.2.2.1[i]?.all Bl&&(h.2.2.2.2.1[i]?.all dh&&h.2.2.2.2.2.1[i]?.all dH)) h.2.2.2.1.length (by omega) ?hs hf]
 case hs=>
  intro i nx hi
  rw[hs i hi,al hi,al (hl.2.1▸hi),al (hl.2.2.1▸hi)]
  rfl
 rw[Uu,Uu,Ga];have e1:=Ga h.2.2.2.2.1 dh;have e2:=Ga h.2.2.2.2.2.1 dH;rw[hl.2.1]at e1;rw[hl.2.2.1]at e2;rw[e1,e2];rfl
theorem Pm {T:(Int->aB R)->Int->aB R}{fin hit:aB R}(h:Host)(hs:∀i (hi:i<(iG h).length) nx,T nx (i:Int)=cond (!(dp (iG h)[i] 0 1000000000000)) hit (nx ((i+1:Nat):Int)))(hf:∀nx,T nx ((iG h).length:Int)=fin):bm T fuel 0=cond ((iG h).all (λx=>dp x 0 1000000000000)) fin hit:=oK (λx=>dp x 0 1000000000000) (iG h) (by simp[iG]) hs hf
theorem rr (h:Host)(z:H2 h):gI h=some (eZ h):=by
 unfold gI eZ;simp only[DG _ z.a1,Et _ z.a2,Tb _ z.t1 z.t2,Jq _ z.f1,Ez _ _ z.s1 z.s2 z.s3,di,ab,cu];cases cP h.1 with|false=>rfl|true=>?_
 cases fS h.2.1 with|false=>rfl|true=>?_
 cases KH h.2.2.1 with|false=>rfl|true=>?_
 cases qp h.2.2.2.2.2.2.2.1 with|false=>rfl|true=>?_
 simp only[aj,af,cT,bne];rw[show(!dp (h.2.2.2.1.length:Int) 1 2||(!((h.2.2.2.2.1.length:Int)==(h.2.2.2.1.length:Int))||(!((h.2.2.2.2.2.1.length:Int)==(h.2.2.2.1.length:Int))|| !((h.2.2.2.2.2.2.1.length:Int)==(h.2.2.2.1.length:Int)))))= !(pX h) by unfold pX;simp only[Bool.not_and]];cases hl:pX h with|false=>rfl|true=>?_
 have hL:=mD hl;simp only[aj,af,bB];rw[XP (h:=h) (hit:=some false) (fin:=some ((iG h).all (λx=>dp x 0 1000000000000)&&fL h.2.2.2.2.2.2.2.2.1 (h.2.2.2.1.length:Int))) hl ?hs ?hf]
 case hs=>
  intro i hi nx
  simp only[tz]
  rw[lT,bK hi,bK (hL.2.1▸hi),bK (hL.2.2.1▸hi),ak (n:=(i:Int)+1)]
  simp only[ah,ab,Jw,xZ,tq _ (z.p1 _ (bz _)),cu,cT,Bool.not_and]
  rfl
 case hf=>
  intro nx
  simp only[tz]
  rw[jJ]
  simp only[af]
  refine(Pm (fin:=some (fL h.2.2.2.2.2.2.2.2.1 (h.2.2.2.1.length:Int))) (hit:=some false) h ?_ ?_).trans ?_
  ·intro i hi nx
   simp only[rZ]
   have hi':i<5:=hi
   change (bif decide ((i:Int)<5) then aa (idx (iG h) (i:Int)) _ else _)=_
   rw[lT,bK hi,ak (n:=(i:Int)+1),ab,di]
   rfl
  ·intro nx
   simp only[rZ]
   rw[ar (by simp[iG])];rfl
  ·cases (iG h).all (λx=>dp x 0 1000000000000)<;>rfl
 cases Ry h<;>cases fL h.2.2.2.2.2.2.2.2.1 (h.2.2.2.1.length:Int)<;>cases (iG h).all (λx=>dp x 0 1000000000000)<;>rfl
def hasB (l:dC)(v:Int):Bool:=l.any (·==v)
theorem ace (l:dC)(v:Int)(h:l.length<=1000000000):sT l v=some (hasB l v):=by
 unfold sT hasB;rw[H4 (hit:=some true) (fin:=some false) (λx:Int=>x==v) l (by omega) (λi hi nx=>?hs) (λnx=>?hf)]
 case hs=>
  simp only[tL]
  rw[lT,bK hi,ak];rfl
 case hf=>
  simp only[tL]
  rw[jJ];rfl
 cases l.any (λx=>x==v)<;>rfl
theorem RV (l:ax α)(j:Nat)(h:j<=l.length):sub l (j:Int) (l.length:Int)=some (l.drop j):=by unfold sub;rw[zip];simp
def vO (f:Filter)(p:aQ):Bool:=qp f&&(((p.1==f.1)||((p.1==281474976710655)||f.2.1))&&((p.2.2.1== -1)||hasB f.2.2 p.2.2.1))
theorem Qb (f:Filter)(p:aQ)(h:f.2.2.length<=1000000000):wU f p=some (vO f p):=by simp only[wU,Jq f h,ace f.2.2 _ h,ab,vO];cases qp f<;>cases p.1==f.1<;>cases p.1==281474976710655<;>cases f.2.1<;>cases p.2.2.1== -1<;>rfl
def preB (a b n:Int):Bool:=Int.fdiv a (2^(min (Int.toNat (aq (32-n))) (IntKind.bits .i64)))==Int.fdiv b (2^(min (Int.toNat (aq (32-n))) (IntKind.bits .i64)))
theorem XQ {r:kb}(h:yJ r=true):0<=r.2.2.2.1/\r.2.2.2.1<=32:=by rw[<-aX];unfold yJ at h;simp only[lO,eI,ab,cu]at h;cases hp:dp r.2.2.2.1 0 32 with|true=>rfl|false=>rw[hp]at h;revert h;cases dp r.1 0 1000<;>cases r.2.1 !=0<;>cases r.2.1 !=6<;>cases r.2.1 !=17<;>cases dp r.2.2.1 0 4294967295<;>simp
def adz (r:kb)(p:aQ):Bool:=preB r.2.2.1 p.2.2.2.2.2.2.1 r.2.2.2.1&&(dp p.2.2.2.2.2.2.2.2.2.2.1 r.2.2.2.2.1 r.2.2.2.2.2.1&&((r.2.2.2.2.2.2.1== -2)||(r.2.2.2.2.2.2.1==p.2.2.1)))
def FV (r:kb)(p:aQ):Bool:=yJ r&&(dG p&&(((r.2.1==0)||(r.2.1==p.2.2.2.2.2.2.2.2.1))&&adz r p))
theorem ach (a b n:Int)(h0:0<=n)(h1:n<=32):ow a b n=some (preB a b n):=by unfold ow preB;rw[aI (by rw[ak (n:=32-n)];omega),aI (by rw[ak (n:=32-n)];omega)]
theorem Wz (r:kb)(p:aQ):qy r p=some (FV r p):=by
 unfold qy FV;rw[Zy,ab];cases hr:yJ r with|false=>rfl|true=>?_
 have hp:=XQ hr;simp only[oM,ach _ _ _ hp.1 hp.2,di,ab,adz];cases dG p<;>cases r.2.1==0<;>cases r.2.1==p.2.2.2.2.2.2.2.2.1<;>cases preB r.2.2.1 p.2.2.2.2.2.2.1 r.2.2.2.1<;>cases dp p.2.2.2.2.2.2.2.2.2.2.1 r.2.2.2.2.1 r.2.2.2.2.2.1<;>cases r.2.2.2.2.2.2.1== -2<;>rfl
def G4:kb:=(0,0,0,0,0,0,0,0,0)
def xN (l:ax kb)(p:aQ):Nat->Int
 |0=> -1
 |i+1=>bif FV (l.getD i G4) p&&(decide (xN l p i<0)||decide ((l.getD i G4).1<(l.getD (xN l p i).toNat G4).1)) then(i:Int) else xN l p i
theorem H8 (l:ax kb)(p:aQ):∀i,xN l p i= -1\/∃n:Nat,xN l p i=(n:Int)/\n<i
 |0=> .inl rfl
 |i+1=>by rw[xN];cases FV (l.getD i G4) p&&(decide (xN l p i<0)||decide ((l.getD i G4).1<(l.getD (xN l p i).toNat G4).1))with|true=>exact .inr ⟨i,rfl,by omega⟩|false=>rcases H8 l p i with h|⟨n,h,hn⟩;exact .inl h;exact .inr ⟨n,h,by omega⟩
theorem VY (l:ax kb)(p:aQ)(i:Nat)(hi:i<l.length)(nx:Int×Int->aB R): (aa (cond (FV l[i] p) (cond (decide (xN l p i<0)) (some true) (aa (idx l (xN l p i)) λx4=>some (decide (l[i].1<x4.1)))) (some false)) λq5=>cond q5 (nx ((i:Int),((i+1:Nat):Int))) (nx (xN l p i,((i+1:Nat):Int))))=nx (xN l p (i+1),((i+1:Nat):Int)):=by
 rw[xN,cS hi];cases FV l[i] p with|false=>rfl|true=>?_
 rcases H8 l p i with h|⟨n,h,hn⟩;rw[h];rfl;have hl:n<l.length:=by omega
 rw[h,ar (show¬(n:Int)<0 by omega),bK hl];simp only[ah,af,ab,ay,cS hl,bB,cz];cases decide (l[i].1<l[n].1)<;>rfl
def CU (l:ax kb)(p:aQ):Int:=bif wD l then xN l p l.length else-1
theorem PM (l:ax kb)(p:aQ)(h:CU l p>=0):∃n:Nat,CU l p=(n:Int)/\n<l.length:=by unfold CU at h⊢;cases hr:wD l with|false=>rw[hr]at h;simp at h|true=>rw[hr]at h;simp only[ah]at h⊢;rcases H8 l p l.length with g|g;omega;exact g
theorem Wx (l:ax kb)(p:aQ)(h:l.length<=1000000000):vh l p=some (CU l p):=by
 unfold vh CU;rw[LZ l h,ab];cases wD l with|false=>rfl|true=>?_
 simp only[aj,af,ah];refine eV (λi=>(xN l p i,(i:Int))) l.length (by omega) (λi nx hi=>?_) (λnx=>?_);simp only[qt];rw[lT,bK hi,ak (n:=(i:Int)+1)];simp only[ah,ab,Wz];exact VY l p i hi nx;simp only[qt];rw[jJ];rfl
def jM (p:aQ):CL:=(p.2.2.2.2.2.2.2.2.1,p.2.2.2.2.2.2.1,p.2.2.2.2.2.2.2.1,p.2.2.2.2.2.2.2.2.2.1,p.2.2.2.2.2.2.2.2.2.2.1)
theorem Jr (p:aQ):sR p=some (jM p):=rfl
theorem aaq (p:aQ):B6 p=some (jM p):=rfl
def amI:Slot:=(0,(0,0,0,0,0),0)
def ri (s:dm)(q:Int)(p:aQ):Int:=
 bif !fL s q|| !dG p then-1 else
 bif decide (CU s.1 p>=0) then(bif (s.1.getD (CU s.1 p).toNat G4).2.2.2.2.2.2.2.1==1 then-1 else(s.1.getD (CU s.1 p).toNat G4).2.2.2.2.2.2.2.2) else
 bif decide (findF s.2.1 (jM p)>=0) then(s.2.1.getD (findF s.2.1 (jM p)).toNat amI).2.2 else HV s.2.2 q (jM p)
theorem WJ (s:dm)(q:Int)(p:aQ)(h1:s.1.length<=1000000000)(h2:s.2.1.length<=1000000000)(h3:s.2.2.2.length<=1000000000):qA s q p=some (ri s q p):=by
 unfold qA ri;rw[Ez s q h1 h2 h3,ab,oM,ab];cases fL s q with|false=>rfl|true=>?_
 cases dG p with|false=>rfl|true=>?_
 simp only[aj,af,ab,bQ,Wx s.1 p h1,Jr,N5 s.2.1 _ h2,Qp s.2.2 q _ h3];cases hd:decide (CU s.1 p>=0)with
 |true=>obtain⟨n,hn,hl⟩:=PM s.1 p (bu hd);simp only[ah,hn,bK hl,ab,ay,cS hl];cases s.1[n].2.2.2.2.2.2.2.1==1<;>rfl
 |false=>
  simp only[af];cases hd2:decide (findF s.2.1 (jM p)>=0)with
  |true=>obtain⟨n,hn,hl⟩:=PL s.2.1 (jM p) (bu hd2);simp only[ah,hn,bK hl,ab,ay,cS hl]
  |false=>rfl
def VV (a b:Int):Int:=(lM a b).getD 0
theorem HU (a b:Int):lM a b=some (VV a b):=by
 unfold VV;have:∃x,lM a b=some x:=by simp only[lM,eI,ab];cases dp a 0 65535<;>cases dp b 0 65535<;>cases decide (aq (a+b)>65535)<;>exact⟨_,rfl⟩
 obtain⟨x,hx⟩:=this;rw[hx];rfl
theorem Qc (a b:Int):wV a b=some (VV a b):=HU a b
theorem abO {a b:Int}(h:0<=a/\a<=65535)(k:0<=b/\b<=65535):0<=VV a b/\VV a b<=65535:=by have e:=HU a b;simp only[lM,eI,ab,aX.2 h,aX.2 k,aj,af]at e;rw[ak (n:=a+b)]at e;by_cases hc:a+b>65535;rw[au hc,ah,ak]at e;rw[<-cZ e];omega;rw[ar hc,af]at e;rw[<-cZ e];omega
def sw (s:Bytes):Nat->Int
 |0=>0
 |j+1=>VV (sw s j) ((bR s (2*j)*256+bR s (2*j+1):Nat):Int)
theorem aax (s:Bytes):∀j,0<=sw s j/\sw s j<=65535
 |0=>by simp[sw]
 |j+1=>by have b0:=fb s (2*j);have b1:=fb s (2*j+1);exact abO (aax s j) (by omega)
theorem Du (h:s.length<=i:=by omega):bR s i=0:=by unfold bR;rw[aY,bH h];rfl
theorem ada (s:Bytes)(h:s.length<=1000000000):vH s=some (sw s ((s.length+1)/2)):=by
 unfold vH;refine eV (λj=>(sw s j,((2*j:Nat):Int))) ((s.length+1)/2) (by omega) (λj nx hj=>?_) (λnx=>?_);have b0:=fb s (2*j);have b1:=fb s (2*j+1);obtain⟨x,hx,ex⟩:=lz (s:=s) (i:=2*j);simp only[qR];rw[lT,ah,hx,ab,jR,ak (n:=((2*j:Nat):Int)+1),ak (n:=((2*j:Nat):Int)+2),ex,ix];have e8:mq 8=8:=rfl;have en:((2*j:Nat):Int)+2=((2*(j+1):Nat):Int):=by omega
 rw[e8,ak (n:=((bR s (2*j):Nat):Int)*2^8)];by_cases hc:2*j+1<s.length;obtain⟨y,hy,ey⟩:=lz (s:=s) (i:=2*j+1) hc;rw[lT,ah,show((2*j:Nat):Int)+1=((2*j+1:Nat):Int) by omega,hy,ab,ey,ix (n:=bR s (2*j+1)),ak,HU,ab,en,show((bR s (2*j):Nat):Int)*2^8+((bR s (2*j+1):Nat):Int)=((bR s (2*j)*256+bR s (2*j+1):Nat):Int) by omega];rfl;have hz:=Du (s:=s) (i:=2*j+1);rw[jJ,af,HU,ab,en,show((bR s (2*j):Nat):Int)*2^8=((bR s (2*j)*256+bR s (2*j+1):Nat):Int) by rw[hz];omega];rfl;simp only[qR];rw[jJ];rfl
theorem aci (s:Bytes)(h:s.length<=1000000000):vu s=some (sw s ((s.length+1)/2)):=by
 unfold vu;refine eV (λj=>(sw s j,((2*j:Nat):Int))) ((s.length+1)/2) (by omega) (λj nx hj=>?_) (λnx=>?_);have b0:=fb s (2*j);have b1:=fb s (2*j+1);obtain⟨x,hx,ex⟩:=lz (s:=s) (i:=2*j);simp only[qC];rw[lT,ah,hx,ab,jR,ak (n:=((2*j:Nat):Int)+1),ak (n:=((2*j:Nat):Int)+2),ex,ix];have e8:mq 8=8:=rfl;have en:((2*j:Nat):Int)+2=((2*(j+1):Nat):Int):=by omega
 rw[e8,show((bR s (2*j):Nat):Int)*2^8=((2^8*bR s (2*j):Nat):Int) by omega,ix (n:=2^8*bR s (2*j))];by_cases hc:2*j+1<s.length;obtain⟨y,hy,ey⟩:=lz (s:=s) (i:=2*j+1) hc;rw[lT,ah,show((2*j:Nat):Int)+1=((2*j+1:Nat):Int) by omega,hy,ab,ey,ix (n:=bR s (2*j+1)),DM (bR s (2*j)) 8 (bR s (2*j+1)),Qc,ab,en,show 2^8*bR s (2*j)+bR s (2*j+1)=bR s (2*j)*256+bR s (2*j+1) by omega];rfl;have hz:=Du (s:=s) (i:=2*j+1);rw[jJ,af,Qc,ab,en,show((2^8*bR s (2*j):Nat):Int)=((bR s (2*j)*256+bR s (2*j+1):Nat):Int) by rw[hz];omega];rfl;simp only[qC];rw[jJ];rfl
def Lu (s:Bytes):Int:=65535-sw s ((s.length+1)/2)
theorem OC (s:Bytes)(h:s.length<=1000000000):oR s=some (Lu s):=by have:=aax s ((s.length+1)/2);simp only[oR,ada s h,ab];rw[ak];rfl
theorem HQ (s:Bytes)(h:s.length<=1000000000):jk s=some (Lu s):=by have:=aax s ((s.length+1)/2);simp only[jk,aci s h,ab];rw[ak];rfl
def uH (s:Bytes)(a:Int)(p:Bytes):Bytes:=bif fH s a (p.length:Int) then(s.take a.toNat++p)++s.drop (a.toNat+p.length) else s
theorem wh (s:Bytes)(a:Int)(p:Bytes):(uH s a p).length=s.length:=by unfold uH;cases hw:fH s a (p.length:Int)with|false=>rfl|true=>simp only[fH,aD]at hw;simp only[ah,ai,aS,aO];omega
theorem Rr (s:Bytes)(a:Int)(p:Bytes)(h:s.length<=1000000000)(hw:fH s a (p.length:Int)=true): (aa (sub s 0 a) λx2=>room (List.length x2+List.length p) (aa (sub s (aq (a+((List.length p:Int)))) ((List.length s:Int))) λx3=>room (List.length (x2++p)+List.length x3) (some ((x2++p)++x3))))=some (uH s a p):=by
 have hw':=hw;simp only[fH,aD]at hw';obtain⟨n,rfl⟩:=aG hw'.1;have e1:sub s 0 (n:Int)=some (s.take n):=by unfold sub;rw[zip];rfl
 have e2:sub s (((n+p.length:Nat):Int)) (s.length:Int)=some (s.drop (n+p.length)):=by unfold sub;rw[zip,ay,ay,eS]
 rw[e1,ak,show(n:Int)+(p.length:Int)=((n+p.length:Nat):Int) by omega,e2,ab,aZ (by simp only[aS];omega),ab,aZ (by simp only[ai,aS,aO];omega)];unfold uH;rw[hw];rfl
theorem E6 (s:Bytes)(a:Int)(p:Bytes)(h:s.length<=1000000000:=by omega):iB s a p=some (uH s a p):=by unfold iB;rw[B5 s a _ h,ab];cases hw:fH s a (p.length:Int)with|false=>simp only[cd,ah,uH,hw,af]|true=>exact Rr s a p h hw
theorem Ak (s:Bytes)(a:Int)(p:Bytes)(h:s.length<=1000000000:=by omega)(hp:p.length<=1000000000:=by omega):gb s a p=some (uH s a p):=by
 unfold gb;rw[ak (n:=(s.length:Int)-(p.length:Int))];cases hw:fH s a (p.length:Int)with
 |true=>have hw':=hw;simp only[fH,aD]at hw';rw[ar (show¬a<0 by omega),ar (show¬a>(s.length:Int)-(p.length:Int) by omega)];exact Rr s a p h hw
 |false=>
  have hp:uH s a p=s:=by unfold uH;rw[hw];rfl
  rw[hp];simp only[fH,cR]at hw;by_cases h0:a<0;rw[au h0];rfl;rw[ar h0,au (show a>(s.length:Int)-(p.length:Int) by omega)];rfl
def bs2 (x y:Int):Bytes:=aM [x,y]
theorem MW (x y:Int):(bs2 x y).length=2:=rfl
def xd (a b k n:Int):Bool:=dp a 0 4294967295&&(dp b 0 4294967295&&(dp k 0 255&&dp n 0 65535))
def uG (a b k n:Int):Bytes:=((il a++il b)++bs2 0 (gx k))++bV n
theorem F8 (a b k n:Int):(uG a b k n).length<=12:=by have:=eH a;have:=eH b;have:=bL n;simp only[uG,ai,MW];omega
theorem DR (a b k n:Int):lN a b k n=some (bif xd a b k n then(uG a b k n,true) else([],false)):=by
 have:=eH a;have:=eH b;have:=bL n;unfold lN xd;simp only[eI,ab,qf,nY];cases dp a 0 4294967295 with|false=>rfl|true=>?_
 cases dp b 0 4294967295 with|false=>rfl|true=>?_
 cases dp k 0 255 with|false=>rfl|true=>?_
 cases dp n 0 65535 with|false=>rfl|true=>?_
 simp only[aj,af,dL,ah,ab];have e:(aM [0,gx k]).length=2:=rfl;rw[aZ,aZ (by simp only[ai,e];omega),aZ (by simp only[ai,e];omega)];rfl
theorem Jv (a b k n:Int):pt a b k n=some (bif xd a b k n then(uG a b k n,true) else([],false)):=DR a b k n
def bare (g:eR):Bytes:=bif g.1==6 then
    (((((bV g.2.1++bV g.2.2.1)++il g.2.2.2.1)++il g.2.2.2.2.1)++bs2 80 (gx g.2.2.2.2.2.1))++bV g.2.2.2.2.2.2.1)++il 0++g.2.2.2.2.2.2.2
 else(((bV g.2.1++bV g.2.2.1)++bV (8+(g.2.2.2.2.2.2.2.length:Int)))++bV 0)++g.2.2.2.2.2.2.2
theorem MT (g:eR):(bare g).length<=20+g.2.2.2.2.2.2.2.length:=by have:=bL g.2.1;have:=bL g.2.2.1;have:=eH g.2.2.2.1;have:=eH g.2.2.2.2.1;have:=bL g.2.2.2.2.2.2.1;have:=eH 0;have:=bL 0;have:=bL (8+(g.2.2.2.2.2.2.2.length:Int));unfold bare;cases g.1==6<;>simp only[ah,af,ai,MW]<;>omega
theorem Yo:bV 0++bV 0=il 0:=by rfl
theorem Zn (g:eR)(h:g.2.2.2.2.2.2.2.length<=1000000):qH g=some (bare g):=by have:=bL g.2.1;have:=bL g.2.2.1;have:=eH g.2.2.2.1;have:=eH g.2.2.2.2.1;have:=bL g.2.2.2.2.2.2.1;have:=bL 0;have:=bL (8+(g.2.2.2.2.2.2.2.length:Int));have e:∀x,(aM [80,gx x]).length=2:=λ_=>rfl;unfold qH bare;rw[ak (n:=8+(g.2.2.2.2.2.2.2.length:Int))];simp only[kG,ya,ab];rw[aZ];cases g.1==6 with|true=>simp only[ah];rw[aZ (by simp only[ai,e];omega),aZ (by simp only[ai,e];omega),aZ (by simp only[ai,e];omega),aZ (by simp only[ai,e];omega),aZ (by simp only[ai,e];omega),aZ (by simp only[ai,e];omega),aZ (by simp only[ai,e];omega)];rw[<-Yo];simp only[bs2,aN]|false=>simp only[af];rw[aZ (by simp only[ai];omega),aZ (by simp only[ai];omega),aZ (by simp only[ai];omega)]
def VF (a b:Int)(g:eR):Int:=bif (Lu (uG a b g.1 ((bare g).length:Int)++bare g)==0)&&(g.1==17) then 65535 else Lu (uG a b g.1 ((bare g).length:Int)++bare g)
def Vy (a b:Int)(g:eR):Bytes:=uH (bare g) (bif g.1==6 then 16 else 6) (bV (VF a b g))
def Ki (a b:Int)(g:eR):Bool:=rM g&&xd a b g.1 ((bare g).length:Int)
def yZ (a b:Int)(g:eR):Bytes×Bool:=bif Ki a b g then(Vy a b g,true) else([],false)
theorem BW {g:eR}(h:rM g=true):g.2.2.2.2.2.2.2.length<=320:=by simp only[rM,ae,aL,cR]at h;omega
theorem B4 (a b:Int)(g:eR):jH a b g=some (yZ a b g):=by
 unfold jH yZ Ki;rw[VC,ab];cases hg:rM g with|false=>rfl|true=>?_
 have hb:=BW hg;have hl:=MT g;have hp:=F8 a b g.1 ((bare g).length:Int);have:=bL g.2.1;have:=bL g.2.2.1;have:=eH g.2.2.2.1;have:=eH g.2.2.2.2.1;have:=bL g.2.2.2.2.2.2.1;have:=eH 0;have:=bL 0;have:=bL (8+(g.2.2.2.2.2.2.2.length:Int));have e:∀x,(aM [80,gx x]).length=2:=λ_=>rfl;rw[ak (n:=8+(g.2.2.2.2.2.2.2.length:Int))];simp only[nY,qf,ab,aj,af,bB];rw[aZ];cases h6:g.1==6 with
 |true=>
  have hbare:bare g=(((((bV g.2.1++bV g.2.2.1)++il g.2.2.2.1)++il g.2.2.2.2.1)++aM [80,gx g.2.2.2.2.2.1])++bV g.2.2.2.2.2.2.1)++il 0++g.2.2.2.2.2.2.2:=by unfold bare;rw[h6];rfl
  simp only[ah];rw[aZ (by simp only[ai,e];omega),aZ (by simp only[ai,e];omega),aZ (by simp only[ai,e];omega),aZ (by simp only[ai,e];omega),aZ (by simp only[ai,e];omega),aZ (by simp only[ai,e];omega),<-hbare,DR,ab];cases xd a b g.1 ((bare g).length:Int)with|false=>rfl|true=>?_
  simp only[ah,aj,af];rw[aZ,OC _ (by simp only[ai];omega)];simp only[ab,cu,E6 _ _ _ (show(bare g).length<=1000000000 by omega),Vy,VF,h6,ah,cF];cases (Lu (uG a b g.1 ((bare g).length:Int)++bare g)==0)&&(g.1==17)<;>rfl
 |false=>
  have hbare:bare g=(((bV g.2.1++bV g.2.2.1)++bV (8+(g.2.2.2.2.2.2.2.length:Int)))++bV 0)++g.2.2.2.2.2.2.2:=by unfold bare;rw[h6];rfl
  simp only[af];rw[aZ (by simp only[ai];omega),aZ (by simp only[ai];omega),aZ (by simp only[ai];omega),<-hbare,DR,ab];cases xd a b g.1 ((bare g).length:Int)with|false=>rfl|true=>?_
  simp only[ah,aj,af];rw[aZ,OC _ (by simp only[ai];omega)];simp only[ab,cu,E6 _ _ _ (show(bare g).length<=1000000000 by omega),Vy,VF,h6,af,cF];cases (Lu (uG a b g.1 ((bare g).length:Int)++bare g)==0)&&(g.1==17)<;>rfl
theorem BH (a b:Int)(g:eR):jD a b g=some (yZ a b g):=by
 unfold jD yZ Ki;rw[Vf,ab];cases hg:rM g with|false=>rfl|true=>?_
 have hb:=BW hg;have hl:=MT g;have hp:=F8 a b g.1 ((bare g).length:Int);have hsp:fR g.1=some (bif g.1==6 then 16 else 6):=by unfold fR;rw[cu]
 have w1:=bL 65535;have w2:=bL (Lu (uG a b g.1 ((bare g).length:Int)++bare g));simp only[Zn g (by omega),Jv,ab,aj,af,bB];cases xd a b g.1 ((bare g).length:Int)with|false=>rfl|true=>?_
 simp only[ah,aj,af];rw[aZ,HQ _ (by simp only[ai];omega)];simp only[ab,cu,hsp,kG,Ak _ _ _ (show(bare g).length<=1000000000 by omega) (show(bV 65535).length<=1000000000 by omega),Ak _ _ _ (show(bare g).length<=1000000000 by omega) (show(bV (Lu (uG a b g.1 ((bare g).length:Int)++bare g))).length<=1000000000 by omega),Vy,VF,cF];rw[Bool.and_comm];cases (Lu (uG a b g.1 ((bare g).length:Int)++bare g)==0)&&(g.1==17)<;>rfl
theorem ac3 (a b:Int)(g:eR):(yZ a b g).1.length<=340:=by unfold yZ;cases h:Ki a b g with|false=>exact bX _|true=>simp only[Ki,ae]at h;have:=BW h.1;have:=MT g;show(uH _ _ _).length<=340;rw[wh];omega
def Tf (d:Ip):Bool:=dp d.1 0 255&&(dp d.2.2.1 0 255&&(dp d.2.2.2.1 0 255&&(dp d.2.1 0 65535&&(dp d.2.2.2.2.1 0 4294967295&&(dp d.2.2.2.2.2.1 0 4294967295&&decide ((d.2.2.2.2.2.2.length:Int)<=380))))))
theorem RN (d:Ip):CG d=some (Tf d):=by simp only[CG,eI,ab,cu,cF,Tf]
theorem Zt (d:Ip):FJ d=some (Tf d):=RN d
def JB (d:Ip):Bytes:=((((((bs2 69 (gx d.1)++bV (20+(d.2.2.2.2.2.2.length:Int)))++bV d.2.1)++bV 16384)++bs2 (gx d.2.2.1) (gx d.2.2.2.1))++bV 0)++il d.2.2.2.2.1)++il d.2.2.2.2.2.1
theorem JC (d:Ip):(JB d).length<=20:=by have:=bL (20+(d.2.2.2.2.2.2.length:Int));have:=bL d.2.1;have:=bL 16384;have:=bL 0;have:=eH d.2.2.2.2.1;have:=eH d.2.2.2.2.2.1;simp only[JB,ai,MW];omega
def JA (d:Ip):Bytes:=uH (JB d) 10 (bV (Lu (JB d)))
theorem T7 (d:Ip):vE d=some (bif Tf d then(JA d,true) else([],false)):=by
 unfold vE;rw[RN,ab];cases hd:Tf d with|false=>rfl|true=>?_
 have hn:(d.2.2.2.2.2.2.length:Int)<=380:=by simp only[Tf,ae,aD]at hd;omega
 have:=bL (20+(d.2.2.2.2.2.2.length:Int));have:=bL d.2.1;have:=bL 16384;have:=bL 0;have:=eH d.2.2.2.2.1;have:=eH d.2.2.2.2.2.1;have hl:=JC d;have e:∀x y,(aM [x,y]).length=2:=λ_ _=>rfl;rw[ak (n:=20+(d.2.2.2.2.2.2.length:Int))];simp only[nY,qf,ab,aj,af,ah];rw[aZ (by simp only[ai,e];omega),aZ (by simp only[ai,e];omega),aZ (by simp only[ai,e];omega),aZ (by simp only[ai,e];omega),aZ (by simp only[ai,e];omega),aZ (by simp only[ai,e];omega),aZ (by simp only[ai,e];omega)];have hp:((((((aM [69,gx d.1]++bV (20+(d.2.2.2.2.2.2.length:Int)))++bV d.2.1)++bV 16384)++aM [gx d.2.2.1,gx d.2.2.2.1])++bV 0)++il d.2.2.2.2.1)++il d.2.2.2.2.2.1=JB d:=rfl;rw[hp,OC _ (by omega),ab,E6 _ _ _];rfl
theorem S6 (d:Ip):vn d=some (bif Tf d then(JA d,true) else([],false)):=by
 unfold vn;rw[Zt,ab];cases hd:Tf d with|false=>rfl|true=>?_
 have hn:(d.2.2.2.2.2.2.length:Int)<=380:=by simp only[Tf,ae,aD]at hd;omega
 have:=bL (20+(d.2.2.2.2.2.2.length:Int));have:=bL d.2.1;have:=bL 16384;have:=bL 0;have:=eH d.2.2.2.2.1;have:=eH d.2.2.2.2.2.1;have hl:=JC d;have hw:=bL (Lu (JB d));have e:∀x y,(aM [x,y]).length=2:=λ_ _=>rfl;rw[ak (n:=20+(d.2.2.2.2.2.2.length:Int))];simp only[kG,ya,ab,aj,af,ah];rw[aZ (by simp only[ai,e];omega),aZ (by simp only[ai,e];omega),aZ (by simp only[ai,e];omega),aZ (by simp only[ai,e];omega),aZ (by simp only[ai,e];omega),aZ (by simp only[ai,e];omega),aZ (by simp only[ai,e];omega)];have hp:((((((aM [69,gx d.1]++bV (20+(d.2.2.2.2.2.2.length:Int)))++bV d.2.1)++bV 16384)++aM [gx d.2.2.1,gx d.2.2.2.1])++bV 0)++il d.2.2.2.2.1)++il d.2.2.2.2.2.1=JB d:=rfl;rw[hp,HQ _ (by omega),ab,Ak _ _ _];rfl
def O0 (d:Ip):Bytes×Bool:=bif Tf d then(JA d++d.2.2.2.2.2.2,true) else([],false)
theorem FM (d:Ip):(JA d).length<=20:=by unfold JA;rw[wh];exact JC d
theorem aar (d:Ip):tY d=some (O0 d):=by
 unfold tY O0;rw[T7,ab];cases hd:Tf d with|false=>rfl|true=>?_
 have hn:(d.2.2.2.2.2.2.length:Int)<=380:=by simp only[Tf,ae,aD]at hd;omega
 have:=FM d;simp only[ah,aj,af];rw[aZ]
theorem Zs (d:Ip):tr d=some (O0 d):=by
 unfold tr O0;rw[S6,ab];cases hd:Tf d with|false=>rfl|true=>?_
 have hn:(d.2.2.2.2.2.2.length:Int)<=380:=by simp only[Tf,ae,aD]at hd;omega
 have:=FM d;simp only[ah,aj,af];rw[aZ]
def rb (n:Nat):Bytes:=aM (List.replicate n (0:Int))
theorem tc (n:Nat):(rb n).length=n:=by simp[rb,aM]
theorem Kn (n:Nat)(h:n<=1000000000:=by omega):iP (n:Int) 0=some (rb n):=by unfold iP;rw[zip,aZ (by rw[ay];omega),ay];refine eV (λi=>(List.replicate n (0:Int),(i:Int))) n (by omega) (λi nx hi=>?_) (λnx=>?_);simp only[oA];rw[lT,bK (by simpa using hi),ak];simp only[ah,ab,ay,List.set_replicate_self];rfl;simp only[oA];rw[jJ];rfl
theorem Ve (n:Nat)(h:n<=1000000000:=by omega):nC 0 (n:Int)=some (rb n):=by unfold nC;rw[zip,aZ (by rw[ay];omega),ay];refine eV (λi=>(List.replicate n (0:Int),(i:Int))) n (by omega) (λi nx hi=>?_) (λnx=>?_);simp only[tN];rw[au (by simp;omega),bK (by simpa using hi),ak];simp only[ah,ab,ay,List.set_replicate_self];rfl;simp only[tN];rw[ar (by simp)];rfl
def pad (s:Bytes):Bytes:=if s.length<46 then s++rb (46-s.length) else s
theorem Ok (s:Bytes):(pad s).length=max 46 s.length:=by unfold pad;split;simp only[ai,tc];omega;omega
theorem ac9 (s:Bytes)(h:s.length<=1000000000):xe s=some (pad s):=by unfold xe pad;by_cases hc:s.length<46;rw[lT,aH hc,ak,show(46:Int)-(s.length:Int)=((46-s.length:Nat):Int) by omega,Kn _];simp only[ah,ab];rw[aZ (by rw[tc];omega)];rw[jJ,aI hc];rfl
theorem acg (s:Bytes)(h:s.length<=1000000000):wY s=some (pad s):=by unfold wY pad;by_cases hc:s.length<46;rw[jJ,aH hc,ak,show(46:Int)-(s.length:Int)=((46-s.length:Nat):Int) by omega,Ve _];simp only[af,ab];rw[aZ (by rw[tc];omega)];rw[lT,aI hc];rfl
def qo (e:KP):Bool:=dp e.1 0 281474976710655&&(dp e.2.1 0 281474976710655&&(dp e.2.2.1 (-1) 4095&&(dp e.2.2.2.1 1536 65535&&((e.2.2.2.1 !=33024)&&dp (e.2.2.2.2.length:Int) 46 400))))
theorem Gi (e:KP):uO e=some (qo e):=by simp only[uO,eI,ab,cu,cF,qo]
theorem LV (e:KP):yb e=some (qo e):=Gi e
def W3 (a:Int):Bytes:=(iX a).getD []
theorem yK (a:Int):iX a=some (W3 a)/\(W3 a).length<=6:=by
 have h:∃x,iX a=some x/\x.length<=6:=by unfold iX;rw[jR];simp only[nY,qf,ab];have h1:=bL (Int.fdiv a (2^(mq 32)));have h2:=eH (aq (BitVec.toNat (gN a&&&gN 4294967295)));rw[aZ];exact⟨_,rfl,by simp only[ai];omega⟩
 obtain⟨x,hx,hl⟩:=h;unfold W3;rw[hx];exact⟨rfl,hl⟩
theorem acf (a:Int):vw a=some (W3 a):=(yK a).1
def LF (e:KP):Bytes:=(bif decide (e.2.2.1>=0) then(((W3 e.1++W3 e.2.1)++bV 33024)++bV e.2.2.1) else W3 e.1++W3 e.2.1)++bV e.2.2.2.1++e.2.2.2.2
theorem YW (e:KP):(LF e).length<=18+e.2.2.2.2.length:=by have:=(yK e.1).2;have:=(yK e.2.1).2;have:=bL 33024;have:=bL e.2.2.1;have:=bL e.2.2.2.1;unfold LF;cases decide (e.2.2.1>=0)<;>simp only[ah,af,ai]<;>omega
def PG (e:KP):Bytes×Bool:=bif qo e then(LF e,true) else([],false)
theorem ac8 (e:KP):vA e=some (PG e):=by
 unfold vA PG;rw[Gi,ab];cases he:qo e with|false=>rfl|true=>?_
 have hn:(e.2.2.2.2.length:Int)<=400:=by simp only[qo,ae,aX]at he;omega
 have:=(yK e.1).2;have:=(yK e.2.1).2;have:=bL 33024;have:=bL e.2.2.1;have:=bL e.2.2.2.1;simp only[(yK _).1,nY,ab,aj,af,ah,LF];rw[aZ];cases decide (e.2.2.1>=0)with|true=>simp only[ah];rw[aZ (by simp only[ai];omega),aZ (by simp only[ai];omega),aZ (by simp only[ai];omega),aZ (by simp only[ai];omega)]|false=>simp only[af];rw[aZ (by simp only[ai];omega),aZ (by simp only[ai];omega)]
theorem acd (e:KP):vc e=some (PG e):=by
 unfold vc PG;rw[LV,ab];cases he:qo e with|false=>rfl|true=>?_
 have hn:(e.2.2.2.2.length:Int)<=400:=by simp only[qo,ae,aX]at he;omega
 have:=(yK e.1).2;have:=(yK e.2.1).2;have:=bL 33024;have:=bL e.2.2.1;have:=bL e.2.2.2.1;simp only[acf,kG,ab,aj,af,ah,LF];rw[aZ];cases decide (e.2.2.1>=0)with|true=>simp only[ah];rw[aZ,aZ (by simp only[ai];omega),aZ (by simp only[ai];omega),aZ (by simp only[ai];omega)];simp only[aN]|false=>simp only[af];rw[aZ (by simp only[ai];omega),aZ (by simp only[ai];omega)]
def ac2 (p:aQ):Bytes×Bool:=yZ p.2.2.2.2.2.2.1 p.2.2.2.2.2.2.2.1 p.2.2.2.2.2.2.2.2
def WS (p:aQ):Bytes×Bool:=O0 (p.2.2.2.1,p.2.2.2.2.1,p.2.2.2.2.2.1,p.2.2.2.2.2.2.2.2.1,p.2.2.2.2.2.2.1,p.2.2.2.2.2.2.2.1,(ac2 p).1)
def ab2 (p:aQ):Bytes×Bool:=PG (p.1,p.2.1,p.2.2.1,2048,pad (WS p).1)
def dj (p:aQ):Bytes×Bool:=bif dG p then ab2 p else([],false)
theorem Oa (p:aQ):(WS p).1.length<=360:=by have h1:=ac3 p.2.2.2.2.2.2.1 p.2.2.2.2.2.2.2.1 p.2.2.2.2.2.2.2.2;unfold WS O0;cases Tf (p.2.2.2.1,p.2.2.2.2.1,p.2.2.2.2.2.1,p.2.2.2.2.2.2.2.2.1,p.2.2.2.2.2.2.1,p.2.2.2.2.2.2.2.1,(ac2 p).1)with|false=>exact bX _|true=>have h2:=FM (p.2.2.2.1,p.2.2.2.2.1,p.2.2.2.2.2.1,p.2.2.2.2.2.2.2.2.1,p.2.2.2.2.2.2.1,p.2.2.2.2.2.2.2.1,(ac2 p).1);have h3:(ac2 p).1.length<=340:=h1;simp only[ah,ai];omega
theorem X2 (p:aQ):sr p=some (dj p):=by have hl:=Oa p;unfold sr dj;simp only[Gl,B4,aar,ab];rw[show(O0 (p.2.2.2.1,p.2.2.2.2.1,p.2.2.2.2.2.1,p.2.2.2.2.2.2.2.2.1,p.2.2.2.2.2.2.1,p.2.2.2.2.2.2.2.1,(yZ p.2.2.2.2.2.2.1 p.2.2.2.2.2.2.2.1 p.2.2.2.2.2.2.2.2).1))=WS p from rfl,ac9 _ (by omega),ab,ac8];cases dG p<;>rfl
theorem Cw (p:aQ):ic p=some (dj p):=by have hl:=Oa p;unfold ic dj;simp only[oM,BH,Zs,ab];rw[show(O0 (p.2.2.2.1,p.2.2.2.2.1,p.2.2.2.2.2.1,p.2.2.2.2.2.2.2.2.1,p.2.2.2.2.2.2.1,p.2.2.2.2.2.2.2.1,(yZ p.2.2.2.2.2.2.1 p.2.2.2.2.2.2.2.1 p.2.2.2.2.2.2.2.2).1))=WS p from rfl,acg _ (by omega),ab,acd];cases dG p<;>rfl
theorem Cv (h:dG p=true):(dj p).2=true:=by
 have hl:=Oa p;have hh:pb p=true:=by simp only[dG,ae]at h;exact h.1
 have hp:=Ok (WS p).1;unfold dj ab2 PG;rw[h,ah];have:qo (p.1,p.2.1,p.2.2.1,2048,pad (WS p).1)=true:=by simp only[pb,ae]at hh;simp only[qo,ae];refine⟨hh.1,hh.2.1,hh.2.2.1,by decide,by decide,aX.2 ?_⟩;omega
 rw[this];rfl
theorem uB (p:aQ):(dj p).1.length<=378:=by have hl:=Oa p;have hp:=Ok (WS p).1;unfold dj ab2 PG;cases dG p with|false=>exact bX _|true=>cases qo (p.1,p.2.1,p.2.2.1,2048,pad (WS p).1)with|false=>exact bX _|true=>have:=YW (p.1,p.2.1,p.2.2.1,2048,pad (WS p).1);simp only[ah]at this⊢;omega
def fcs (c:Int):Bytes:=aM [gx c,gx (Int.fdiv c (2^(mq 8))),gx (Int.fdiv c (2^(mq 16))),gx (Int.fdiv c (2^(mq 24)))]
def yP (s:Bytes):Bytes:=s++fcs (YP s)
theorem ab4 (c:Int):(fcs c).length=4:=rfl
theorem VB (s:Bytes)(h:s.length<=1000000000):uh s=some (yP s):=by unfold uh;rw[ac5 s h,ab,jR,jR,jR];exact aZ (by show s.length+4<=_;omega)
theorem Vd (s:Bytes)(h:s.length<=1000000000):tI s=some (yP s):=by unfold tI;rw[aca s h,ab,jR,jR,jR];exact aZ (by show s.length+4<=_;omega)
def gF (p:aQ):Bool:=dG p&&decide ((p.2.2.2.2.2.2.2.2.2.2.2.2.2.2.2.length:Int)<=128)
theorem Ko (p:aQ):rR p=some (gF p):=by simp only[rR,Gl,ab,cu,cF,gF]
theorem Aj (p:aQ):lW p=some (gF p):=by simp only[lW,oM,ab,cu,cF,gF]
def xS (p:aQ):Bytes×Bool:=bif gF p then(yP (dj p).1,true) else([],false)
theorem X1 (p:aQ):sq p=some (xS p):=by have hl:=uB p;simp only[sq,Ko,X2,VB _ (show(dj p).1.length<=1000000000 by omega),ab,xS];cases gF p<;>rfl
theorem Wy (p:aQ):rX p=some (xS p):=by
 have hl:=uB p;simp only[rX,Aj,Cw,Vd _ (show(dj p).1.length<=1000000000 by omega),ab,xS];cases hp:gF p with
 |false=>rfl
 |true=>
  have:dG p=true:=by simp only[gF,ae]at hp;exact hp.1
  rw[Cv this];rfl
theorem LP (p:aQ):(xS p).1.length<=382:=by have hl:=uB p;unfold xS;cases gF p with|false=>exact bX _|true=>simp only[ah,yP,ai,ab4];omega
def TL (p:aQ)(z:Int)(k:Nat):aQ:=
 (p.1,p.2.1,p.2.2.1,p.2.2.2.1,Int.tmod (aq (p.2.2.2.2.1+(k:Int))) 65536,p.2.2.2.2.2.1,p.2.2.2.2.2.2.1,p.2.2.2.2.2.2.2.1,p.2.2.2.2.2.2.2.2.1,p.2.2.2.2.2.2.2.2.2.1,p.2.2.2.2.2.2.2.2.2.2.1,
   Int.tmod (aq (p.2.2.2.2.2.2.2.2.2.2.2.1+((k:Int)*z))) 4294967296,p.2.2.2.2.2.2.2.2.2.2.2.2.1,
   (bif decide (((k:Int)+1)*z<(p.2.2.2.2.2.2.2.2.2.2.2.2.2.2.2.length:Int)) then aq (BitVec.toNat (gN p.2.2.2.2.2.2.2.2.2.2.2.2.2.1&&&~~~ gN 9)) else p.2.2.2.2.2.2.2.2.2.2.2.2.2.1),
   p.2.2.2.2.2.2.2.2.2.2.2.2.2.2.1,(p.2.2.2.2.2.2.2.2.2.2.2.2.2.2.2.take (min ((k+1)*z.toNat) p.2.2.2.2.2.2.2.2.2.2.2.2.2.2.2.length)).drop (k*z.toNat))
def sn (n z:Nat):Nat:=(n+z-1)/z
def DT (p:aQ)(z:Int):ax aQ:=bif dG p&&dp z 1 128 then
    (bif (p.2.2.2.2.2.2.2.2.1 !=6)||decide ((p.2.2.2.2.2.2.2.2.2.2.2.2.2.2.2.length:Int)<=z) then [p] else(List.range (sn p.2.2.2.2.2.2.2.2.2.2.2.2.2.2.2.length z.toNat)).map (TL p z)) else []
theorem Mq {z k:Nat}(hz:0<z:=by omega):k<sn n z↔k*z<n:=by unfold sn;rw[Nat.lt_div_iff_mul_lt hz];omega
theorem AJ (h:dG p=true):p.2.2.2.2.2.2.2.2.2.2.2.2.2.2.2.length<=320:=by
 have hh:pb p=true:=by simp only[dG,ae]at h;exact h.1
 exact BW (xX hh)
theorem X9 {k z:Nat}(hk:k*z<b.length)(hb:b.length<=320):sub b ((k*z:Nat):Int) ((min ((k+1)*z) b.length:Nat):Int)=some ((b.take (min ((k+1)*z) b.length)).drop (k*z)):=by have:k*z<=(k+1)*z:=cK _ (by omega);unfold sub;rw[zip,ay,ay]
theorem WI (p:aQ)(z:Int):Am p z=some (DT p z):=by
 unfold Am DT;simp only[oM,di,ab];cases hs:dG p with|false=>rfl|true=>?_
 cases hz:dp z 1 128 with|false=>rfl|true=>?_
 have hz':=aX.1 hz;have hb:=AJ hs;simp only[aj,af,dL,ah,ab,cu,cT];cases hq:(p.2.2.2.2.2.2.2.2.1 !=6)||decide ((p.2.2.2.2.2.2.2.2.2.2.2.2.2.2.2.length:Int)<=z)with
 |true=>rfl
 |false=>
  simp only[af];obtain⟨m,rfl⟩:=aG (show 0<=z by omega);have hN:∀k,k<sn p.2.2.2.2.2.2.2.2.2.2.2.2.2.2.2.length m↔k*m<p.2.2.2.2.2.2.2.2.2.2.2.2.2.2.2.length:=λk=>Mq;have hcap:sn p.2.2.2.2.2.2.2.2.2.2.2.2.2.2.2.length m<=320:=by rcases ca 320 (sn p.2.2.2.2.2.2.2.2.2.2.2.2.2.2.2.length m)with h|h;have:=(hN 320).1 h;have:320*1<=320*m:=Nat.mul_le_mul_left _ (by omega);omega;exact h
  refine eV (λk=>((List.range k).map (TL p (m:Int)),(k:Int))) (sn p.2.2.2.2.2.2.2.2.2.2.2.2.2.2.2.length m) (by omega) (λk nx hk=>?_) (λnx=>?_);have hkm:=(hN k).1 hk;have hk1:(k+1)*m=k*m+m:=by rw[cO,fO]
  have e1:(k:Int)*(m:Int)=((k*m:Nat):Int):=by push_cast;rfl
  have e2:((k:Int)+1)*(m:Int)=(((k+1)*m:Nat):Int):=by push_cast;rfl
  have hsub:=X9 hkm hb;simp only[vq];rw[ak (n:=(k:Int)+1),e1,e2,ix (n:=k*m),ix (n:=(k+1)*m),lT,ah];rw[List.range_succ,cY,List.map_singleton];simp only[TL,e1,e2,ay];by_cases hc:(((k+1)*m:Nat):Int)<(p.2.2.2.2.2.2.2.2.2.2.2.2.2.2.2.length:Int);rw[au hc];rw[show min ((k+1)*m) p.2.2.2.2.2.2.2.2.2.2.2.2.2.2.2.length=(k+1)*m by omega]at hsub⊢;simp only[ah];rw[hsub,ab,jR,jR,aZ (by simp;omega)];rfl;rw[ar hc];rw[show min ((k+1)*m) p.2.2.2.2.2.2.2.2.2.2.2.2.2.2.2.length=p.2.2.2.2.2.2.2.2.2.2.2.2.2.2.2.length by omega]at hsub⊢;simp only[af];rw[hsub,ab,jR,jR,aZ (by simp;omega)];rfl;have hkm:¬sn p.2.2.2.2.2.2.2.2.2.2.2.2.2.2.2.length m*m<p.2.2.2.2.2.2.2.2.2.2.2.2.2.2.2.length:=λh=>absurd ((hN _).2 h) (Nat.lt_irrefl _);have hub:sn p.2.2.2.2.2.2.2.2.2.2.2.2.2.2.2.length m*m<=320*128:=Nat.mul_le_mul hcap (by omega);have e1:((sn p.2.2.2.2.2.2.2.2.2.2.2.2.2.2.2.length m:Nat):Int)*(m:Int)=((sn p.2.2.2.2.2.2.2.2.2.2.2.2.2.2.2.length m*m:Nat):Int):=by push_cast;rfl
  simp only[vq];rw[e1,ix,jJ];rfl
theorem Ku (p:aQ)(z:Int):(DT p z).length<=320:=by
 unfold DT;cases hs:dG p&&dp z 1 128 with|false=>exact bX _|true=>?_
 simp only[ae,aX]at hs;have hb:=AJ hs.1;cases (p.2.2.2.2.2.2.2.2.1 !=6)||decide ((p.2.2.2.2.2.2.2.2.2.2.2.2.2.2.2.length:Int)<=z)with|true=>simp only[ah,br];omega|false=>simp only[ah,af,cI,List.length_range];rcases ca 320 (sn p.2.2.2.2.2.2.2.2.2.2.2.2.2.2.2.length z.toNat)with h|h;have:=(Mq).1 h;have:320*1<=320*z.toNat:=Nat.mul_le_mul_left _ (by omega);omega;exact h
def MP (acc:bW)(p:aQ):bW:=bif (xS p).2 then acc++[(xS p).1] else acc
theorem O4 (acc:bW)(p:aQ):(MP acc p).length<=acc.length+1:=by unfold MP;cases (xS p).2<;>simp
def HP (l:ax aQ):bW:=l.foldl MP []
theorem GC:∀(l:ax aQ)(acc:bW),(l.foldl MP acc).length<=acc.length+l.length
 |[],acc=>by simp
 |p::l,acc=>by have:=GC l (MP acc p);have:=O4 acc p;simp only[List.foldl_cons,bc];omega
theorem CW:∀(l:ax aQ)(acc:bW),(∀x∈acc,x.length<=382)->∀x∈l.foldl MP acc,x.length<=382
 |[],acc,h=>h
 |p::l,acc,h=>by rw[List.foldl_cons];refine CW l _ (λx hx=>?_);unfold MP at hx;cases hf:(xS p).2 with|false=>rw[hf]at hx;exact h x hx|true=>rw[hf]at hx;simp only[ah,aw,bG]at hx;rcases hx with hx|hx;exact h x hx;rw[hx];exact LP p
theorem S2 (l:ax aQ)(h:l.length<=1000000000):vi l=some (HP l):=by
 unfold vi HP;have:=EZ (T:=mR (λ(y3:bW) (_:Int)=>some y3) l (l.length:Int)) l (λ(s:bW) i=>(s,(i:Int))) (λi s=>s.length<=i) (λp s=> .ok (MP s p)) (λs=>some s) (by omega) (λi hi s nx hI=>?hs) (λi hi s s' hI hg=>?hn) (λs nx hI=>?hf) [] (by simp)
 case hs=>
  simp only[mR]
  rw[lT,bK hi,ak (n:=(i:Int)+1)]
  simp only[ah,ab,Wy,MP]
  rw[aZ (by simp;omega)]
  cases (xS l[i]).2<;>rfl
 case hn=>cases hg;have:=O4 s l[i];omega
 case hf=>
  simp only[mR]
  rw[jJ];rfl
 rw[HT]at this;exact this
def RF (p:aQ)(z:Int):bW:=HP (DT p z)
theorem Zz (p:aQ)(z:Int):se p z=some (RF p z):=by have:=Ku p z;simp only[se,WI,S2 _ (show(DT p z).length<=1000000000 by omega),ab];rfl
theorem XV (p:aQ)(z:Int):(RF p z).length<=320/\∀x∈RF p z,x.length<=382:=by have:=Ku p z;have:=GC (DT p z) [];exact⟨by unfold RF HP;simp only[eD]at this;omega,CW _ [] (by simp)⟩
theorem BD {a:Int}(h0:0<=a:=by omega)(h:a+2<=(s.length:Int):=by omega):0<=cw s a/\cw s a<=65535:=by have h1:=fb s a.toNat;have h2:=fb s (a.toNat+1);unfold cw fH;rw[au ⟨h0,h⟩];simp only[ah];omega
theorem zB {a:Int}(h0:0<=a:=by omega)(h:a+4<=(s.length:Int):=by omega):0<=fZ s a/\fZ s a<=4294967295:=by have h1:=fb s a.toNat;have h2:=fb s (a.toNat+1);have h3:=fb s (a.toNat+2);have h4:=fb s (a.toNat+3);unfold fZ fH;rw[au ⟨h0,h⟩];simp only[ah];omega
theorem ZH {x y:Int}(hx:0<=x/\x<=65535)(hy:0<=y/\y<=4294967295):aq (BitVec.toNat (gN (aq (x*2^(mq 32)))|||gN y))=x*4294967296+y:=by have e:(2:Int)^(mq 32)=4294967296:=rfl;obtain⟨x,rfl⟩:=aG hx.1;obtain⟨y,rfl⟩:=aG hy.1;rw[e,ak (n:=(x:Int)*4294967296),show(x:Int)*4294967296=((2^32*x:Nat):Int) by omega,DM x 32 y];omega
theorem Vl {x y:Int}(hx:0<=x/\x<=65535)(hy:0<=y/\y<=4294967295):aq (aq (x*2^(mq 32))+y)=x*4294967296+y:=by have e:(2:Int)^(mq 32)=4294967296:=rfl;rw[e,ak (n:=x*4294967296),ak]
theorem xx {l:ax α}{n:Int}(h0:0<=n:=by omega)(h1:n<=(l.length:Int):=by omega):sub l 0 n=some (l.take n.toNat):=by unfold sub;rw[zip];simp
theorem uw {l:ax α}(k:Nat)(h:k<=l.length){a:Int}(ha:a=(k:Int)):sub l a (l.length:Int)=some (l.drop k):=by unfold sub;rw[zip];subst ha;simp
theorem OO {l:ax α}(k:Nat){a n:Int}(ha:a=(k:Int))(h0:a<=n:=by omega)(h1:n<=(l.length:Int):=by omega):sub l a n=some ((l.take n.toNat).drop k):=by unfold sub;rw[zip];subst ha;simp
def zW (s:Bytes):Bytes×Bool:=bif decide ((s.length:Int)<4) then([],false) else bif yP (s.take ((s.length:Int)-4).toNat)==s then(s.take ((s.length:Int)-4).toNat,true) else([],false)
theorem T5 (s:Bytes)(h:s.length<=1000000000):vB s=some (zW s):=by unfold vB zW;rw[ak (n:=(s.length:Int)-4)];by_cases h4:(s.length:Int)<4;rw[au h4];rfl;rw[ar h4,xx];simp only[af,ab,VB _ (show(s.take ((s.length:Int)-4).toNat).length<=1000000000 by rw[aS];omega)];cases yP (s.take ((s.length:Int)-4).toNat)==s<;>rfl
theorem S0 (s:Bytes)(h:s.length<=1000000000):vd s=some (zW s):=by unfold vd zW;rw[ak (n:=(s.length:Int)-4)];by_cases h4:(s.length:Int)<4;rw[au (show(s.length:Int)-4<0 by omega),au h4];rfl;rw[ar (show¬(s.length:Int)-4<0 by omega),ar h4,xx];simp only[af,ab,Vd _ (show(s.take ((s.length:Int)-4).toNat).length<=1000000000 by rw[aS];omega)];cases yP (s.take ((s.length:Int)-4).toNat)==s<;>rfl
def YV:KP:=(0,0,0,0,([]:Bytes))
def C9 (s:Bytes)(a:Int):Int:=cw s a*4294967296+fZ s (a+2)
def Dy (s:Bytes):KP:=(C9 s 0,C9 s 6,cw s 14,cw s 16,s.drop 18)
def vQ (s:Bytes):KP:=(C9 s 0,C9 s 6, -1,cw s 12,s.drop 14)
def gi (s:Bytes):KP×Bool:=bif decide ((s.length:Int)<18) then(YV,false) else
 bif cw s 12==33024 then(bif qo (Dy s) then(Dy s,true) else(YV,false)) else bif qo (vQ s) then(vQ s,true) else(YV,false)
theorem OE (s:Bytes)(h:s.length<=1000000000):vF s=some (gi s):=by unfold vF gi;by_cases h8:(s.length:Int)<18;rw[au h8];rfl;rw[ar h8];simp only[af,zQ s _ h,Gk s _ h,ab];rw[jR,jR,uw (l:=s) 14 (by omega) (show(14:Int)=((14:Nat):Int) from rfl),ab,uw (l:=s) 18 (by omega) (show(18:Int)=((18:Nat):Int) from rfl)];rw[Vl (BD (s:=s) (a:=0)) (zB (s:=s) (a:=2)),Vl (BD (s:=s) (a:=6)) (zB (s:=s) (a:=8))];simp only[ab,Gi];rw[show((cw s 0*4294967296+fZ s 2,cw s 6*4294967296+fZ s 8,cw s 14,cw s 16,s.drop 18):KP)=Dy s from rfl,show((cw s 0*4294967296+fZ s 2,cw s 6*4294967296+fZ s 8, -1,cw s 12,s.drop 14):KP)=vQ s from rfl];cases cw s 12==33024<;>cases qo (Dy s)<;>cases qo (vQ s)<;>rfl
theorem Eu (s:Bytes)(h:s.length<=1000000000):rD s=some (gi s):=by
 unfold rD gi;by_cases h4:(s.length:Int)<14;rw[au h4,au (show(s.length:Int)<18 by omega)];rfl;rw[ar h4];simp only[af,uC s _ h,xG s _ h,ab];rw[jR,jR,uw (l:=s) 14 (by omega) (show(14:Int)=((14:Nat):Int) from rfl),ab];rw[ZH (BD (s:=s) (a:=0)) (zB (s:=s) (a:=2)),ZH (BD (s:=s) (a:=6)) (zB (s:=s) (a:=8))];simp only[ab,LV];rw[show((cw s 0*4294967296+fZ s 2,cw s 6*4294967296+fZ s 8, -1,cw s 12,s.drop 14):KP)=vQ s from rfl];by_cases h8:(s.length:Int)<18;have hB:qo (vQ s)=false:=by
  unfold qo vQ;have:dp ((s.drop 14).length:Int) 46 400=false:=by rw[Bool.eq_false_iff,ne_eq,aX,aO];omega
  simp only[this,eM]
 rw[au h8,ar (show¬(s.length:Int)>=18 by omega),hB];cases cw s 12==33024<;>rfl;rw[ar h8,au (show(s.length:Int)>=18 by omega),uw (l:=s) 18 (by omega) (show(18:Int)=((18:Nat):Int) from rfl)];simp only[ab];rw[show((cw s 0*4294967296+fZ s 2,cw s 6*4294967296+fZ s 8,cw s 14,cw s 16,s.drop 18):KP)=Dy s from rfl];cases cw s 12==33024<;>cases qo (Dy s)<;>cases qo (vQ s)<;>rfl
def ip0:Ip:=(0,0,0,0,0,0,([]:Bytes))
def Ar (s:Bytes):Ip:=((bR s 1:Int),cw s 4,(bR s 8:Int),(bR s 9:Int),fZ s 12,fZ s 16,(s.take (cw s 2).toNat).drop 20)
def kU (s:Bytes):Ip×Bool:=bif decide ((s.length:Int)<20)||(decide (cw s 2<20)||decide (cw s 2>(s.length:Int))) then(ip0,false) else
 bif (O0 (Ar s)).2&&((O0 (Ar s)).1==s.take (cw s 2).toNat) then(Ar s,true) else(ip0,false)
theorem RO (s:Bytes)(h:s.length<=1000000000):xf s=some (kU s):=by
 unfold xf kU;simp only[zQ s _ h,Gk s _ h,ab];by_cases h1:(s.length:Int)<20;rw[au h1];rfl;by_cases h2:cw s 2<20;rw[ar h1,au h2];rfl;by_cases h3:cw s 2>(s.length:Int);rw[ar h1,ar h2,au h3];rfl;rw[ar h1,ar h2,ar h3];have b1:=mu (s[1]'(by omega));have b8:=mu (s[8]'(by omega));have b9:=mu (s[9]'(by omega));have i1:idx s 1=some (s[1]'(by omega)):=bK (i:=1) (by omega);have i8:idx s 8=some (s[8]'(by omega)):=bK (i:=8) (by omega);have i9:idx s 9=some (s[9]'(by omega)):=bK (i:=9) (by omega);simp only[af,ab,bQ,i1,i8,i9];rw[OO (l:=s) 20 (show(20:Int)=((20:Nat):Int) from rfl),xx,ix (n:=(s[1]'(by omega)).toNat),ix (n:=(s[8]'(by omega)).toNat),ix (n:=(s[9]'(by omega)).toNat)];have e:(((s[1]'(by omega)).toNat:Int),cw s 4,((s[8]'(by omega)).toNat:Int),((s[9]'(by omega)).toNat:Int),fZ s 12,fZ s 16,(s.take (cw s 2).toNat).drop 20)=Ar s:=by simp only[Ar,bR,cS (show 1<s.length by omega),cS (show 8<s.length by omega),cS (show 9<s.length by omega)]
 simp only[ab,e,aar];cases (O0 (Ar s)).2<;>cases (O0 (Ar s)).1==s.take (cw s 2).toNat<;>rfl
theorem Qk (s:Bytes)(h:s.length<=1000000000):wZ s=some (kU s):=by
 unfold wZ kU;simp only[uC s _ h,xG s _ h,ab];by_cases h1:(s.length:Int)<20;rw[au h1];rfl;by_cases h2:cw s 2<20;rw[ar h1,au h2];rfl;by_cases h3:cw s 2>(s.length:Int);rw[ar h1,ar h2,au h3];rfl;rw[ar h1,ar h2,ar h3];have b1:=mu (s[1]'(by omega));have b8:=mu (s[8]'(by omega));have b9:=mu (s[9]'(by omega));have i1:idx s 1=some (s[1]'(by omega)):=bK (i:=1) (by omega);have i8:idx s 8=some (s[8]'(by omega)):=bK (i:=8) (by omega);have i9:idx s 9=some (s[9]'(by omega)):=bK (i:=9) (by omega);simp only[af,ab,bQ,i1,i8,i9];rw[OO (l:=s) 20 (show(20:Int)=((20:Nat):Int) from rfl),xx,ix (n:=(s[1]'(by omega)).toNat),ix (n:=(s[8]'(by omega)).toNat),ix (n:=(s[9]'(by omega)).toNat)];have e:(((s[1]'(by omega)).toNat:Int),cw s 4,((s[8]'(by omega)).toNat:Int),((s[9]'(by omega)).toNat:Int),fZ s 12,fZ s 16,(s.take (cw s 2).toNat).drop 20)=Ar s:=by simp only[Ar,bR,cS (show 1<s.length by omega),cS (show 8<s.length by omega),cS (show 9<s.length by omega)]
 simp only[ab,e,Zs];cases (O0 (Ar s)).2<;>cases (O0 (Ar s)).1==s.take (cw s 2).toNat<;>rfl
def ahx:eR:=(0,0,0,0,0,0,0,([]:Bytes))
def Kj (k:Int)(s:Bytes):eR:=(k,cw s 0,cw s 2,fZ s 4,fZ s 8,(bR s 13:Int),cw s 14,s.drop 20)
def Oy (k:Int)(s:Bytes):eR:=(k,cw s 0,cw s 2,0,0,0,0,s.drop 8)
def qa (a b k:Int)(s:Bytes):eR×Bool:=
 bif (k==6)&&decide ((s.length:Int)>=20) then(bif (yZ a b (Kj k s)).2&&((yZ a b (Kj k s)).1==s) then(Kj k s,true) else(ahx,false)) else
 bif (k==17)&&decide ((s.length:Int)>=8) then(bif (yZ a b (Oy k s)).2&&((yZ a b (Oy k s)).1==s) then(Oy k s,true) else(ahx,false)) else(ahx,false)
theorem OF (a b k:Int)(s:Bytes)(h:s.length<=1000000000):pD a b k s=some (qa a b k s):=by
 unfold pD qa;simp only[zQ s _ h,Gk s _ h,ab];rw[show(aa (cond (k==6) (some (decide ((s.length:Int)>=20))) (some false)):(Bool->aB (eR×Bool))->aB (eR×Bool))=λK=>K ((k==6)&&decide ((s.length:Int)>=20)) from by funext K;cases k==6<;>rfl];rw[show(aa (cond (k==17) (some (decide ((s.length:Int)>=8))) (some false)):(Bool->aB (eR×Bool))->aB (eR×Bool))=λK=>K ((k==17)&&decide ((s.length:Int)>=8)) from by funext K;cases k==17<;>rfl];simp only;cases h1:(k==6)&&decide ((s.length:Int)>=20)with
 |true=>
  simp only[ae,aD]at h1;have bb:=mu (s[13]'(by omega));have i:idx s 13=some (s[13]'(by omega)):=bK (i:=13) (by omega);have e:(k,cw s 0,cw s 2,fZ s 4,fZ s 8,((s[13]'(by omega)).toNat:Int),cw s 14,s.drop 20)=Kj k s:=by simp only[Kj,bR,cS (show 13<s.length by omega)]
  simp only[ah,i,ab];rw[uw (l:=s) 20 (by omega) (show(20:Int)=((20:Nat):Int) from rfl),ix (n:=(s[13]'(by omega)).toNat)];simp only[ab,e,B4];cases (yZ a b (Kj k s)).2<;>cases (yZ a b (Kj k s)).1==s<;>rfl
 |false=>simp only[af];cases h2:(k==17)&&decide ((s.length:Int)>=8)with|false=>rfl|true=>simp only[ae,aD]at h2;rw[uw (l:=s) 8 (by omega) (show(8:Int)=((8:Nat):Int) from rfl)];simp only[ah,ab,show((k,cw s 0,cw s 2,0,0,0,0,s.drop 8):eR)=Oy k s from rfl,B4];cases (yZ a b (Oy k s)).2<;>cases (yZ a b (Oy k s)).1==s<;>rfl
theorem N6 (a b k:Int)(s:Bytes)(h:s.length<=1000000000):pq a b k s=some (qa a b k s):=by
 unfold pq qa;simp only[uC s _ h,xG s _ h,ab];rw[show(aa (cond (k==6) (some (decide ((s.length:Int)>=20))) (some false)):(Bool->aB (eR×Bool))->aB (eR×Bool))=λK=>K ((k==6)&&decide ((s.length:Int)>=20)) from by funext K;cases k==6<;>rfl];rw[show(aa (cond (k==17) (some (decide ((s.length:Int)>=8))) (some false)):(Bool->aB (eR×Bool))->aB (eR×Bool))=λK=>K ((k==17)&&decide ((s.length:Int)>=8)) from by funext K;cases k==17<;>rfl];simp only;cases h1:(k==6)&&decide ((s.length:Int)>=20)with
 |true=>
  simp only[ae,aD]at h1;have bb:=mu (s[13]'(by omega));have i:idx s 13=some (s[13]'(by omega)):=bK (i:=13) (by omega);have e:(k,cw s 0,cw s 2,fZ s 4,fZ s 8,((s[13]'(by omega)).toNat:Int),cw s 14,s.drop 20)=Kj k s:=by simp only[Kj,bR,cS (show 13<s.length by omega)]
  simp only[ah,i,ab];rw[uw (l:=s) 20 (by omega) (show(20:Int)=((20:Nat):Int) from rfl),ix (n:=(s[13]'(by omega)).toNat)];simp only[ab,e,BH];cases (yZ a b (Kj k s)).2<;>cases (yZ a b (Kj k s)).1==s<;>rfl
 |false=>simp only[af];cases h2:(k==17)&&decide ((s.length:Int)>=8)with|false=>rfl|true=>simp only[ae,aD]at h2;rw[uw (l:=s) 8 (by omega) (show(8:Int)=((8:Nat):Int) from rfl)];simp only[ah,ab,show((k,cw s 0,cw s 2,0,0,0,0,s.drop 8):eR)=Oy k s from rfl,BH];cases (yZ a b (Oy k s)).2<;>cases (yZ a b (Oy k s)).1==s<;>rfl
def pk0:aQ:=(0,0,0,0,0,0,0,0,0,0,0,0,0,0,0,([]:Bytes))
def jG (s:Bytes):aQ×Int:=
 let e:=gi s
 bif !e.2||(e.1.2.2.2.1 !=2048) then(pk0,2) else
 let i:=kU e.1.2.2.2.2
 bif !i.2 then(pk0,3) else
 let g:=qa i.1.2.2.2.2.1 i.1.2.2.2.2.2.1 i.1.2.2.2.1 i.1.2.2.2.2.2.2
 bif !g.2 then(pk0,4) else
 bif !dG (e.1.1,e.1.2.1,e.1.2.2.1,i.1.1,i.1.2.1,i.1.2.2.1,i.1.2.2.2.2.1,i.1.2.2.2.2.2.1,g.1) then(pk0,5) else
 ((e.1.1,e.1.2.1,e.1.2.2.1,i.1.1,i.1.2.1,i.1.2.2.1,i.1.2.2.2.2.1,i.1.2.2.2.2.2.1,g.1),0)
theorem Aw (s:Bytes):(gi s).1.2.2.2.2.length<=s.length:=by
 unfold gi;cases decide ((s.length:Int)<18)with|true=>simp[YV]|false=>?_
 cases cw s 12==33024<;>cases qo (Dy s)<;>cases qo (vQ s)<;>simp[YV,Dy,vQ]
theorem GW (s:Bytes):(kU s).1.2.2.2.2.2.2.length<=s.length:=by
 unfold kU;cases decide ((s.length:Int)<20)||(decide (cw s 2<20)||decide (cw s 2>(s.length:Int)))with|true=>simp[ip0]|false=>?_
 cases (O0 (Ar s)).2&&((O0 (Ar s)).1==s.take (cw s 2).toNat)with|false=>simp[ip0]|true=>simp[Ar];omega
theorem X5 (s:Bytes)(h:s.length<=1000000000):uf s=some (jG s):=by
 have h1:=Aw s;unfold uf jG;rw[OE s h,ab];generalize gi s=e at h1⊢;have h2:=GW e.1.2.2.2.2;simp only;cases e.2 with|false=>rfl|true=>?_
 cases e.1.2.2.2.1 !=2048 with|true=>rfl|false=>?_
 simp only[aj,af,ab,bQ,RO _ (show e.1.2.2.2.2.length<=1000000000 by omega)];generalize kU e.1.2.2.2.2=i at h2⊢;cases i.2 with|false=>rfl|true=>?_
 simp only[aj,af,ab,OF _ _ _ _ (show i.1.2.2.2.2.2.2.length<=1000000000 by omega)];generalize qa i.1.2.2.2.2.1 i.1.2.2.2.2.2.1 i.1.2.2.2.1 i.1.2.2.2.2.2.2=g;cases g.2 with|false=>rfl|true=>?_
 simp only[aj,af,ab,Gl];cases dG (e.1.1,e.1.2.1,e.1.2.2.1,i.1.1,i.1.2.1,i.1.2.2.1,i.1.2.2.2.2.1,i.1.2.2.2.2.2.1,g.1)<;>rfl
theorem Cx (s:Bytes)(h:s.length<=1000000000):iK s=some (jG s):=by
 have h1:=Aw s;unfold iK jG;rw[Eu s h,ab];generalize gi s=e at h1⊢;have h2:=GW e.1.2.2.2.2;simp only;cases e.2 with|false=>rfl|true=>?_
 cases e.1.2.2.2.1 !=2048 with|true=>rfl|false=>?_
 simp only[aj,af,ab,bQ,Qk _ (show e.1.2.2.2.2.length<=1000000000 by omega)];generalize kU e.1.2.2.2.2=i at h2⊢;cases i.2 with|false=>rfl|true=>?_
 simp only[aj,af,ab,N6 _ _ _ _ (show i.1.2.2.2.2.2.2.length<=1000000000 by omega)];generalize qa i.1.2.2.2.2.1 i.1.2.2.2.2.2.1 i.1.2.2.2.1 i.1.2.2.2.2.2.2=g;cases g.2 with|false=>rfl|true=>?_
 simp only[aj,af,ab,oM];cases dG (e.1.1,e.1.2.1,e.1.2.2.1,i.1.1,i.1.2.1,i.1.2.2.1,i.1.2.2.2.2.1,i.1.2.2.2.2.2.1,g.1)<;>rfl
def nD (s:Bytes):aQ×Int:=
 let c:=zW s
 bif !c.2 then(pk0,1) else
 let r:=jG c.1
 bif r.2 !=0 then(pk0,r.2) else
 bif !gF r.1 then(pk0,5) else(r.1,0)
theorem Il (s:Bytes):(zW s).1.length<=s.length:=by
 unfold zW;cases decide ((s.length:Int)<4)with|true=>simp|false=>?_
 cases yP (s.take ((s.length:Int)-4).toNat)==s with|false=>simp|true=>simp;omega
theorem X4 (s:Bytes)(h:s.length<=1000000000):ue s=some (nD s):=by
 have h1:=Il s;unfold ue nD;rw[T5 s h,ab];generalize zW s=c at h1⊢;simp only;cases c.2 with|false=>rfl|true=>?_
 simp only[aj,af,ab,X5 _ (show c.1.length<=1000000000 by omega)];generalize jG c.1=r;cases r.2 !=0 with|true=>rfl|false=>?_
 simp only[af,ab,Ko];cases gF r.1<;>rfl
theorem WC (s:Bytes)(h:s.length<=1000000000):tE s=some (nD s):=by
 have h1:=Il s;unfold tE nD;rw[S0 s h,ab];generalize zW s=c at h1⊢;simp only;cases c.2 with|false=>rfl|true=>?_
 simp only[aj,af,ab,Cx _ (show c.1.length<=1000000000 by omega)];generalize jG c.1=r;cases r.2 !=0 with|true=>rfl|false=>?_
 simp only[af,ab,Aj];cases gF r.1<;>rfl
theorem gu (a:bW)(h:a.length<=1073741824:=by omega):dx a=some a:=by simp only[dx,kB];rw[aZ (by simpa using h)];rfl
theorem Au (a:bW)(h:a.length<=1073741824:=by omega):lQ a=some a:=by simp only[lQ];rw[aZ (by simpa using h)];rfl
theorem Hw (l:bW)(h:l.length<=1000000000):kB l=some l:=by simp only[kB,ni h,cJ]
theorem Jo (f:Filter)(h:f.2.2.length<=1000000000):sk f=some f:=by simp only[sk,lr _ h,ab]
theorem Km (f:Filter)(h:f.2.2.length<=1000000000):xu f=some f:=by simp only[xu,ni h,cJ]
theorem wA (l:ax Stream)(h:l.length<=1000000000:=by omega):kA l=some l:=by simp only[kA,ni h,cJ]
theorem KX (t:ax Slot)(h:t.length<=1000000000):tK t=some t:=by simp only[tK,ni h,cJ]
theorem Jp (s:lU)(h:s.2.length<=1000000000):sm s=some s:=by simp only[sm,lr _ h,ab]
theorem KW (s:dm)(h1:s.1.length<=1000000000)(h2:s.2.1.length<=1000000000)(h3:s.2.2.2.length<=1000000000):py s=some s:=by simp only[py,ni h1,KX _ h2,Jp _ h3,ab,cJ]
theorem Dg (t:ax Slot)(h:t.length<=1000000000):uk t=some t:=by simp only[uk,ni h,cJ]
theorem Lc (s:dm)(h1:s.1.length<=1000000000)(h2:s.2.1.length<=1000000000)(h3:s.2.2.2.length<=1000000000):xp s=some s:=by simp only[xp,ni h1,Dg _ h2,ni h3,ab,cJ]
theorem XZ (l:ax nG)(i:Nat)(hi:i<l.length):l.take i++[(l[i].1,l[i].2.1,l[i].2.2)]=l.take (i+1):=(cb hi).symm
theorem Ep (l:ax nG)(h:l.length<=1000000000)(hx:∀x∈l,x.2.2.length<=1000000000):rH l=some l:=by unfold rH;refine(eV (λi=>(l.take i,(i:Int))) l.length (by omega) (λi nx hi=>?_) (λnx=>?_));simp only[qJ];rw[lT,bK hi,ak];simp only[ah,ab,lr _ (hx _ (bz hi))];rw[aZ (by simp;omega),XZ l i hi];rfl;simp only[qJ];rw[jJ,eS];rfl
structure abM (t:dZ):Prop where
 p:t.2.1.2.2.2.length<=1000000000
 w:t.2.2.1.length<=1000000000
 x:∀x∈t.2.2.1,x.2.2.length<=1000000000
theorem DF (t:dZ)(z:abM t):pS t=some t:=by simp only[pS,sM _ z.p,Ep _ z.w z.x,ab]
theorem akW (z:dw 1000000000 dY h):abM h.2.2.1:=⟨z.2.2.1.2.1.2.2.2.1,z.2.2.1.2.2.1.1,λx hx=>(z.2.2.1.2.2.1.2 x hx).2.2.1⟩
theorem lA (h:Host)(z:dw 1000000000 dY h):hY h=some h:=by have hp:h.2.2.2.2.1.length<=1000000000:=z.2.2.2.2.1.1;have hm:h.1.length<=1000000000:=z.1.1;unfold hY;simp only[gu _ (show h.1.length<=1073741824 by omega),tJ,ni z.2.1.1,DF _ (akW z),ni z.2.2.2.1.1,ab,cJ];refine(eV (λi=>((i:Int),h.1,h.2.1,h.2.2.1,h.2.2.2.1,h.2.2.2.2.1.take i,h.2.2.2.2.2)) h.2.2.2.2.1.length (by omega) (λi nx hi=>?_) (λnx=>?_));simp only[qI];rw[lT,bK hi,ak];simp only[ah,ab,sM _ (z.2.2.2.2.1.2 _ (bz hi)).2.2.2.1];rw[aZ (by simp;omega),<-cb hi];rfl;simp only[qI];rw[jJ,eS];simp only[af,ni z.2.2.2.2.2.1.1,ni z.2.2.2.2.2.2.1.1,Jo _ z.2.2.2.2.2.2.2.1.2.2.1,KW _ z.2.2.2.2.2.2.2.2.1.1.1 z.2.2.2.2.2.2.2.2.1.2.1.1 z.2.2.2.2.2.2.2.2.1.2.2.2.1,wA _ z.2.2.2.2.2.2.2.2.2.1.1,Hw _ z.2.2.2.2.2.2.2.2.2.2.2.1.1,lr _ z.2.2.2.2.2.2.2.2.2.2.2.2.1.1,lr _ z.2.2.2.2.2.2.2.2.2.2.2.2.2.1.1,ab,cJ]
theorem UD:∀l:ax nG,(bD l).length<=Sf (.sl jq) l
 |[]=>by simp[bD]
 |x::l=>by have:=UD l;simp only[bD,Sf,List.flatMap_cons,ai,cU,List.sum_cons,bc]at this⊢;omega
def atF (f:CL)(s:Stream):Bool:=decide (s.1=f)
def RU (l:ax Stream)(f:CL):Int:=match l.findIdx? (atF f)with|some i=>(i:Int)|none=> -1
theorem aau (l:ax Stream)(f:CL)(h:l.length<=1000000000):qQ l f=some (RU l f):=by
 unfold qQ RU;rw[Cp (p:=atF f) (hit:=λi=>some i) (fin:=some (-1)) l (by omega) (λi hi nx=>?hs) (λnx=>?hf)]
 case hs=>
  simp only[mH]
  rw[lT,bK hi,ak]
  simp only[ah,ab,Eh,atF];rfl
 case hf=>
  simp only[mH]
  rw[jJ];rfl
 cases l.findIdx? (atF f)<;>rfl
theorem ZA (l:ax Stream)(f:CL)(h:l.length<=1000000000):qB l f=some (RU l f):=by
 unfold qB RU;rw[Cp (p:=atF f) (hit:=λi=>some i) (fin:=some (-1)) l (by omega) (λi hi nx=>?hs) (λnx=>?hf)]
 case hs=>
  simp only[my]
  rw[lT,bK hi,ak]
  simp only[ah,ab,Eh,atF];rfl
 case hf=>
  simp only[my]
  rw[jJ];rfl
 cases l.findIdx? (atF f)<;>rfl
def Uj:Stream:=((0,0,0,0,0),0,([]:Bytes),false)
def body (p:aQ):Bytes:=p.2.2.2.2.2.2.2.2.2.2.2.2.2.2.2
def udp (p:aQ):Bytes:=bV ((body p).length:Int)++body p
def CO (p:aQ)(b:Int):Bool:=aq (BitVec.toNat (gN p.2.2.2.2.2.2.2.2.2.2.2.2.2.1&&&gN b)) !=0
def wv (s:Stream)(p:aQ):Int:=(s.2.1-p.2.2.2.2.2.2.2.2.2.2.2.1)%4294967296
def ahA (s:Stream)(p:aQ):Stream:=(s.1,(s.2.1+((body p).length:Int)-wv s p)%4294967296,s.2.2.1++(body p).drop (wv s p).toNat,CO p 1)
def Bv (l:ax Stream)(p:aQ):ax Stream:=
 bif !dG p then l else
 match l.findIdx? (atF (jM p))with
 |none=>
  bif p.2.2.2.2.2.2.2.2.1==17 then l++[(jM p,0,udp p,false)] else
  bif CO p 2 then l++[(jM p,Int.tmod (aq (p.2.2.2.2.2.2.2.2.2.2.2.1+1)) 4294967296,([]:Bytes),false)] else l
 |some i=>
  bif p.2.2.2.2.2.2.2.2.1==17 then l.set i ((l.getD i Uj).1,(l.getD i Uj).2.1,(l.getD i Uj).2.2.1++udp p,(l.getD i Uj).2.2.2) else
  bif CO p 2 then l else
  bif (l.getD i Uj).2.2.2||CO p 4 then l else
  bif decide (wv (l.getD i Uj) p<=((body p).length:Int)) then l.set i (ahA (l.getD i Uj) p) else l
theorem YF (s:Stream)(p:aQ):0<=wv s p/\wv s p<4294967296:=by unfold wv;omega
theorem agV (x:Int):aq (BitVec.toNat (gN x&&&gN 4294967295))=x%4294967296:=by have:=Bm x 32;rw[show((2:Int)^32-1)=4294967295 from rfl,show((2:Int)^32)=4294967296 from rfl]at this;rw[this,ak]
theorem ad9 (x:Int):aq x%4294967296=x%4294967296:=by have:=zS x 32;rwa[show((2:Int)^32)=4294967296 from rfl]at this
theorem OA (l:ax α)(x y:α):(l++[x]).set l.length y=l++[y]:=by rw[List.set_append_right _ _ (aR _),lf,List.set_cons_zero]
theorem ab9 {l:ax α}(h:i<l.length)(x:α):idx (l.set i x) (i:Int)=some x:=by rw[N1,bw h]
theorem En (l:ax α)(x:α):idx (l++[x]) (l.length:Int)=some x:=by rw[N1,bt (aR _),lf];rfl
theorem Pd (h:dG p=true):(body p).length<=320:=AJ h
theorem N3 (l:ax Stream)(p:aQ)(h:dw 900000000 (.sl eG) l):wW l p=some (Bv l p):=by
 have hl:l.length<=900000000:=h.1;unfold wW Bv;simp only[wA l,oM,ab,Jr,ZA l _ (show l.length<=1000000000 by omega),kG];cases hs:dG p with|false=>rfl|true=>?_
 have hb:=Pd hs;have hw:=bL ((body p).length:Int);simp only[aj,af];rw[show p.2.2.2.2.2.2.2.2.2.2.2.2.2.2.2=body p from rfl];cases hf:l.findIdx? (atF (jM p))with
 |none=>
  have e1:RU l (jM p)= -1:=by rw[RU,hf]
  simp only[e1,show decide ((-1:Int)<0)=true from rfl,ah];cases p.2.2.2.2.2.2.2.2.1==17 with|true=>simp only[ah];rw[aZ (by simp;omega),En,ab];simp only;rw[aZ,aZ (by simp only[ai,eD];omega),ab,ay];simp only[ab,En,OA,cJ];rfl|false=>simp only[af];rw[show(aq (BitVec.toNat (gN p.2.2.2.2.2.2.2.2.2.2.2.2.2.1&&&gN 2)) !=0)=CO p 2 from rfl];cases CO p 2 with|true=>simp only[ah];rw[jR,aZ (by simp;omega)]|false=>rfl
 |some i=>
  obtain⟨hi,_⟩:=List.findIdx?_eq_some_iff_getElem.1 hf;have hd:(l[i].2.2.1).length<=900000000:=(h.2 _ (bz hi)).2.2.1;have e1:RU l (jM p)=(i:Int):=by rw[RU,hf]
  simp only[e1,ar (show¬(i:Int)<0 by omega),af,bK hi,ab,cS hi,ay];cases p.2.2.2.2.2.2.2.2.1==17 with
  |true=>simp only[ah];rw[aZ,aZ (by simp only[ai];omega)];rfl
  |false=>
   simp only[af];rw[show(aq (BitVec.toNat (gN p.2.2.2.2.2.2.2.2.2.2.2.2.2.1&&&gN 2)) !=0)=CO p 2 from rfl,show(aq (BitVec.toNat (gN p.2.2.2.2.2.2.2.2.2.2.2.2.2.1&&&gN 4)) !=0)=CO p 4 from rfl,show(aq (BitVec.toNat (gN p.2.2.2.2.2.2.2.2.2.2.2.2.2.1&&&gN 1)) !=0)=CO p 1 from rfl];cases CO p 2 with|true=>rfl|false=>?_
   simp only[af];rw[show(aa (cond l[i].2.2.2 (some true) (some (CO p 4))):(Bool->aB (ax Stream))->aB (ax Stream))=λK=>K (l[i].2.2.2||CO p 4) from by funext K;cases l[i].2.2.2<;>rfl];simp only;cases l[i].2.2.2||CO p 4 with|true=>rfl|false=>?_
   simp only[af,FW _ 4294967296,ab,ad9];rw[show(l[i].2.1-p.2.2.2.2.2.2.2.2.2.2.2.1)%4294967296=wv l[i] p from rfl];have ha:=YF l[i] p;by_cases hq:wv l[i] p<=((body p).length:Int)
   rw[au hq,uw (l:=body p) (wv l[i] p).toNat (by omega) (by omega)];simp only[ah,ab];rw[aZ (by rw[aO];omega)];simp only[ab9 hi,ab,List.set_set];refine congrArg some (congrArg (l.set i) ?_);simp only[ahA];rw[show(aq (l[i].2.1+((body p).length:Int))-wv l[i] p)%4294967296=(l[i].2.1+((body p).length:Int)-wv l[i] p)%4294967296 from by rw[Int.sub_emod,ad9,<-Int.sub_emod]];rw[ar hq];rfl
theorem NN {l:ax Stream}(h:dw n (.sl eG) l):dw (n+322) (.sl eG) (Bv l p):=by
 have h':dw (n+322) (.sl eG) l:=h.mono;unfold Bv;cases hs:dG p with|false=>exact h'|true=>?_
 have hb:=Pd hs;have hw:=bL ((body p).length:Int);have hu:(udp p).length<=322:=by simp only[udp,ai];omega
 simp only[aj,af];have app:∀x:Stream,x.2.2.1.length<=n+322->dw (n+322) (.sl eG) (l++[x]):=by intro x hx;refine⟨?_,λy hy=>?_⟩;have:l.length<=n:=h.1;simp only[ai,br];omega;rcases aw.1 hy with g|g;exact h'.2 y g;rw[bG.1 g];exact⟨⟨cC,cC,cC,cC,cC⟩,cC,hx,cC⟩
 have put:∀(i:Nat)(x:Stream),x.2.2.1.length<=n+322->dw (n+322) (.sl eG) (l.set i x):=by intro i x hx;refine⟨?_,λy hy=>?_⟩;show(l.set i x).length<=_;rw[az];exact h'.1;rcases fJ hy with g|rfl;exact h'.2 y g;exact⟨⟨cC,cC,cC,cC,cC⟩,cC,hx,cC⟩
 split;cases p.2.2.2.2.2.2.2.2.1==17 with|true=>exact app _ (show(udp p).length<=_ by omega)|false=>cases CO p 2 with|true=>exact app _ (bX _)|false=>exact h'
 rename_i i hf;obtain⟨hi,_⟩:=List.findIdx?_eq_some_iff_getElem.1 hf;have hd:(l[i].2.2.1).length<=n:=(h.2 _ (bz hi)).2.2.1;simp only[cS hi];cases p.2.2.2.2.2.2.2.2.1==17 with
 |true=>exact put _ _ (by simp only[ai];omega)
 |false=>
  cases CO p 2 with|true=>exact h'|false=>?_
  cases l[i].2.2.2||CO p 4 with|true=>exact h'|false=>?_
  cases decide (wv l[i] p<=((body p).length:Int))with|false=>exact h'|true=>exact put _ _ (by simp only[ahA,ai,aO];omega)
theorem js {y:Bytes}(h:i<x.length):bR (x++y) i=bR x i:=by unfold bR;rw[aY,aY,bf h]
theorem sL {y:Bytes}(h:x.length<=i):bR (x++y) i=bR y (i-x.length):=by unfold bR;rw[aY,aY,bt h]
theorem Pj (h:i<n):bR (x.take n) i=bR x i:=by unfold bR;rw[aY,aY,du h]
theorem lp:bR (x.drop n) i=bR x (n+i):=by unfold bR;rw[aY,aY,bJ]
theorem On {p:Bytes}(h:i<a\/a+p.length<=i:=by omega):bR (uH s (a:Int) p) i=bR s i:=by
 unfold uH fH;by_cases hw:(0:Int)<=a/\(a:Int)+(p.length:Int)<=(s.length:Int)
 rw[au hw,ah,ay];have ht:(s.take a).length=a:=by rw[aS];omega
 rcases h with h|h;rw[js (by rw[ai];omega),js (by omega),Pj h];rw[sL (by rw[ai];omega),lp,ai,ht];congr 1;omega;rw[ar hw];rfl
theorem Vr {p:Bytes}{j:Nat}(hw:a+p.length<=s.length)(hj:j<p.length:=by omega):bR (uH s (a:Int) p) (a+j)=bR p j:=by
 unfold uH fH;rw[au ⟨by omega,by omega⟩,ah,ay];have ht:(s.take a).length=a:=by rw[aS];omega
 rw[js (by rw[ai];omega),sL (by omega),ht];congr 1;omega
theorem sO:cw s (a:Int)=bif decide (a+2<=s.length) then((bR s a*256+bR s (a+1):Nat):Int) else-1:=by unfold cw fH;rw[ay,show decide ((0:Int)<=a/\(a:Int)+2<=(s.length:Int))=decide (a+2<=s.length) from decide_eq_decide.2 (by omega)]
theorem BC (hl:s.length=t.length)(h0:bR s a=bR t a)(h1:bR s (a+1)=bR t (a+1)):cw s (a:Int)=cw t (a:Int):=by rw[sO,sO,hl,h0,h1]
theorem Jd {k:Nat}:cw (s.drop k) (a:Int)=cw s ((k+a:Nat):Int):=by rw[sO,sO,lp,lp,aO,show k+(a+1)=k+a+1 by omega,show decide (a+2<=s.length-k)=decide (k+a+2<=s.length) from decide_eq_decide.2 (by omega)]
theorem Ct:fZ s (a:Int)=bif decide (a+4<=s.length) then(((bR s a*256+bR s (a+1))*65536+(bR s (a+2)*256+bR s (a+3)):Nat):Int) else-1:=by unfold fZ fH;rw[ay,show decide ((0:Int)<=a/\(a:Int)+4<=(s.length:Int))=decide (a+4<=s.length) from decide_eq_decide.2 (by omega)]
theorem Je {k:Nat}:fZ (s.drop k) (a:Int)=fZ s ((k+a:Nat):Int):=by rw[Ct,Ct,lp,lp,lp,lp,aO,show k+(a+1)=k+a+1 by omega,show k+(a+2)=k+a+2 by omega,show k+(a+3)=k+a+3 by omega,show decide (a+4<=s.length-k)=decide (k+a+4<=s.length) from decide_eq_decide.2 (by omega)]
theorem PZ (hl:s.length=t.length)(h:∀j,j<4->bR s (a+j)=bR t (a+j)):fZ s (a:Int)=fZ t (a:Int):=by rw[Ct,Ct,hl,show bR s a=bR t a from h 0 (by omega),h 1 (by omega),h 2 (by omega),h 3 (by omega)]
def dE (s:Bytes):Nat:=bif cw s 12==33024 then 18 else 14
def kt (s:Bytes):Nat:=bR s (dE s+9)
def Ks (k:Nat):Nat:=bif (k:Int)==6 then 16 else 6
def za (s:Bytes):Nat:=dE s+10
def xy (s:Bytes):Nat:=dE s+20+Ks (kt s)
theorem E8 (k:Nat):Ks k=16/\k=6\/Ks k=6/\k≠6:=by unfold Ks;by_cases h:k=6;subst h;exact .inl ⟨rfl,rfl⟩;exact .inr ⟨by rw[show((k:Int)==6)=false from by rw[bT];omega];rfl,h⟩
theorem Ib (s:Bytes):dE s=18/\(cw s 12==33024)=true\/dE s=14/\(cw s 12==33024)=false:=by unfold dE;cases cw s 12==33024 with|true=>exact .inl ⟨rfl,rfl⟩|false=>exact .inr ⟨rfl,rfl⟩
theorem FI (k:Nat)(h:k<256):fR (k:Int)=some (Ks k:Int):=by unfold fR Ks;cases (k:Int)==6<;>rfl
theorem EA (s:Bytes)(h:s.length<=1000000000):pW s=some ((za s:Int),(xy s:Int)):=by
 unfold pW;rw[uC s 12 h,ab];have hk:=fb s (dE s+9)
 have core:∀o:Nat,dE s=o->(o=18\/o=14)->(bif decide (aq ((o:Int)+9)<(s.length:Int)) then
  aa (idx s (aq ((o:Int)+9))) λx2=>aa (fR (aq ((UInt8.toNat x2:Int)))) λr3=>some (aq ((o:Int)+10),aq ((aq ((o:Int)+20))+r3))
  else aa (fR 0) λr4=>some (aq ((o:Int)+10),aq ((aq ((o:Int)+20))+r4)))=some ((za s:Int),(xy s:Int)):=by
  intro o ho h2
  have hs:=E8 (kt s)
  rw[ak (n:=(o:Int)+9),ak (n:=(o:Int)+10),ak (n:=(o:Int)+20)]
  unfold za xy
  rw[ho]
  by_cases hl:o+9<s.length
  ·obtain⟨x,hx,ex⟩:=lz hl
   rw[lT,ah,show(o:Int)+9=((o+9:Nat):Int) by omega,hx,ab,ex,ix (by rw[<-ho];omega),FI _ (by rw[<-ho];exact hk),ab,show bR s (o+9)=kt s by unfold kt;rw[ho],ak]
   congr 1
  ·have hz:kt s=0:=by unfold kt;rw[ho];exact Du
   have h0:fR 0=some (Ks 0:Int):=FI 0 (by omega)
   rw[jJ,af,h0,ab,<-hz,ak]
   congr 1
 rcases Ib s with⟨h1,h2⟩|⟨h1,h2⟩;rw[h2,ah];exact core 18 h1 (.inl rfl);rw[h2,af];exact core 14 h1 (.inr rfl)
theorem Vm {a:Int}(h:dp a 0 281474976710655=true):(W3 a).length=6:=by
 have ha:=aX.1 h;have e:W3 a=bV (Int.fdiv a (2^(mq 32)))++il (aq (BitVec.toNat (gN a&&&gN 4294967295))):=by unfold W3 iX;rw[jR];simp only[nY,qf,ab];have h1:=bL (Int.fdiv a (2^(mq 32)));have h2:=eH (aq (BitVec.toNat (gN a&&&gN 4294967295)));rw[aZ];rfl
 have e2:(2:Int)^(mq 32)=4294967296:=rfl;rw[e,ai,DZ,KN,agV,e2];rw[show dp (Int.fdiv a 4294967296) 0 65535=true from aX.2 (by rw[Int.fdiv_eq_ediv_of_nonneg _ (by omega)];omega),show dp (a%4294967296) 0 4294967295=true from aX.2 (by omega)];rfl
theorem Qa (h:dG p=true):dE (dj p).1+46<=(dj p).1.length:=by
 have hh:pb p=true:=by simp only[dG,ae]at h;exact h.1
 have hp:=Ok (WS p).1;have hi:=Cv h;unfold dj ab2 PG at hi⊢;rw[h,ah]at hi⊢;cases he:qo (p.1,p.2.1,p.2.2.1,2048,pad (WS p).1)with|false=>rw[he]at hi;cases hi|true=>?_
 simp only[ah];simp only[pb,ae]at hh;have m1:=Vm hh.1;have m2:=Vm hh.2.1;have hv:=aX.1 hh.2.2.1;have w1:(bV 33024).length=2:=rfl;have w3:(bV 2048).length=2:=rfl;generalize pad (WS p).1=bd at hp⊢;unfold LF;simp only;generalize W3 p.1=M1 at m1⊢;generalize W3 p.2.1=M2 at m2⊢;by_cases hc:p.2.2.1>=0;have w2:(bV p.2.2.1).length=2:=by rw[DZ,aX.2 (by omega)];rfl
 rw[au hc,ah];have hb:dE (((((M1++M2)++bV 33024)++bV p.2.2.1)++bV 2048)++bd)=18:=by
  unfold dE;have e12:cw (((((M1++M2)++bV 33024)++bV p.2.2.1)++bV 2048)++bd) ((12:Nat):Int)=33024:=by rw[sO,au (by simp only[ai];omega),ah];rw[js (by simp only[ai];omega),js (by simp only[ai];omega),js (by simp only[ai];omega),sL (by simp only[ai];omega)];rw[js (by simp only[ai];omega),js (by simp only[ai];omega),js (by simp only[ai];omega),sL (by simp only[ai];omega)];rw[ai,m1,m2];rfl
  rw[show(12:Int)=((12:Nat):Int) from rfl,e12];rfl
 rw[hb];simp only[ai];omega;rw[ar hc,af];have hb:dE (((M1++M2)++bV 2048)++bd)=14:=by
  unfold dE;have e12:cw (((M1++M2)++bV 2048)++bd) ((12:Nat):Int)=2048:=by rw[sO,au (by simp only[ai];omega),ah];rw[js (by simp only[ai];omega),sL (by simp only[ai];omega)];rw[js (by simp only[ai];omega),sL (by simp only[ai];omega)];rw[ai,m1,m2];rfl
  rw[show(12:Int)=((12:Nat):Int) from rfl,e12];rfl
 rw[hb];simp only[ai];omega
def lL (t:Bytes)(x y:Bytes):Bytes:=uH (uH t (za t:Int) x) (xy t:Int) y
theorem BS (t x y:Bytes):(lL t x y).length=t.length:=by unfold lL;rw[wh,wh]
def jQ (p:aQ):Bytes×Bool:=bif dG p then(lL (dj p).1 (bV 0) (bV 0),true) else([],false)
theorem Zm (h:dG p=false):dj p=([],false):=by unfold dj;rw[h];rfl
theorem L4 (p:aQ):lX p=some (jQ p):=by have hl:=uB p;have w0:=bL 0;unfold lX jQ lL;rw[Cw,ab];cases h:dG p with|false=>rw[Zm h];rfl|true=>rw[Cv h];simp only[aj,af,ah,EA _ (show(dj p).1.length<=1000000000 by omega),ab,kG,Ak _ _ _ (show(dj p).1.length<=1000000000 by omega) (show(bV 0).length<=1000000000 by omega),Ak _ _ _ (show(uH (dj p).1 (za (dj p).1:Int) (bV 0)).length<=1000000000 by rw[wh];omega) (show(bV 0).length<=1000000000 by omega)]
def AU (s t:Bytes):Prop:=s.length=t.length/\∀i,i<za t\/(za t+2<=i/\i<xy t)\/xy t+2<=i->bR s i=bR t i
theorem yg (t:Bytes):(dE t=14\/dE t=18)/\za t=dE t+10/\dE t+26<=xy t/\xy t<=dE t+36/\(xy t=dE t+36/\kt t=6\/xy t=dE t+26/\kt t≠6):=by have h1:=Ib t;have h2:=E8 (kt t);unfold za xy;omega
theorem Dd (t:Bytes){y:Bytes}(hx:x.length<=2)(hy:y.length<=2):AU (lL t x y) t:=by have:=yg t;refine⟨BS t x y,λi hi=>?_⟩;unfold lL;rw[On,On]
theorem AU.body (h:AU s t):dE s=dE t:=by have:=yg t;unfold dE;have e:cw s ((12:Nat):Int)=cw t ((12:Nat):Int):=BC h.1 (h.2 _ (by omega)) (h.2 _ (by omega));rw[show(12:Int)=((12:Nat):Int) from rfl,e]
theorem AU.kind (h:AU s t):kt s=kt t:=by have:=yg t;unfold kt;rw[h.body,h.2 _ (by omega)]
theorem AU.ahs (h:AU s t):za s=za t/\xy s=xy t:=by unfold za xy;rw[h.body,h.kind];exact⟨rfl,rfl⟩
theorem AU.akV (h:AU s t):cw s ((dE t+2:Nat):Int)=cw t ((dE t+2:Nat):Int):=by have:=yg t;exact BC h.1 (h.2 _ (by omega)) (h.2 _ (by omega))
structure TOk (t:Bytes):Prop where
 eth:(gi t).2=true
 bd:(gi t).1.2.2.2.2=t.drop (dE t)
 l1:dE t+46<=t.length
 n1:20+Ks (kt t)+2<=cw t ((dE t+2:Nat):Int)
 n2:cw t ((dE t+2:Nat):Int)<=(t.length:Int)-(dE t:Int)
theorem F5 (h:(gi s).2=true):(gi s).1.2.2.2.2=s.drop (dE s)/\18<=s.length/\46<=s.length-dE s/\s.length-dE s<=400:=by
 unfold gi at h⊢;by_cases h8:(s.length:Int)<18;rw[au h8]at h;cases h;rw[ar h8]at h⊢;simp only[af]at h⊢;rcases Ib s with⟨h1,h2⟩|⟨h1,h2⟩;rw[h2]at h⊢;simp only[ah]at h⊢;cases he:qo (Dy s)with|false=>rw[he]at h;cases h|true=>rw[h1];simp only[qo,ae,aX,Dy,aO]at he;simp only[ah,Dy];refine⟨cC,by omega,by omega,by omega⟩
 rw[h2]at h⊢;simp only[af]at h⊢;cases he:qo (vQ s)with|false=>rw[he]at h;cases h|true=>rw[h1];simp only[qo,ae,aX,vQ,aO]at he;simp only[ah,vQ];refine⟨cC,by omega,by omega,by omega⟩
theorem Ka (h:(jG s).2=0):(gi s).2=true/\(kU (gi s).1.2.2.2.2).2=true/\dG (jG s).1=true/\ (qa (kU (gi s).1.2.2.2.2).1.2.2.2.2.1 (kU (gi s).1.2.2.2.2).1.2.2.2.2.2.1 (kU (gi s).1.2.2.2.2).1.2.2.2.1 (kU (gi s).1.2.2.2.2).1.2.2.2.2.2.2).2=true:=by
 unfold jG at h⊢;simp only at h⊢;generalize gi s=e at h⊢;cases h1: !e.2||(e.1.2.2.2.1 !=2048)with|true=>rw[h1]at h;cases h|false=>?_
 rw[h1]at h;simp only[af]at h⊢;generalize kU e.1.2.2.2.2=i at h⊢;cases h2:i.2 with|false=>rw[h2]at h;cases h|true=>?_
 rw[h2]at h;simp only[aj,af]at h⊢;generalize qa i.1.2.2.2.2.1 i.1.2.2.2.2.2.1 i.1.2.2.2.1 i.1.2.2.2.2.2.2=g at h⊢;cases h3:g.2 with|false=>rw[h3]at h;cases h|true=>?_
 rw[h3]at h;simp only[aj,af]at h⊢;cases h4:dG (e.1.1,e.1.2.1,e.1.2.2.1,i.1.1,i.1.2.1,i.1.2.2.1,i.1.2.2.2.2.1,i.1.2.2.2.2.2.1,g.1)with|false=>rw[h4]at h;cases h|true=>?_
 simp only[cj,dN]at h1;exact⟨h1.1,cC,h4,cC⟩
theorem Z4 (h:(kU b).2=true):20<=cw b 2/\cw b 2<=(b.length:Int)/\(kU b).1=Ar b:=by
 unfold kU at h⊢;cases h1:decide ((b.length:Int)<20)||(decide (cw b 2<20)||decide (cw b 2>(b.length:Int)))with|true=>rw[h1]at h;cases h|false=>?_
 rw[h1]at h;simp only[af]at h⊢;cases h2:(O0 (Ar b)).2&&((O0 (Ar b)).1==b.take (cw b 2).toNat)with|false=>rw[h2]at h;cases h|true=>?_
 simp only[cj,cR]at h1;exact⟨by omega,by omega,rfl⟩
theorem XB {a b k:Int}(h:(qa a b k s).2=true):k=6/\20<=s.length\/k=17/\8<=s.length:=by unfold qa at h;cases h1:(k==6)&&decide ((s.length:Int)>=20)with|true=>simp only[ae,bq,aD]at h1;exact .inl ⟨h1.1,by omega⟩|false=>rw[h1]at h;simp only[af]at h;cases h2:(k==17)&&decide ((s.length:Int)>=8)with|true=>simp only[ae,bq,aD]at h2;exact .inr ⟨h2.1,by omega⟩|false=>rw[h2]at h;cases h
theorem Wa (hl:s.length=t.length)(h:∀i,i<18->bR s i=bR t i)(hs:(gi s).2=true):(gi t).2=true:=by
 have g16:∀a,a+2<=18->cw s ((a:Nat):Int)=cw t ((a:Nat):Int):=λa ha=>BC hl (h _ (by omega)) (h _ (by omega));have g32:∀a,a+4<=18->fZ s ((a:Nat):Int)=fZ t ((a:Nat):Int):=λa ha=>PZ hl (λj hj=>h _ (by omega));have e0:C9 s 0=C9 t 0:=by unfold C9;rw[show(0:Int)=((0:Nat):Int) from rfl,g16 0 (by omega),show((0:Nat):Int)+2=((2:Nat):Int) from rfl,g32 2 (by omega)]
 have e6:C9 s 6=C9 t 6:=by unfold C9;rw[show(6:Int)=((6:Nat):Int) from rfl,g16 6 (by omega),show((6:Nat):Int)+2=((8:Nat):Int) from rfl,g32 8 (by omega)]
 have e12:cw s 12=cw t 12:=g16 12 (by omega);have e14:cw s 14=cw t 14:=g16 14 (by omega);have e16:cw s 16=cw t 16:=g16 16 (by omega);have b1:qo (Dy s)=qo (Dy t):=by unfold qo Dy;rw[e0,e6,e14,e16];simp only[aO,hl]
 have b2:qo (vQ s)=qo (vQ t):=by unfold qo vQ;rw[e0,e6,e12];simp only[aO,hl]
 unfold gi at hs⊢;rw[hl,e12,b1,b2]at hs;cases h8:decide ((t.length:Int)<18)with|true=>rw[h8]at hs;cases hs|false=>?_
 rw[h8]at hs;cases h12:cw t 12==33024 with
 |true=>rw[h12]at hs;cases hb:qo (Dy t)with|true=>rfl|false=>rw[hb]at hs;cases hs
 |false=>rw[h12]at hs;cases hb:qo (vQ t)with|true=>rfl|false=>rw[hb]at hs;cases hs
theorem ahB (ha:AU s t)(h:(jG s).2=0):TOk t:=by
 have hp:=yg t;obtain⟨h1,h2,_,h4⟩:=Ka h;have he:=F5 h1;rw[he.1]at h2 h4;have hi:=Z4 h2;have hs:=XB h4;rw[hi.2.2]at hs;have e1:(gi t).2=true:=Wa ha.1 (λi hi=>ha.2 i (by omega)) h1;have e2:=F5 e1;have en:cw (s.drop (dE s)) 2=cw t ((dE t+2:Nat):Int):=by have:cw (s.drop (dE s)) ((2:Nat):Int)=cw s ((dE s+2:Nat):Int):=Jd;rw[show(2:Int)=((2:Nat):Int) from rfl,this,ha.body,ha.akV]
 have ek:(Ar (s.drop (dE s))).2.2.2.1=(kt t:Int):=by show(bR (s.drop (dE s)) 9:Int)=_;rw[lp,<-ha.kind];rfl
 have eg:(Ar (s.drop (dE s))).2.2.2.2.2.2.length=(cw t ((dE t+2:Nat):Int)).toNat-20:=by show(((s.drop (dE s)).take (cw (s.drop (dE s)) 2).toNat).drop 20).length=_;rw[en,aO,aS];have:=hi.2.1;rw[en]at this;omega
 rw[ek,eg]at hs;rw[en]at hi;have hn:=hi.2.1;rw[aO,ha.1,ha.body]at hn;have hk:=E8 (kt t);exact⟨e1,e2.1,by omega,by omega,by omega⟩
theorem Yg (h:(jQ p).1=t)(hs:dG p=true)(ht:TOk t):cw t (za t:Int)=0/\cw t (xy t:Int)=0:=by
 unfold jQ at h;rw[hs]at h;simp only[ah]at h;have w0:(bV 0).length=2:=rfl;have ha:AU (lL (dj p).1 (bV 0) (bV 0)) (dj p).1:=Dd _ (by omega) (by omega);rw[h]at ha;have hp:=yg t;have hpl:=ha.ahs;have hl:=ht.l1;have hl2:=ha.1;have hn1:=ht.n1;have hn2:=ht.n2;have hk:=E8 (kt t);have hB:xy t+2<=t.length:=by omega
 have b0:bR (bV 0) 0=0:=rfl;have b1:bR (bV 0) 1=0:=rfl;rw[sO,sO,lT,au hB,ah,ah];have eB:∀j,j<2->bR t (xy t+j)=bR (bV 0) j:=by intro j hj;rw[<-h];unfold lL;rw[show xy (uH (uH (dj p).1 (za (dj p).1:Int) (bV 0)) (xy (dj p).1:Int) (bV 0))=xy (dj p).1 from by have:=hpl.2;rw[<-h]at this;exact this];exact Vr (by rw[wh,w0];omega)
 have eA:∀j,j<2->bR t (za t+j)=bR (bV 0) j:=by intro j hj;rw[<-h];unfold lL;rw[show za (uH (uH (dj p).1 (za (dj p).1:Int) (bV 0)) (xy (dj p).1:Int) (bV 0))=za (dj p).1 from by have:=hpl.1;rw[<-h]at this;exact this];rw[On];exact Vr (by rw[w0];omega)
 have a0:=eA 0 (by omega);have a1:=eA 1 (by omega);have c0:=eB 0 (by omega);have c1:=eB 1 (by omega);rw[dQ]at a0 c0;rw[a0,a1,c0,c1,b0,b1];exact⟨rfl,rfl⟩
theorem Ih (s:Bytes):aM (dD s)=s:=by
 unfold aM dD;rw[List.map_map];conv=>rhs;rw[<-List.map_id s]
 refine List.map_congr_left λb _=>?_;simp
theorem ZB (s t:Bytes):dD (s++t)=dD s++dD t:=cY
theorem EG (s:Bytes):(dD s).length=s.length:=cI ..
theorem OP (l:ax α)(i j:Nat)(h:i<=j)(h2:j<=l.length):sub l (i:Int) (j:Int)=some ((l.drop i).take (j-i)):=by unfold sub;rw[zip];simp[List.take_drop,Nat.add_sub_cancel' h]
theorem R2 (a k:Nat):Int.tdiv (a:Int) (k:Int)=((a/k:Nat):Int):=(Int.ofNat_tdiv a k).symm
theorem Cb (a k:Nat):Int.tmod (a:Int) (k:Int)=((a%k:Nat):Int):=(Int.ofNat_tmod a k).symm
theorem mem_iff:cP m=true↔(∀x∈m,x.length=128)/\m.length<=64:=by simp only[cP,ae,aJ,bq,aD];constructor;rintro⟨h1,h2⟩;exact⟨λx hx=>by have:=h1 x hx;omega,by omega⟩;rintro⟨h1,h2⟩;exact⟨λx hx=>by have:=h1 x hx;omega,by omega⟩
theorem PO:∀{m:bW},(∀x∈m,x.length=128)->m.flatten.length=128*m.length
 |[],_=>rfl
 |x::m,h=>by have:=PO (m:=m) (λy hy=>h y (by simp[hy]));have:=h x (by simp);simp only[List.flatten_cons,ai,bc];omega
theorem LO:∀{m:bW}(_:∀x∈m,x.length=128)(p:Nat)(hp:p<m.length)(o c:Nat),o+c<=128->(m.flatten.drop (128*p+o)).take c=(m[p].drop o).take c
 |x::m,h,0,hp,o,c,ho=>by have:=h x (by simp);simp only[List.flatten_cons,List.getElem_cons_zero];rw[List.drop_append_of_le_length (by omega),List.take_append_of_le_length (by simp;omega)];simp
 |x::m,h,p+1,hp,o,c,ho=>by have hx:=h x (by simp);simp only[List.flatten_cons,List.getElem_cons_succ];rw[show 128*(p+1)+o=x.length+(128*p+o) by omega,List.drop_length_add_append];exact LO (m:=m) (λy hy=>h y (by simp[hy])) p (by simpa using hp) o c ho
def yI (m:bW)(a n:Nat):Bytes:=(m.flatten.drop a).take n
theorem Gb (h:cP m=true)(hn:a+n<=128*m.length):(yI m a n).length=n:=by have:=PO (mem_iff.1 h).1;simp only[yI,aS,aO];omega
theorem aaa (m:bW)(a n:Nat):(yI m a n).length<=n:=by simp[yI];omega
theorem XK (m:bW)(a k c:Nat):yI m a (k+c)=yI m a k++yI m (a+k) c:=by unfold yI;rw[List.take_add,fj]
theorem Kb (h:cP m=true){p:Nat}(hp:p<m.length){c:Nat}(ho:o+c<=128)(ha:a=128*p+o):(m[p].drop o).take c=yI m a c:=by subst ha;exact(LO (mem_iff.1 h).1 p hp o c ho).symm
def gV (m:bW)(a n:Int):Bool:=cP m&&decide (0<=n/\0<=a/\a+n<=128*(m.length:Int))
theorem BI (m:bW)(a n:Int)(h:m.length<=1000000000):sU m a n=some (gV m a n):=by unfold sU gV;rw[DG m h,ab,ak (n:=(m.length:Int)*128)];cases hm:cP m with|false=>rfl|true=>simp only[ah,bB];by_cases h1:n>=0;by_cases h2:n<=(m.length:Int)*128;rw[ak (n:=(m.length:Int)*128-n)];by_cases h3:a>=0;simp only[au h1,au h2,au h3,ah,ab];exact congrArg some (decide_eq_decide.2 (by omega));simp only[au h1,au h2,ar h3,ah,af,ab];exact congrArg some (jJ).symm;simp only[au h1,ar h2,ah,af,ab];exact congrArg some (jJ).symm;simp only[ar h1,af,ab];exact congrArg some (jJ).symm
theorem Ha (m:bW)(a n:Int)(h:m.length<=1000000000):nu m a n=some (gV m a n):=by unfold nu gV;rw[DQ m h,ab,ak (n:=128*(m.length:Int))];cases hm:cP m with|false=>rfl|true=>simp only[ah,bB];by_cases h1:n>=0;by_cases h3:a>=0;by_cases h2:a<=128*(m.length:Int);rw[ak (n:=128*(m.length:Int)-a)];simp only[au h1,au h2,au h3,ah,ab];exact congrArg some (decide_eq_decide.2 (by omega));simp only[au h1,ar h2,au h3,ah,af,ab];exact congrArg some (jJ).symm;simp only[au h1,ar h3,ah,af,ab];exact congrArg some (jJ).symm;simp only[ar h1,af,ab];exact congrArg some (jJ).symm
theorem Ew {R:Type}{m:bW}(hm:cP m=true)(K:Int->dC->aB R):∀(n r k a f:Nat),r<=n->n<f->a+k+r<=128*m.length->
 bm (kI K ((k+r:Nat):Int) m) f (((a+k:Nat):Int),dD (yI m a k))=K ((a+k+r:Nat):Int) (dD (yI m a (k+r)))
 |n,r,k,a,0,_,hf,_=>by omega
 |n,0,k,a,f+1,hr,hf,hb=>by rw[bm];simp only[kI,EG,Gb hm (show a+k<=128*m.length by omega),dQ];rw[jJ,af]
 |0,r+1,k,a,f+1,hr,hf,hb=>by omega
 |n+1,r+1,k,a,f+1,hr,hf,hb=>by
  have h64:=(mem_iff.1 hm).2;have hl:=Gb hm (show a+k<=128*m.length by omega);obtain⟨p,hp⟩:∃p,(a+k)/128=p:=⟨_,rfl⟩
  obtain⟨o,ho⟩:∃o,(a+k)%128=o:=⟨_,rfl⟩
  have hpo:a+k=128*p+o:=by omega
  have ho2:o<128:=by omega
  have hpl:p<m.length:=by omega
  obtain⟨c,hc⟩:∃c,min (r+1) (128-o)=c:=⟨_,rfl⟩
  have hpg:=(mem_iff.1 hm).1 _ (bz hpl);have e1:Int.tdiv ((a+k:Nat):Int) 128=(p:Int):=by rw[<-hp];exact R2 (a+k) 128
  have e2:Int.tmod ((a+k:Nat):Int) 128=(o:Int):=by rw[<-ho];exact Cb (a+k) 128
  have key:=Ew hm K n (r+1-c) (k+c) a f (by omega) (by omega) (by omega);rw[bm];simp only[kI,EG,hl,e1,e2];rw[lT,ah,jR,ak (n:=(p:Int)),bK hpl,ab,jR];rw[ak (n:=(o:Int)+((k+(r+1):Nat):Int)),ak (n:=(o:Int)+((k+(r+1):Nat):Int)-(k:Int))];rw[show(if(o:Int)+((k+(r+1):Nat):Int)-(k:Int)<128 then(o:Int)+((k+(r+1):Nat):Int)-(k:Int) else 128)=((o+c:Nat):Int) by split<;>omega];rw[OP _ _ _ (by omega) (by omega),ab,show o+c-o=c by omega,Kb hm hpl (show o+c<=128 by omega) hpo];have hl2:=Gb hm (show a+k+c<=128*m.length by omega);rw[hl2,aZ,ak,<-ZB,<-XK];rw[show((a+k:Nat):Int)+(c:Int)=((a+(k+c):Nat):Int) by omega];rw[show k+c+(r+1-c)=k+(r+1) by omega,show a+(k+c)+(r+1-c)=a+k+(r+1) by omega]at key;exact key
theorem Zx (m:bW)(a n:Int)(h:m.length<=1000000000):ou m a n=some (bif gV m a n then(yI m a.toNat n.toNat,true) else([],false)):=by have hfu:=eO;unfold ou;rw[BI m a n h,ab];cases hw:gV m a n with|false=>rfl|true=>simp only[gV,ae,aD]at hw;obtain⟨hm,h1,h2,h3⟩:=hw;have h64:=(mem_iff.1 hm).2;simp only[aj,af,ah];rw[zip,aZ];obtain⟨a,rfl⟩:=aG h2;obtain⟨n,rfl⟩:=aG h1;have:=Ew hm (λ(y4:Int) (y5:dC)=>some (aM y5,true)) n n 0 a fuel (by omega) (by omega) (by omega);rw[cD,dQ]at this;refine Eq.trans this ?_;simp only[Ih,ay]
def DK (d p:Int)(w:Bool)(x:aC):Bool:=pY d p x&&(x.2.2.2|| !w)
def pZ (l:ax aC)(d p:Int)(w:Bool):Int:=match l.findIdx? (DK d p w)with|some i=>(l.getD i Hz).2.2.1|none=> -1
theorem aat (l:ax aC)(d p:Int)(w:Bool)(h:l.length<=1000000000):xq l d p w=some (pZ l d p w):=by unfold xq pZ;refine Eq.trans (Cp (p:=DK d p w) (hit:=λi=>aa (idx l i) λx=>some x.2.2.1) (fin:=some (-1)) l (by omega) (λi hi nx=>?_) (λnx=>?_)) ?_;simp only[sE];rw[lT,bK hi,ak];simp only[ah,ab,DK,pY];cases l[i].1==d<;>cases l[i].2.1==p<;>cases l[i].2.2.2<;>cases w<;>rfl;simp only[sE];rw[jJ];rfl;cases hf:l.findIdx? (DK d p w)with|none=>rfl|some i=>obtain⟨hi,_⟩:=List.findIdx?_eq_some_iff_getElem.1 hf;simp only[bK hi,ab,cS hi]
theorem EM (h:fS l=true)(hi:i<l.length):FQ l[i]=true/\∀j (hj:j<i),pY l[i].1 l[i].2.1 (l[j]'(by omega))=false:=by simp only[fS,ae,aJ,cp]at h;have:=h.2 i hi;simp only[JK,ae,aJ,cp,cS hi,aL]at this;exact⟨this.1,λj hj=>by have:=this.2 j hj;rwa[cS (by omega)]at this⟩
theorem FP {d p:Int}{m:aC}:pY d p m=true↔m.1=d/\m.2.1=p:=by simp[pY]
theorem ZJ (h:fS l=true){d p:Int}{j:Nat}(hi:i<l.length)(hj:j<l.length)(h1:pY d p l[i]=true)(h2:pY d p l[j]=true):i=j:=by have a:=FP.1 h1;have b:=FP.1 h2;rcases Nat.lt_trichotomy i j with h3|h3|h3;have:=(EM h hj).2 i h3;rw[b.1,b.2,h1]at this;cases this;exact h3;have:=(EM h hi).2 j h3;rw[a.1,a.2,h2]at this;cases this
theorem JV (h:fS l=true)(d p:Int)(w:Bool)(h1:0<=pZ l d p w):pZ l d p w<=63/\0<=p/\p<=1023:=by unfold pZ at h1⊢;cases hf:l.findIdx? (DK d p w)with|none=>rw[hf]at h1;simp at h1|some i=>obtain⟨hi,h2,_⟩:=List.findIdx?_eq_some_iff_getElem.1 hf;have h3:=(EM h hi).1;simp only[DK,ae,FP]at h2;simp only[FQ,ae,aX]at h3;simp only[cS hi];omega
theorem WA (l:ax aC)(d:Int)(a:Nat)(w:Bool)(h:l.length<=1000000000)(hm:fS l=true)(ha:a<=9223372036854775807): Ap l d (a:Int) w=some (if 0<=pZ l d ((a/128:Nat):Int) w then pZ l d ((a/128:Nat):Int) w*128+((a%128:Nat):Int) else-1):=by
 have e1:Int.tdiv (a:Int) 128=((a/128:Nat):Int):=R2 a 128;have e2:Int.tmod (a:Int) 128=((a%128:Nat):Int):=Cb a 128;unfold Ap;rw[jJ,af,jR,e1,e2,ak,Qj l _ _ h,ab];generalize ((a/128:Nat):Int)=p;have hin:=JV hm d p w;unfold Rd;cases hf:l.findIdx? (pY d p)with
 |none=>
  have hn:pZ l d p w= -1:=by unfold pZ;rw[List.findIdx?_eq_none_iff]at hf;rw[List.findIdx?_eq_none_iff.2 (λx hx=>by rw[DK,hf x hx];rfl)]
  rw[hn];rfl
 |some i=>
  obtain⟨hi,h2,h3⟩:=List.findIdx?_eq_some_iff_getElem.1 hf;simp only;rw[jJ,bK hi];simp only[af,ab];cases hq:l[i].2.2.2|| !w with
  |true=>
   have hF:pZ l d p w=l[i].2.2.1:=by unfold pZ;rw[List.findIdx?_eq_some_iff_getElem.2 ⟨hi,by rw[DK,h2,hq];rfl,λj hj=>by have:=h3 j hj;rw[DK,Bool.eq_false_iff.2 this];simp⟩];exact congrArg (λx:aC=>x.2.2.1) (cS hi Hz)
   have h4:=(EM hm hi).1;simp only[FQ,ae,aX]at h4
   rw[hF,aH (show 0<=l[i].2.2.1 by omega),show(aa (cond w (some (!l[i].2.2.2)) (some false)) λq3=>cond q3 (some (-1:Int)) _)=_ from by
    have:(cond w (some (!l[i].2.2.2)) (some false))=some false:=by cases w<;>cases hz:l[i].2.2.2<;>rw[hz]at hq<;>first|rfl|cases hq
    rw[this,ab,af]]
   rw[aI (show¬(128:Nat)=0 by omega),ak (n:=l[i].2.2.1*128),ak]
  |false=>
   have hF:pZ l d p w= -1:=by unfold pZ;rw[List.findIdx?_eq_none_iff.2 (λx hx=>by obtain⟨j,hj,rfl⟩:=fN hx;cases hx2:pY d p l[j]with|false=>rw[DK,hx2];rfl|true=>have:=ZJ hm hi hj h2 hx2;subst this;rw[DK,hq];simp)]
   rw[hF,aI (show¬(0:Int)<= -1 by omega)];cases w with|false=>simp at hq|true=>simp only[aj,Bool.or_false]at hq;simp only[ah,hq,ab,cd]
def kj (l:ax aC)(m:bW)(d:Int)(w:Bool):Nat->Nat->Nat->aB (ax (Int×Int))
 |0,_,_=>some []
 |n+1,a,r=>if r=0 then some [] else
  if 0<=pZ l d ((a/128:Nat):Int) w/\pZ l d ((a/128:Nat):Int) w<(m.length:Int) then
   (kj l m d w n (a+min (128-a%128) r) (r-min (128-a%128) r)).map (λq=>(pZ l d ((a/128:Nat):Int) w*128+((a%128:Nat):Int),((min (128-a%128) r:Nat):Int))::q)
  else none
theorem AO (hm:cP m=true){f:Int}(h0:0<=f){c:Nat}(hc:0<c:=by omega)(ho:o+c<=128:=by omega):gV m (f*128+(o:Int)) (c:Int)=decide (f<(m.length:Int)):=by rw[gV,hm,bB];exact decide_eq_decide.2 (by omega)
theorem Sb (hm:cP m=true){f:Int}(h0:0<=f):gV m (f*128) 128=decide (f<(m.length:Int)):=by rw[gV,hm,bB];exact decide_eq_decide.2 (by omega)
theorem Ey {l:ax aC}{m:bW}(hl:fS l=true)(hL:l.length<=1000000000)(hm:cP m=true)(d:Int)(w:Bool):∀(n a r f:Nat)(acc:ax (Int×Int)),r<=n->n<f->acc.length+n<=1000000->a<=9223372036854775807->
 bm (pT (λ(y9:Int) (y10:Int) (y11:ax (Int×Int))=>some (y11,true)) (λ(y12:Int) (y13:Int) (y14:ax (Int×Int)) (y15:Bool) (y16:ax (Int×Int))=>some (y14,y15)) l d w ([]:ax (Int×Int)) false m) f ((a:Int),(r:Int),acc)
  =match kj l m d w n a r with|some q=>some (acc++q,true)|none=>some ([],false)
 |n,a,r,0,acc,_,hf,_,_=>by omega
 |0,a,r,f+1,acc,hr,hf,hA,ha=>by rw[bm];simp only[pT];rw[jJ];simp[kj]
 |n+1,a,r,f+1,acc,hr,hf,hA,ha=>by
  have h64:=(mem_iff.1 hm).2;rw[bm];simp only[pT,kj];by_cases h0:r=0;rw[jJ,aH h0];simp;have e2:Int.tmod (a:Int) 128=((a%128:Nat):Int):=Cb a 128;have hin:=JV hl d ((a/128:Nat):Int) w;rw[lT,aI h0,WA l d a w hL hl ha,ab,jR,e2,ak (n:=128-((a%128:Nat):Int))];obtain⟨c,hc⟩:∃c,min (128-a%128) r=c:=⟨_,rfl⟩
  rw[hc,show(if 128-((a%128:Nat):Int)<(r:Int) then 128-((a%128:Nat):Int) else(r:Int))=(c:Int) by split<;>omega];generalize hP:pZ l d ((a/128:Nat):Int) w=P at hin⊢;by_cases hP0:0<=P;have hin:=hin hP0;simp only[aH hP0,ah];rw[ar (show¬P*128+((a%128:Nat):Int)<0 by omega),BI m _ _ (by omega),AO hm hP0];simp only[af,ab];by_cases hP1:P<(m.length:Int);rw[au hP1,aH ⟨hP0,hP1⟩];simp only[aj,af];rw[aZ (by simp;omega),ak (n:=(a:Int)+(c:Int)),ak (n:=(r:Int)-(c:Int)),ar (show¬(a:Int)+(c:Int)<0 by omega)];simp only[af,ab];have key:=Ey hl hL hm d w n (a+c) (r-c) f (acc++[(P*128+((a%128:Nat):Int),(c:Int))]) (by omega) (by omega) (by simp;omega) (by omega);rw[show((a+c:Nat):Int)=(a:Int)+(c:Int) by omega,show((r-c:Nat):Int)=(r:Int)-(c:Int) by omega]at key;rw[key];cases kj l m d w n (a+c) (r-c)with|none=>rfl|some q=>simp
  rw[ar hP1,jR];rfl;simp only[aI hP0,ah];rw[jR,lT];rfl
theorem E7 {l:ax aC}{m:bW}(hl:fS l=true)(hL:l.length<=1000000000)(hm:cP m=true)(d:Int)(w:Bool):∀(n a r f:Nat)(acc:ax (Int×Int)),r<=n->n<f->acc.length+n<=1000000->a<=9223372036854775807->
 bm (kC (λ(y10:Int) (y11:Int) (y12:dC) (y13:dC)=>some (y12,y13,true)) (λ(y14:Int) (y15:Int) (y16:dC) (y17:dC) (y18:Bool) (y19:dC) (y20:dC)=>some (y16,y17,y18)) l d w ([]:dC) ([]:dC) false m) f ((a:Int),(r:Int),acc.map (·.1),acc.map (·.2))
  =match kj l m d w n a r with|some q=>some ((acc++q).map (·.1),(acc++q).map (·.2),true)|none=>some ([],[],false)
 |n,a,r,0,acc,_,hf,_,_=>by omega
 |0,a,r,f+1,acc,hr,hf,hA,ha=>by rw[bm];simp only[kC];rw[jJ];simp[kj]
 |n+1,a,r,f+1,acc,hr,hf,hA,ha=>by
  have h64:=(mem_iff.1 hm).2;rw[bm];simp only[kC,kj];by_cases h0:r=0;rw[jJ,aH h0];simp;have e1:Int.tdiv (a:Int) 128=((a/128:Nat):Int):=R2 a 128;have e2:Int.tmod (a:Int) 128=((a%128:Nat):Int):=Cb a 128;have hin:=JV hl d ((a/128:Nat):Int) w;rw[au (show(r:Int)>0 by omega),au (show(a:Int)>=0 by omega),aI h0];simp only[ah];rw[jR,e1,e2,ak (n:=((a/128:Nat):Int)),aat l _ _ w hL,ab,jR,ak (n:=128-((a%128:Nat):Int))];obtain⟨c,hc⟩:∃c,min (128-a%128) r=c:=⟨_,rfl⟩
  rw[hc,show(if 128-((a%128:Nat):Int)<(r:Int) then 128-((a%128:Nat):Int) else(r:Int))=(c:Int) by split<;>omega];generalize hP:pZ l d ((a/128:Nat):Int) w=P at hin⊢;by_cases hP0:0<=P;have hin:=hin hP0;rw[ar (show¬P<0 by omega),ak (n:=P*128),Ha m _ _ (by omega),Sb hm hP0];simp only[af,ab];by_cases hP1:P<(m.length:Int);rw[au hP1,aH ⟨hP0,hP1⟩];simp only[aj,af];rw[aZ (by simp;omega),aZ (by simp;omega),ak (n:=P*128+((a%128:Nat):Int)),ak (n:=(a:Int)+(c:Int)),ak (n:=(r:Int)-(c:Int))];have key:=E7 hl hL hm d w n (a+c) (r-c) f (acc++[(P*128+((a%128:Nat):Int),(c:Int))]) (by omega) (by omega) (by simp;omega) (by omega);rw[show((a+c:Nat):Int)=(a:Int)+(c:Int) by omega,show((r-c:Nat):Int)=(r:Int)-(c:Int) by omega,cY,cY]at key;refine Eq.trans key ?_;cases kj l m d w n (a+c) (r-c)with|none=>rfl|some q=>simp
  rw[ar hP1,jR];rfl;rw[jR,lT];rfl
def jZ (l:ax aC)(m:bW)(d a n:Int)(w:Bool):ax (Int×Int)×Bool:=
 bif fS l&&(cP m&&dp n 0 4096) then
  (bif n==0 then([],true) else bif decide (a<0) then([],false) else match kj l m d w n.toNat a.toNat n.toNat with|some q=>(q,true)|none=>([],false))
 else([],false)
theorem Qn (l:ax aC)(m:bW)(d a n:Int)(w:Bool)(hl:l.length<=1000000000)(hm:m.length<=1000000000)(ha:a<=9223372036854775807):vY l m d a n w=some (jZ l m d a n w):=by
 have hfu:=eO;unfold vY jZ;simp only[Et l hl,DG m hm,di,ab];cases hB:fS l with|false=>rfl|true=>?_
 cases hM:cP m with|false=>rfl|true=>?_
 cases hN:dp n 0 4096 with|false=>rfl|true=>?_
 have hn:=aX.1 hN;simp only[aj,af,ab,dL,ah];cases h0:n==0 with|true=>rfl|false=>?_
 by_cases hA:a<0;rw[au hA];rfl;rw[ar hA];simp only[af];obtain⟨a,rfl⟩:=aG (show 0<=a by omega);obtain⟨n,rfl⟩:=aG hn.1;rw[Ey hB hl hM d w n a n fuel [] (by omega) (by omega) (by simp;omega) (by omega)];simp only[ay];cases kj l m d w n a n<;>rfl
theorem X3 (l:ax aC)(m:bW)(d a n:Int)(w:Bool)(hl:l.length<=1000000000)(hm:m.length<=1000000000)(ha:a<=9223372036854775807):vK l m d a n w=some ((jZ l m d a n w).1.map (·.1),(jZ l m d a n w).1.map (·.2),(jZ l m d a n w).2):=by
 have hfu:=eO;unfold vK jZ;simp only[OD l hl,DQ m hm,eI,ab];cases hB:fS l with|false=>rfl|true=>?_
 cases hM:cP m with|false=>rfl|true=>?_
 cases hN:dp n 0 4096 with|false=>rfl|true=>?_
 have hn:=aX.1 hN;simp only[aj,af,ab,dL,ah];obtain⟨n,rfl⟩:=aG hn.1;cases h0:((n:Int)==0)with
 |true=>
  have:n=0:=by simpa using h0
  subst this;obtain⟨f,hf⟩:∃f,fuel=f+1:=⟨fuel-1,by omega⟩
  rw[hf,bm];rfl
 |false=>
  have hn0:n≠0:=by simpa using h0
  by_cases hA:a<0;obtain⟨f,hf⟩:∃f,fuel=f+1:=⟨fuel-1,by omega⟩
  rw[au hA,hf,bm];simp only[kC];rw[lT,jJ];rfl;rw[ar hA];simp only[af];obtain⟨a,rfl⟩:=aG (show 0<=a by omega);refine Eq.trans (E7 hB hl hM d w n a n fuel [] (by omega) (by omega) (by simp;omega) (by omega)) ?_;simp only[ay];cases kj l m d w n a n<;>rfl
def wO (x:Bytes)(o:Nat)(t:Bytes):Bytes:=x.take o++(t++x.drop (o+t.length))
theorem Ml (h:o+t.length<=x.length):(wO x o t).length=x.length:=by simp only[wO,ai,aS,aO];omega
theorem Xz (x:Bytes)(o:Nat)(t:Bytes):aM (zL (dD x) o (dD t))=wO x o t:=by
 have e:zL (dD x) o (dD t)=dD (wO x o t):=by simp only[zL,wO,dD,cY,List.map_take,List.map_drop,cI]
 rw[e,Ih]
theorem Z7 (h:o+t.length<=x.length):uH x (o:Int) t=wO x o t:=by unfold uH fH;rw[au ⟨by omega,by omega⟩];simp only[ah,ay,wO,aN]
def ux:Nat->bW->Nat->Bytes->bW
 |0,m,_,_=>m
 |n+1,m,a,s=>if s.length=0 then m else
  ux n (m.set (a/128) (wO (m.getD (a/128) []) (a%128) (s.take (128-a%128)))) (a+min (128-a%128) s.length) (s.drop (128-a%128))
def Av (m:bW):Prop:=(∀x∈m,x.length=128)/\m.length<=64
theorem nf:cP m=true↔Av m:=mem_iff
theorem F4 {p:Nat}(h:Av m)(hx:x.length=128):Av (m.set p x):=by refine⟨λy hy=>?_,by rw[az];exact h.2⟩;rcases fJ hy with g|g;exact h.1 y g;rw[g];exact hx
theorem D0 (h:Av m)(hs:s.length≠0)(ha:a+s.length<=128*m.length): ∃(hp:a/128<m.length),(m[a/128]'hp).length=128/\(wO (m[a/128]'hp) (a%128) (s.take (128-a%128))).length=128:=by
 have hp:a/128<m.length:=by omega
 have hl:=h.1 _ (bz hp);refine⟨hp,hl,?_⟩;rw[Ml (by rw[aS,hl];omega),hl]
theorem xC:∀(n:Nat){m:bW}{a:Nat}{s:Bytes},Av m->a+s.length<=128*m.length->Av (ux n m a s)/\(ux n m a s).length=m.length
 |0,m,a,s,h,_=>⟨h,rfl⟩
 |n+1,m,a,s,h,ha=>by rw[ux];split;exact⟨h,rfl⟩;rename_i hs;obtain⟨hp,hl,ho⟩:=D0 h hs ha;rw[cS hp];have:=xC n (m:=m.set (a/128) (wO m[a/128] (a%128) (s.take (128-a%128)))) (a:=a+min (128-a%128) s.length) (s:=s.drop (128-a%128)) (F4 h ho) (by rw[az,aO];omega);rw[az]at this;exact this
theorem C6 {R:Type}(K:Int->Bytes->bW->aB R)(K':bW->aB R)(hK:∀a m,K a [] m=K' m):∀(n:Nat)(m:bW)(a:Nat)(s:Bytes)(f:Nat),s.length<=n->n<f->Av m->a+s.length<=128*m.length->
 bm (mA K ([]:bW)) f ((a:Int),s,m)=K' (ux n m a s)
 |n,m,a,s,0,_,hf,_,_=>by omega
 |n,m,a,s,f+1,hs,hf,hm,ha=>by
  rw[bm];simp only[mA];by_cases h0:s.length=0;have:s=[]:=bS h0;subst this;rw[ar (by simp),af,hK];cases n<;>simp[ux];cases n with
  |zero=>omega
  |succ n=>
   obtain⟨hp,hl,ho⟩:=D0 hm h0 ha;have h64:=hm.2;have e1:Int.tdiv (a:Int) 128=((a/128:Nat):Int):=R2 a 128;have e2:Int.tmod (a:Int) 128=((a%128:Nat):Int):=Cb a 128;rw[lT,ah,jR,e1,e2,ak (n:=((a/128:Nat):Int)),bK hp,ab,aZ,jR];have hsub:sub (dD m[a/128]) ((a%128:Nat):Int) ((dD m[a/128]).length:Int)=some ((dD m[a/128]).drop (a%128)):=by rw[OP _ _ _ (by rw[EG];omega) (aR _),bP (by rw[aO];exact aR _)]
   rw[hsub,ab,jR,ab,ab];have hd:((dD m[a/128]).drop (a%128)).length=128-a%128:=by rw[aO,EG,hl]
   rw[hd];have hdr:s.drop (min (128-a%128) s.length)=s.drop (128-a%128):=by by_cases h3:128-a%128<=s.length;rw[ig h3];rw[Nat.min_eq_right (by omega),cq (aR _),cq (by omega)]
   have hsub2:sub s (((min (128-a%128) s.length:Nat)):Int) ((s.length:Int))=some (s.drop (128-a%128)):=by rw[<-hdr];unfold sub;rw[zip];simp
   rw[hsub2,ab,ak (n:=(a:Int)+((min (128-a%128) s.length:Nat):Int)),ay,ay,Xz];rw[ux,aI h0,cS hp,show(a:Int)+((min (128-a%128) s.length:Nat):Int)=((a+min (128-a%128) s.length:Nat):Int) by omega];exact C6 K K' hK n _ _ _ f (by rw[aO];omega) (by omega) (F4 hm ho) (by rw[az,aO];omega)
theorem Dh {R:Type}(K:Int->Bytes->bW->aB R)(K':bW->aB R)(hK:∀a m,K a [] m=K' m):∀(n:Nat)(m:bW)(a:Nat)(s:Bytes)(f:Nat),s.length<=n->n<f->Av m->a+s.length<=128*m.length->
 bm (mI K ([]:bW)) f ((a:Int),s,m)=K' (ux n m a s)
 |n,m,a,s,0,_,hf,_,_=>by omega
 |n,m,a,s,f+1,hs,hf,hm,ha=>by
  rw[bm];simp only[mI];by_cases h0:s.length=0;have:s=[]:=bS h0;subst this;rw[ar (by simp),af,hK];cases n<;>simp[ux];cases n with
  |zero=>omega
  |succ n=>
   obtain⟨hp,hl,ho⟩:=D0 hm h0 ha;have h64:=hm.2;have e1:Int.tdiv (a:Int) 128=((a/128:Nat):Int):=R2 a 128;have e2:Int.tmod (a:Int) 128=((a%128:Nat):Int):=Cb a 128;rw[lT,ah,jR,jR,jR,e1,e2,ak (n:=((a/128:Nat):Int)),ak (n:=128-((a%128:Nat):Int)),bK hp,ab];obtain⟨c,hc⟩:∃c,min (128-a%128) s.length=c:=⟨_,rfl⟩
   rw[show(if 128-((a%128:Nat):Int)<(s.length:Int) then 128-((a%128:Nat):Int) else(s.length:Int))=(c:Int) by split<;>omega];have ht:s.take c=s.take (128-a%128):=by by_cases h3:128-a%128<=s.length;rw[<-hc,ig h3];rw[<-hc,Nat.min_eq_right (by omega),bP (aR _),bP (by omega)]
   have hdr:s.drop c=s.drop (128-a%128):=by by_cases h3:128-a%128<=s.length;rw[<-hc,ig h3];rw[<-hc,Nat.min_eq_right (by omega),cq (aR _),cq (by omega)]
   have hs1:sub s 0 (c:Int)=some (s.take (128-a%128)):=by rw[<-ht];unfold sub;rw[zip];simp
   have hs2:sub s (c:Int) (s.length:Int)=some (s.drop (128-a%128)):=by rw[<-hdr];unfold sub;rw[zip];simp
   rw[hs1,ab,E6 _ _ _,ab,ab,ab,hs2,ab,Z7 (by rw[aS,hl];omega),ak (n:=(a:Int)+(c:Int)),ay];rw[ux,aI h0,cS hp,hc,show(a:Int)+(c:Int)=((a+c:Nat):Int) by omega];exact Dh K K' hK n _ _ _ f (by rw[aO];omega) (by omega) (F4 hm ho) (by rw[az,aO];omega)
def lS (m:bW)(a:Int)(s:Bytes):bW×Bool:=bif gV m a (s.length:Int) then(ux s.length m a.toNat s,true) else(m,false)
theorem Tc (m:bW)(a:Int)(s:Bytes)(h:m.length<=1000000000)(hs:s.length<=1000000000):qG m a s=some (lS m a s):=by
 have hfu:=eO;unfold qG lS;rw[gu m,ab,BI m _ _ h,ab];cases hw:gV m a (s.length:Int)with|false=>rfl|true=>?_
 simp only[gV,ae,aD]at hw;obtain⟨a,rfl⟩:=aG hw.2.2.1;simp only[aj,af,ah,ay];exact C6 _ (λm=>some (m,true)) (λ_ _=>rfl) s.length m a s fuel (aR _) (by omega) (nf.1 hw.1) (by omega)
theorem Ua (m:bW)(a:Int)(s:Bytes)(h:m.length<=1000000000)(hs:s.length<=1000000000):qT m a s=some (lS m a s):=by
 have hfu:=eO;unfold qT lS;rw[Au m,ab,Ha m _ _ h,ab];cases hw:gV m a (s.length:Int)with|false=>rfl|true=>?_
 simp only[gV,ae,aD]at hw;obtain⟨a,rfl⟩:=aG hw.2.2.1;simp only[aj,af,ah,ay];exact Dh _ (λm=>some (m,true)) (λ_ _=>rfl) s.length m a s fuel (aR _) (by omega) (nf.1 hw.1) (by omega)
end
end Go.Pu
