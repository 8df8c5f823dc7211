import Derived.Test.YtinkcmefgciifaaGreatDnData
import Derived.Test.YtinkcmefgciifaaGreatPure
namespace Go.Pu
open Go.Dn
open List (range)
open BitVec (toNat)
open Int (fdiv tmod)
set_option linter.unusedSimpArgs false
set_option linter.unusedVariables false
noncomputable section
variable {b s t x:Bytes} {h:Host} {f:Int->ay Int} {a c i n o:Nat} {p:aP} {R X α σ:Type} {l:ax aB} {m:bR}
/- Plain laws of the partial operations and of loops. -/
theorem ak {n:Int}(h1: -9223372036854775808<=n:=by omega)(h2:n<=9223372036854775807:=by omega):ar n=n:=by simp only[ar,gb,IntKind.wrap,IntKind.bits,IntKind.signed];simp;omega
@[simp] theorem ab (a:α)(k:α->ay R):aa (some a) k=k a:=rfl
@[simp] theorem ahl (k:α->ay R):aa none k=none:=rfl
@[simp] theorem BQ (c:Bool)(x y:α)(k:α->ay R):aa (cond c (some x) (some y)) k=k (cond c x y):=by cases c<;>rfl
theorem bP (c:Bool)(x y:α):cond c (some x) (some y)=some (cond c x y):=by cases c<;>rfl
theorem aX {k:ay R}(h:n<=1073741824:=by omega):room n k=k:=by simp[room,h]
theorem JO (xs:ax α)(i:Nat):idx xs (i:Int)=xs[i]?:=rfl
theorem bl {xs:ax α}(h:i<xs.length):idx xs (i:Int)=some xs[i]:=by rw[JO];exact aq h
def upK (step:Nat->σ->(σ->ay R)->ay R)(fin:σ->ay R)(N:Nat):Nat->Nat->σ->ay R
 |0,_,s=>fin s
 |n+1,i,s=>step i s (λs'=>upK step fin N n (i+1) s')
theorem Gl {T:(X->ay R)->X->ay R}(N:Nat)(e:σ->Nat->X)(step:Nat->σ->(σ->ay R)->ay R)(fin:σ->ay R)(hs:∀i s nx,i<N->T nx (e s i)=step i s (λs'=>nx (e s' (i+1))))(hf:∀s nx,T nx (e s N)=fin s): ∀n i s,i<=N->N-i<n->ba T n (e s i)=upK step fin N (N-i) i s:=by
 intro n;induction n with
 |zero=>intro i s _ h;omega
 |succ n ih=>
  intro i s hi hn;rw[ba];rcases cd i N with gY|yZ;rw[hs i s _ gY,show N-i=(N-(i+1))+1 by omega,upK];congr 1;funext s';exact ih (i+1) s' (by omega) (by omega);have:i=N:=by omega
  subst this;rw[hf,jG,upK]
def BT (step:α->σ->(σ->ay R)->ay R)(fin:σ->ay R):ax α->σ->ay R
 |[],s=>fin s
 |x::xs,s=>step x s (BT step fin xs)
theorem DJ {T:(X->ay R)->X->ay R}(xs:ax α)(e:σ->Nat->X)(step:α->σ->(σ->ay R)->ay R)(fin:σ->ay R)(hs:∀i (h:i<xs.length) s nx,T nx (e s i)=step xs[i] s (λs'=>nx (e s' (i+1))))(hf:∀s nx,T nx (e s xs.length)=fin s): ∀n i s,i<=xs.length->xs.length-i<n->ba T n (e s i)=BT step fin (xs.drop i) s:=by
 intro n;induction n with
 |zero=>intro i s _ h;omega
 |succ n ih=>
  intro i s hi hn;rw[ba];rcases cd i xs.length with gY|yZ;rw[hs i gY s _,bO gY,BT];congr 1;funext s';exact ih (i+1) s' (by omega) (by omega);have:i=xs.length:=by omega
  subst this;rw[hf,gH,BT]
def T9:(t:CT)->t.D->Nat
 | .int _,_=>0
 | .bool,_=>0
 | .str,s=>s.length
 | .sl e,xs=>xs.length+(xs.map (T9 e)).sum
 | .pair a b,x=>T9 a x.1+T9 b x.2
def cW (n:Nat):(t:CT)->t.D->Prop
 | .int _,_=>True
 | .bool,_=>True
 | .str,s=>s.length<=n
 | .sl e,xs=>xs.length<=n/\∀x∈xs,cW n e x
 | .pair a b,x=>cW n a x.1/\cW n b x.2
theorem Lj (f:α->Nat):∀(xs:ax α)(x:α),x∈xs->f x<=(xs.map f).sum
 |y::ys,x,h=>by rcases cn.1 h with rfl|h;simp;have:=Lj f ys x h;simp;omega
theorem JX:∀{t:CT}{x:t.D},T9 t x<=n->cW n t x
 | .int _,_,_=>trivial
 | .bool,_,_=>trivial
 | .str,_,h=>h
 | .sl e,xs,h=>by simp only[T9]at h;exact⟨by omega,λx hx=>JX (by have:=Lj (T9 e) xs x hx;omega)⟩
 | .pair a b,x,h=>by simp only[T9]at h;exact⟨JX (by omega),JX (by omega)⟩
theorem cW.mono {m:Nat}(h:n<=m:=by omega):∀{t:CT}{x:t.D},cW n t x->cW m t x
 | .int _,_,_=>trivial
 | .bool,_,_=>trivial
 | .str,_,k=>bw k h
 | .sl _,_,k=>⟨bw k.1 h,λx hx=>cW.mono h (k.2 x hx)⟩
 | .pair _ _,_,k=>⟨cW.mono h k.1,cW.mono h k.2⟩
def Yw:(t:CT)->t.D->Prop
 | .int k,n=>k.min<=n/\n<=k.max
 | .bool,_=>True
 | .str,s=>s.length<=9223372036854775807
 | .sl e,xs=>xs.length<=9223372036854775807/\∀x∈xs,Yw e x
 | .pair a b,x=>Yw a x.1/\Yw b x.2
def kS (l n:Int):Int:=if n<=l then l-n else-1
def JY (f:α->Int->ay Int)(k0:Int->Int->ay R)(k1:Int->Int->Int->ay R)(v0:ax α)(nx:Int×Int->ay R)(x:Int×Int):ay R:=
 cond (decide (x.2<((List.length v0:Int)))) (
  aa (idx v0 x.2) λx1=>
  aa (f x1 x.1) λr2=>
  cond (decide (r2<0)) (
   k1 r2 (-1) x.2) (
   nx (r2,ar (x.2+1)))) (
  k0 x.1 x.2)
noncomputable def QC (f:α->Int->ay Int)(a0:ax α)(a1:Int):ay Int:=
 cond (decide ((ar (a1-((List.length a0:Int))))<0)) (
  some (-1)) (
  ba (JY f (λy3 _=>some y3) (λ_ y6 _=>some y6) a0) fuel (ar (a1-((List.length a0:Int))),0))
theorem Xa {f:α->Int->ay Int}{s:α->Nat}{a:ax α}{l:Int}(h0:0<=l)(h1:l<=1048576)(hm:a.length<=9223372036854775807)(hf:∀x∈a,∀l:Int,0<=l->l<=1048576->∃r,f x l=some r/\((s x:Int)<=l->r=l-s x)/\(¬(s x:Int)<=l->r<0)):QC f a l=some (kS l ((a.length+(a.map s).sum:Nat):Int)):=by
 unfold QC;have B7:=eh;rw[ak];rcases Int.lt_or_le (l-a.length) 0 with aot|Zk;rw[aw aot];simp only[ah,kS];rw[lv];rw[cP];simp only[af];have key:=DJ (T:=JY f (λy3 _=>some y3) (λ_ y6 _=>some y6) a) a (λ(q:Int) i=>(q,(i:Int))) (λx q k=>aa (f x q) λr=>cond (decide (r<0)) (some (-1)) (k r)) (λq=>some q) (λi hi q nx=>by simp only[JY];rw[ks];simp only[ah,bl hi,ab];rw[ak];rfl) (λq nx=>by simp only[JY];rw[cP];rfl) fuel 0 (l-a.length) (by omega) (by omega);have e:((0:Nat):Int)=0:=rfl;rw[e,eZ]at key;rw[key];have main:∀(b:ax α)(q:Int),0<=q->q<=1048576->(∀x∈b,x∈a)->BT (λx q k=>aa (f x q) λr=>cond (decide (r<0)) (some (-1)) (k r)) (λq=>some q) b q=some (kS q ((b.map s).sum:Nat)):=by intro b;induction b with|nil=>intro q hq _ _;simp[BT,kS,hq]|cons x b ih=>intro q hq hq2 hb;obtain⟨r,hr,hr1,MD⟩:=hf x (hb x (by simp)) q hq hq2;rw[BT,hr,ab];by_cases hle:(s x:Int)<=q;have:=hr1 hle;subst this;rw[cP];simp only[af];rw[ih _ (by omega) (by omega) (λy hy=>hb y (by simp[hy]))];simp only[kS,cS,List.sum_cons];congr 1;split<;>split<;>omega;rw[aw (MD hle)];simp only[ah,kS,cS,List.sum_cons];rw[lv]
 rw[main a _ (by omega) (by omega) (λx h=>h)];simp only[kS];congr 1;split<;>split<;>omega
def zU (f:Int->ay Int)(n:Nat):Prop:=∀l:Int,0<=l->l<=1048576->f l=some (kS l n)
theorem zU.nil:zU (λl=>some l) 0:=λl h0 _=>by simp[kS,h0]
theorem zU.len {m:Nat}(hn:n<=9223372036854775807){k:Int->ay Int}(h:zU k m): zU (λl=>cond (decide (ar (l-(n:Int))<0)) (some (-1)) (k (ar (l-(n:Int))))) (n+m):=by intro l h0 h1;simp only;rw[ak];by_cases hl:l-(n:Int)<0;rw[aw hl];simp only[ah,kS];rw[lv];rw[au hl];simp only[af];rw[h _ (by omega) (by omega)];simp only[kS];congr 1;split<;>split<;>omega
theorem zU.sub {k:Int->ay Int}{m:Nat}(hf:zU f n)(h:zU k m):zU (λl=>aa (f l) λr=>cond (decide (r<0)) (some (-1)) (k r)) (n+m):=by
 intro l h0 h1;simp only;rw[hf l h0 h1,ab];by_cases hl:(n:Int)<=l;have e:kS l n=l-n:=by simp[kS,hl]
 rw[e,cP];simp only[af];rw[h _ (by omega) (by omega)];simp only[kS];congr 1;split<;>split<;>omega;have e:kS l n= -1:=by simp[kS,hl]
 rw[e];simp only[kS];rw[lv];rfl
theorem zU.cast {m:Nat}(h:zU f n)(e:n=m):zU f m:=e▸h
theorem zU.list {f:α->Int->ay Int}{s:α->Nat}{a:ax α}(hm:a.length<=9223372036854775807)(hf:∀x∈a,zU (f x) (s x)):zU (QC f a) (a.length+(a.map s).sum):=λ_ h0 h1=>Xa h0 h1 hm (λx hx l h0 h1=>⟨_,hf x hx l h0 h1,λh=>by simp[kS,h],λh=>by simp[kS,h]⟩)
theorem zU.flat (hn:n<=9223372036854775807):zU (λl=>cond (decide (ar (l-(n:Int))<0)) (some (-1)) (some (ar (l-(n:Int))))) n:=(zU.len (n:=n) hn zU.nil).cast (by omega)
theorem zU.use (hf:zU f n){l:Int}(h0:0<=l)(h1:l<=1048576){k:Int->ay Bool}(hk:(n:Int)<=l->k (l-n)=some true): (aa (f l) λr=>cond (decide (r<0)) (some true) (k r))=some true:=by
 rw[hf l h0 h1,ab];by_cases hl:(n:Int)<=l;have e:kS l n=l-n:=by simp[kS,hl]
 rw[e,cP];exact hk hl;have e:kS l n= -1:=by simp[kS,hl]
 rw[e];rfl
theorem J1 {T:(Int->ay R)->Int->ay R}{fin hit:ay R}(p:α->Bool)(a:ax α)(h:a.length<=1000000000000)(hs:∀i (hi:i<a.length) nx,T nx (i:Int)=cond (p a[i]) hit (nx ((i+1:Nat):Int)))(hf:∀nx,T nx (a.length:Int)=fin): ba T fuel 0=cond (a.any p) hit fin:=by
 have B7:=eh;have key:∀n i,i<=a.length->a.length-i<n->ba T n (i:Int)=cond ((a.drop i).any p) hit fin:=by
  intro n;induction n with
  |zero=>intro i _ h;omega
  |succ n ih=>
   intro i hi hn;rw[ba];rcases cd i a.length with gY|yZ;rw[hs i gY,bO gY,List.any_cons];cases hq:p a[i]with|true=>rfl|false=>exact ih (i+1) (by omega) (by omega)
   have:i=a.length:=by omega
   subst this;rw[hf,gH];rfl
 exact key fuel 0 (by omega) (by omega)
theorem oX {T:(Int->ay R)->Int->ay R}{fin hit:ay R}(p:Nat->Bool)(N:Nat)(h:N<=1000000000000)(hs:∀i nx,i<N->T nx (i:Int)=cond (!(p i)) hit (nx ((i+1:Nat):Int)))(hf:∀nx,T nx (N:Int)=fin): ba T fuel 0=cond ((range N).all p) fin hit:=by
 have B7:=eh;have key:∀n i,i<=N->N-i<n->ba T n (i:Int)=cond ((List.range' i (N-i)).all p) fin hit:=by
  intro n;induction n with
  |zero=>intro i _ h;omega
  |succ n ih=>
   intro i hi hn;rw[ba];rcases cd i N with gY|yZ;rw[hs i _ gY,show N-i=(N-(i+1))+1 by omega,List.range'_succ,cc];cases hq:p i with|false=>rfl|true=>exact ih (i+1) (by omega) (by omega)
   have:i=N:=by omega
   subst this;rw[hf,jG];rfl
 have:=key fuel 0 (by omega) (by omega);rw[Nat.sub_zero,<-List.range_eq_range']at this;exact this
theorem oW {T:(Int->ay R)->Int->ay R}{fin hit:ay R}(p:α->Bool)(a:ax α)(h:a.length<=1000000000000)(hs:∀i (hi:i<a.length) nx,T nx (i:Int)=cond (!(p a[i])) hit (nx ((i+1:Nat):Int)))(hf:∀nx,T nx (a.length:Int)=fin): ba T fuel 0=cond (a.all p) fin hit:=by
 have:=J1 (T:=T) (fin:=fin) (hit:=hit) (λx=> !(p x)) a h hs hf;rw[this];have e:a.any (λx=> !(p x))= !(a.all p):=by rw[cD];simp
 rw[e];cases a.all p<;>rfl
theorem Hj {T:(X->ay R)->X->ay R}{fin hit:ay R}(e:Nat->X)(p:Nat->Bool)(N:Nat)(h:N<=1000000000000)(hs:∀i nx,i<N->(∀j,j<i->p j=true)->T nx (e i)=cond (!(p i)) hit (nx (e (i+1))))(hf:(∀j,j<N->p j=true)->∀nx,T nx (e N)=fin): ba T fuel (e 0)=cond ((range N).all p) fin hit:=by
 have B7:=eh;have key:∀n i,i<=N->N-i<n->(∀j,j<i->p j=true)->ba T n (e i)=cond ((List.range' i (N-i)).all p) fin hit:=by
  intro n;induction n with
  |zero=>intro i _ h;omega
  |succ n ih=>
   intro i hi hn hp;rw[ba];rcases cd i N with gY|yZ;rw[hs i _ gY hp,show N-i=(N-(i+1))+1 by omega,List.range'_succ,cc];cases hq:p i with|false=>rfl|true=>refine ih (i+1) (by omega) (by omega) λj hj=>?_;by_cases hji:j=i;rw[hji];exact hq;exact hp j (by omega)
   have:i=N:=by omega
   subst this;rw[hf hp,jG];rfl
 have:=key fuel 0 (by omega) (by omega) (λj hj=>absurd hj (by omega));rw[Nat.sub_zero,<-List.range_eq_range']at this;exact this
theorem Du {T:(Int->ay R)->Int->ay R}{fin:ay R}{hit:Int->ay R}(p:α->Bool)(a:ax α)(h:a.length<=1000000000000)(hs:∀i (hi:i<a.length) nx,T nx (i:Int)=cond (p a[i]) (hit (i:Int)) (nx ((i+1:Nat):Int)))(hf:∀nx,T nx (a.length:Int)=fin): ba T fuel 0=(match a.findIdx? p with|some i=>hit (i:Int)|none=>fin):=by
 have B7:=eh;have key:∀n i,i<=a.length->a.length-i<n->ba T n (i:Int)=(match (a.drop i).findIdx? p with|some j=>hit ((i+j:Nat):Int)|none=>fin):=by
  intro n;induction n with
  |zero=>intro i _ h;omega
  |succ n ih=>
   intro i hi hn;rw[ba];rcases cd i a.length with gY|yZ;rw[hs i gY,bO gY,List.findIdx?_cons];cases hq:p a[i]with|true=>rfl|false=>have:=ih (i+1) (by omega) (by omega);simp only[af];refine this.trans ?_;cases (a.drop (i+1)).findIdx? p with|none=>rfl|some j=>simp only[de,aY,bW];congr 2;omega
   have:i=a.length:=by omega
   subst this;rw[hf,gH];rfl
 have:=key fuel 0 (by omega) (by omega);refine this.trans ?_;rw[eZ];cases a.findIdx? p with|none=>rfl|some j=>simp only[cr]
theorem cF (a b:Bool):(bif a then b else false)=(a&&b):=by cases a<;>rfl
theorem cT (a b:Bool):(bif a then true else b)=(a||b):=by cases a<;>rfl
theorem cN (a b:Bool):(bif a then false else b)=(!a&&b):=by cases a<;>rfl
def Qh (g:α->σ->Except (ay R) σ)(fin:σ->ay R):ax α->σ->ay R
 |[],s=>fin s
 |x::xs,s=>match g x s with| .error r=>r| .ok s'=>Qh g fin xs s'
theorem GK {T:(X->ay R)->X->ay R}(xs:ax α)(e:σ->Nat->X)(Inv:Nat->σ->Prop)(g:α->σ->Except (ay R) σ)(fin:σ->ay R)(h:xs.length<=1000000000000)(hs:∀i (hi:i<xs.length) s nx,Inv i s->T nx (e s i)=match g xs[i] s with| .error r=>r| .ok s'=>nx (e s' (i+1)))(hn:∀i (hi:i<xs.length) s s',Inv i s->g xs[i] s=.ok s'->Inv (i+1) s')(hf:∀s nx,Inv xs.length s->T nx (e s xs.length)=fin s)(s:σ)(h0:Inv 0 s): ba T fuel (e s 0)=Qh g fin xs s:=by
 have key:∀n i s,i<=xs.length->xs.length-i<n->Inv i s->ba T n (e s i)=Qh g fin (xs.drop i) s:=by
  intro n;induction n with
  |zero=>intro i s _ h;omega
  |succ n ih=>
   intro i s hi BX hI;rw[ba];rcases cd i xs.length with gY|yZ;rw[hs i gY s _ hI,bO gY,Qh];cases hg:g xs[i] s with|error r=>rfl|ok s'=>exact ih (i+1) s' (by omega) (by omega) (hn i gY s s' hI hg)
   have:i=xs.length:=by omega
   subst this;rw[hf s _ hI,gH,Qh]
 have B7:=eh;have:=key fuel 0 s (by omega) (by omega) h0;rwa[eZ]at this
theorem JU (f:σ->α->σ)(fin:σ->ay R):∀(xs:ax α)(s:σ),Qh (λx s=> .ok (f s x)) fin xs s=fin (xs.foldl f s)
 |[],_=>rfl
 |x::xs,s=>by rw[Qh];exact JU f fin xs (f s x)
theorem eD {T:(X->ay R)->X->ay R}{fin:ay R}(e:Nat->X)(N:Nat)(h:N<=1000000000000)(hs:∀i nx,i<N->T nx (e i)=nx (e (i+1)))(hf:∀nx,T nx (e N)=fin):ba T fuel (e 0)=fin:=by rw[Hj (hit:=fin) (fin:=fin) e (λ_=>true) N h (λi nx hi _=>by rw[hs i nx hi];rfl) (λ_ nx=>hf nx)];cases (range N).all (λ_=>true)<;>rfl
theorem nn {l:ax α}{k:ay R}(h:l.length<=10^9):room (List.length ([]:ax α)+l.length) k=k:=aX (by simp only[eO];omega)
def di (a lo hi:Int):Bool:=decide (lo<=a)&&decide (a<=hi)
theorem bh {a lo hi:Int}:di a lo hi=true↔lo<=a/\a<=hi:=by simp[di]
theorem ez (a b c:Int):bf a b c=some (di a b c):=by simp only[bf,bP,ab,di];cases h:decide (a>=b)<;>rfl
theorem df (a b c:Int):aE a b c=some (di a b c):=ez a b c
theorem ca {l:ax α}(h:i<l.length)(d:α):l.getD i d=l[i]:=by rw[bA,aq h];rfl
def Me (l:cZ)(i:Nat):Bool:=di (l.getD i 0) 0 4095&& !(decide (0<i)&&decide (l.getD i 0<=l.getD (i-1) 0))
def qF (f:Filter):Bool:=(range f.2.2.length).all (Me f.2.2)&&(di f.1 0 281474976710654&&decide ((f.2.2.length:Int)<=8))
theorem WV (f:Filter)(h:f.2.2.length<=10^9):wi f=some (qF f):=by
 unfold wi;rw[oX (hit:=some false) (fin:=some (di f.1 0 281474976710654&&decide ((f.2.2.length:Int)<=8))) (Me f.2.2) f.2.2.length (by omega) (λi nx hi=>?hs) (λnx=>?hf)]
 case hs=>
  simp only[ra]
  rw[ks,bl hi,ak (n:=(i:Int)+1)]
  simp only[ah,ab,ez,Me,ca hi]
  by_cases h0:0<i
  ·have e:ar ((i:Int)-1)=((i-1:Nat):Int):=by rw[ak];omega
   have hp:i-1<f.2.2.length:=by omega
   rw[e,bl hp,aw (show(i:Int)>0 by omega),aw h0,ca hp]
   simp only[ah,ab,bq]
   cases di f.2.2[i] 0 4095<;>cases decide (f.2.2[i]<=f.2.2[i-1])<;>rfl
  ·rw[au (show¬(i:Int)>0 by omega),au h0]
   simp only[af,eJ]
   cases di f.2.2[i] 0 4095<;>rfl
 case hf=>
  simp only[ra]
  rw[cP]
  simp only[af,ez,ab,BQ,bP]
  cases di f.1 0 281474976710654<;>rfl
 unfold qF;cases (range f.2.2.length).all (Me f.2.2)<;>rfl
theorem KZ (f:Filter)(h:f.2.2.length<=10^9):rM f=some (qF f):=by
 unfold rM;rw[oX (hit:=some false) (fin:=some (di f.1 0 281474976710654&&decide ((f.2.2.length:Int)<=8))) (Me f.2.2) f.2.2.length (by omega) (λi nx hi=>?hs) (λnx=>?hf)]
 case hs=>
  simp only[qH]
  rw[ks,bl hi,ak (n:=(i:Int)+1)]
  simp only[ah,ab,df,Me,ca hi]
  by_cases h0:0<i
  ·have e:ar ((i:Int)-1)=((i-1:Nat):Int):=by rw[ak];omega
   have hp:i-1<f.2.2.length:=by omega
   rw[e,bl hp,aw (show(i:Int)>0 by omega),aw h0,ca hp]
   simp only[ah,ab,bq,ge_iff_le]
   cases di f.2.2[i] 0 4095<;>cases decide (f.2.2[i]<=f.2.2[i-1])<;>rfl
  ·rw[au (show¬(i:Int)>0 by omega),au h0]
   simp only[af,eJ]
   cases di f.2.2[i] 0 4095<;>rfl
 case hf=>
  simp only[qH]
  rw[cP]
  simp only[af,df,ab,BQ,bP]
  cases di f.1 0 281474976710654<;>rfl
 unfold qF;cases (range f.2.2.length).all (Me f.2.2)<;>rfl
def zL (r:iE):Bool:=(ma r).getD false
theorem TC (r:iE):ma r=some (zL r):=by
 have:∃b,ma r=some b:=by simp only[ma,ez,ab,bP];exact⟨_,rfl⟩
 obtain⟨b,hb⟩:=this;simp[zL,hb]
theorem adg (r:iE):zD r=some (zL r):=TC r
theorem Tj {r:iE}(h:zL r=true):r.2.2.2.2.2.2.2.1=0\/r.2.2.2.2.2.2.2.2=0:=by
 by_cases h0:r.2.2.2.2.2.2.2.1=0;exact .inl h0;by_cases h1:r.2.2.2.2.2.2.2.2=0;exact .inr h1;exfalso;have e0:(r.2.2.2.2.2.2.2.1==0)=false:=by simp[h0]
 have e1:(r.2.2.2.2.2.2.2.2==0)=false:=by simp[h1]
 revert h;unfold zL;simp only[ma,ez,ab,bP,e0,e1,af,fC];have z:∀c:Bool,(bif c then false else false)=false:=by intro c;cases c<;>rfl
 simp only[z];intro h;cases h
def xl (l:ax iE):Bool:=l.all zL&&decide ((l.length:Int)<=12)
theorem Oo (l:ax iE)(h:l.length<=10^9):xS l=some (xl l):=by
 unfold xS;rw[oW (hit:=some false) (fin:=some (decide ((l.length:Int)<=12))) zL l (by omega) (λi hi nx=>?hs) (λnx=>?hf)]
 case hs=>
  simp only[sQ]
  rw[ks,bl hi,ak]
  simp only[ah,ab,TC];rfl
 case hf=>
  simp only[sQ]
  rw[cP];rfl
 unfold xl;cases l.all zL<;>rfl
theorem NO (l:ax iE)(h:l.length<=10^9):xK l=some (xl l):=by rw[<-Oo l h];rfl
theorem anL (x:Int):((BitVec.ofInt 64 x&&&BitVec.ofInt 64 7).toNat:Int)=x%8:=by
 have h7:(BitVec.ofInt 64 7).toNat=2^3-1:=by decide
 rw[BitVec.toNat_and,h7,Nat.and_two_pow_sub_one_eq_mod];simp only[BitVec.toNat_ofInt];omega
theorem ajq (x:Int):((gr x&&&gr 7).toNat:Int)=x%8:=anL x
theorem afS (x:Int):iK x 8=some (x%8):=by unfold iK;rw[lv,Int.tmod_eq_emod];split;rw[cP];simp;rw[aw (by simp;omega),ak (by simp;omega) (by simp;omega)];simp
def Ay (f:iM):Int:=(f.1%8+f.2.1%8+f.2.2.1%8+f.2.2.2.1%8+f.2.2.2.2%8)%8
theorem KP (f:iM):0<=Ay f/\Ay f<8:=by unfold Ay;omega
theorem aeK {n:Int}(h:0<=n:=by omega):tmod n 8=n%8:=dg h
theorem Ty (f:iM):sg f=some (Ay f):=by
 unfold sg;generalize hL:[f.1,f.2.1,f.2.2.1,f.2.2.2.1,f.2.2.2.2]=L;have hlen:L.length=5:=by rw[<-hL];rfl
 have B7:=eh;have key:=DJ (R:=Int) (T:=nw (λ(y2:Int) (y3:Int)=>if 8=0 then none else(some (tmod y2 8))) L) L (λ(s:Int) i=>(s,(i:Int))) (λx s k=>k (ar (s+ar (x%8)))) (λs=>some (tmod s 8)) (λi hi s nx=>by simp only[nw];rw[ks,bl hi,ak (n:=(i:Int)+1)];simp only[ah,ab];rw[ajq L[i]];rfl) (λs nx=>by simp only[nw];rw[cP];rfl) fuel 0 0 (by omega) (by omega);refine key.trans ?_;rw[<-hL];simp only[eZ,BT];rw[ak (n:=f.1%8),ak (n:=f.2.1%8),ak (n:=f.2.2.1%8),ak (n:=f.2.2.2.1%8),ak (n:=f.2.2.2.2%8)];rw[ak (n:=0+f.1%8),ak (n:=0+f.1%8+_),ak (n:=0+f.1%8+_+_),ak (n:=0+f.1%8+_+_+_),ak (n:=0+f.1%8+_+_+_+_)];rw[aeK,Ay,Int.zero_add]
theorem ac5 (f:iM):vP f=some (Ay f):=by
 unfold vP;generalize hL:[f.1,f.2.1,f.2.2.1,f.2.2.2.1,f.2.2.2.2]=L;have hlen:L.length=5:=by rw[<-hL];rfl
 have B7:=eh;have key:=DJ (R:=Int) (T:=nb (λ(y2:Int) (y3:Int)=>if 8=0 then none else(some (tmod y2 8))) L (L.length:Int)) L (λ(s:Int) i=>(s,(i:Int))) (λx s k=>k (ar (s+(x%8)))) (λs=>some (tmod s 8)) (λi hi s nx=>by simp only[nb];rw[ks,bl hi,ak (n:=(i:Int)+1)];simp only[ah,ab,afS];rfl) (λs nx=>by simp only[nb];rw[cP];rfl) fuel 0 0 (by omega) (by omega);refine key.trans ?_;rw[<-hL];simp only[eZ,BT];rw[ak (n:=0+f.1%8),ak (n:=0+f.1%8+_),ak (n:=0+f.1%8+_+_),ak (n:=0+f.1%8+_+_+_),ak (n:=0+f.1%8+_+_+_+_)];rw[aeK,Ay,Int.zero_add]
def fW (t:ax Slot)(i:Nat):Slot:=t.getD i (0,(0,0,0,0,0),0)
theorem vr {t:ax Slot}(h:i<t.length):fW t i=t[i]:=ca h _
def ll (f:iM)(k:Nat):Nat:=((Ay f).toNat+k)%8
theorem DU (f:iM)(k:Nat):ll f k<8:=gk _ (by omega)
theorem TT (f:iM)(k:Nat)(h:k<8):tmod (ar (Ay f+(k:Int))) 8=(ll f k:Int):=by have:=KP f;rw[ak,aeK,ll];omega
def oS (s:Slot)(f:iM):Bool:=(s.1==1)&&decide (s.2.1=f)
theorem FM (p q:iM):((p.1==q.1)&&((p.2.1==q.2.1)&&((p.2.2.1==q.2.2.1)&&((p.2.2.2.1==q.2.2.2.1)&&((p.2.2.2.2==q.2.2.2.2)&&true)))))=decide (p=q):=by obtain⟨a,b,c,d,e⟩:=p;obtain⟨a',b',c',d',e'⟩:=q;rw[cD];simp
def walk (t:ax Slot)(f:iM):Nat->Nat->Int
 |0,_=> -1
 |n+1,k=>if(fW t (ll f k)).1=0 then-1 else if oS (fW t (ll f k)) f then(ll f k:Int) else walk t f n (k+1)
theorem Tx (t:ax Slot)(f:iM)(ht:t.length=8):uQ t f=some (walk t f 8 0):=by
 unfold uQ;have B7:=eh
 have key:=Gl (R:=Int) (T:=oO (λ(y6:Int)=>some (-1)) (λ(y7:Int) (y8:Int)=>some y7) 0 t f) 8 (λ(_:Unit) i=>(i:Int))
  (λi s k=>if(fW t (ll f i)).1=0 then some (-1) else if oS (fW t (ll f i)) f then some (ll f i:Int) else k s) (λ_=>some (-1))
  (λi s nx hi=>by
   have hw:ll f i<t.length:=by have:=DU f i;omega
   simp only[oO,Ty];rw[ks,ak (n:=(i:Int)+1)];simp only[ah,ab,TT f i hi,bl hw,vr hw,FM,oS,bP,ab];rw[lv];by_cases h0:t[ll f i].1=0;simp[h0];have e0:(t[ll f i].1==0)=false:=by simp[h0]
   rw[e0,aI h0];cases (t[ll f i].1==1)<;>cases decide (t[ll f i].2.1=f)<;>rfl)
  (λs nx=>by simp only[oO];rfl)
  fuel 0 () (by omega) (by omega)
 refine key.trans ?_;have main:∀n i,upK (R:=Int) (λi (s:Unit) k=>if(fW t (ll f i)).1=0 then some (-1) else if oS (fW t (ll f i)) f then some (ll f i:Int) else k s) (λ_=>some (-1)) 8 n i ()=some (walk t f n i):=by intro n;induction n with|zero=>intro i;rfl|succ n ih=>intro i;rw[upK,walk];split;rfl;split;rfl;exact ih (i+1)
 exact main 8 0
def xe (f:iM):ax Slot->Int->Int
 |[],_=> -1
 |s::r,i=>if oS s f then i else xe f r (i+1)
theorem Sf (t:ax Slot)(f:iM)(h:t.length<=10^9):wK t f=some (xe f t 0):=by
 unfold wK;have B7:=eh;have key:∀n i,i<=t.length->t.length-i<n->ba (uo (λ(y3:Int)=>some (-1)) (λ(y4:Int) (y5:Int)=>some y4) 0 t ((List.length t:Int)) f) n (i:Int)=some (xe f (t.drop i) i):=by
  intro n;induction n with
  |zero=>intro i _ h;omega
  |succ n ih=>
   intro i hi hn;rw[ba];simp only[uo];rcases cd i t.length with gY|yZ;rw[ks,bl gY,bO gY,xe,ak];simp only[ah,ab,FM,bP];have e:(bif t[i].1==1 then decide (t[i].2.1=f) else false)=oS t[i] f:=by unfold oS;cases (t[i].1==1)<;>rfl
   rw[e];cases oS t[i] f with|true=>rfl|false=>exact ih (i+1) (by omega) (by omega)
   have:i=t.length:=by omega
   subst this;rw[cP,gH];rfl
 exact key fuel 0 (by omega) (by omega)
theorem afC (f:iM):Bp f=some ((range 8).map λk=>(ll f k:Int)):=by unfold Bp;have B7:=eh;have key:=Gl (R:=cZ) (T:=rY (λ(y2:cZ) (y3:Int)=>some y2) f) 8 (λ(_:Unit) i=>((range i).map (λk=>(ll f k:Int)),(i:Int))) (λ_ s k=>k s) (λ_=>some ((range 8).map λk=>(ll f k:Int))) (λi s nx hi=>by simp only[rY,ac5];rw[ks,ak (n:=(i:Int)+1)];simp only[ah,ab,TT f i hi];rw[lv,aX (by simp;omega),List.range_succ,dS];rfl) (λs nx=>by simp only[rY];rfl) fuel 0 () (by omega) (by omega);exact key
def clear (t:ax Slot)(f:iM)(i:Nat):Nat->Nat->Bool
 |0,_=>true
 |n+1,k=>if ll f k=i then true else if(fW t (ll f k)).1=0 then false else clear t f i n (k+1)
theorem Zs (k0:Int->ay R)(k1:Bool->Int->ay R)(hit fin:ay R)(h0:∀x,k0 x=fin)(h1:∀x,k1 false x=hit)(v2:Bool)(i:Nat)(Fp:ax Slot)(Xd v14:Int)(t:ax Slot)(f:iM)(ht:t.length=8): ba (kB k0 k1 v2 (i:Int) Fp Xd v14 ((range 8).map λk=>(ll f k:Int)) (((range 8).map λk=>(ll f k:Int)).length:Int) t) fuel 0=cond (clear t f i 8 0) fin hit:=by
 have B7:=eh;have hl:((range 8).map λk=>(ll f k:Int)).length=8:=by simp
 have key:=Gl (R:=R) (T:=kB k0 k1 v2 (i:Int) Fp Xd v14 ((range 8).map λk=>(ll f k:Int)) (((range 8).map λk=>(ll f k:Int)).length:Int) t) 8 (λ(_:Unit) i=>(i:Int))
  (λk s c=>if ll f k=i then fin else if(fW t (ll f k)).1=0 then hit else c s) (λ_=>fin)
  (λk s nx hk=>by
   have hw:ll f k<t.length:=by have:=DU f k;omega
   simp only[kB];rw[ks,bl (show k<((range 8).map λk=>(ll f k:Int)).length by omega),ak (n:=(k:Int)+1)];simp only[ah,ab,List.getElem_map,List.getElem_range,bl hw,vr hw,h0,h1];by_cases e1:ll f k=i;subst e1;simp;have:((ll f k:Int)==(i:Int))=false:=by simp;omega
   rw[this,aI e1];by_cases e2:t[ll f k].1=0;simp[e2];have:(t[ll f k].1==0)=false:=by simp[e2]
   rw[this,aI e2];rfl)
  (λs nx=>by simp only[kB];rw[cP];exact h0 _)
  fuel 0 () (by omega) (by omega)
 refine key.trans ?_;have main:∀n k,upK (R:=R) (λk (s:Unit) c=>if ll f k=i then fin else if(fW t (ll f k)).1=0 then hit else c s) (λ_=>fin) 8 n k ()=cond (clear t f i n k) fin hit:=by intro n;induction n with|zero=>intro k;rfl|succ n ih=>intro k;rw[upK,clear];split;rfl;split;rfl;exact ih (k+1)
 exact main 8 0
def Ru:iM:=(0,0,0,0,0)
theorem Rv (p:iM):((p.1==0)&&((p.2.1==0)&&((p.2.2.1==0)&&((p.2.2.2.1==0)&&((p.2.2.2.2==0)&&true)))))=decide (p=Ru):=FM p Ru
def On (s:Slot):Bool:=di s.1 0 2&&di s.2.2 0 3&&((s.1==1)||(s.2.2==0)&&decide (s.2.1=Ru))
def ns (t:ax Slot)(i:Nat):Bool:=On (fW t i)&&(!((fW t i).1==1)||(walk t (fW t i).2.1 8 0==(i:Int)))
def tr (t:ax Slot)(i:Nat):Bool:=On (fW t i)&&(!((fW t i).1==1)||(xe (fW t i).2.1 t 0==(i:Int))&&clear t (fW t i).2.1 i 8 0)
def ow (t:ax Slot):Bool:=(t.length==8)&&(range 8).all (ns t)
theorem Oq (t:ax Slot):uL t=some (ow t):=by
 unfold uL ow;by_cases ht:t.length=8
 ·have e:((t.length:Int) !=8)=false:=by rw[ht];rfl
  have e2:(t.length==8)=true:=by rw[ht];rfl
  rw[e,e2];simp only[af,bq];rw[oX (hit:=some false) (fin:=some true) (ns t) 8 (by omega) (λi nx hi=>?hs) (λnx=>?hf)]
  case hs=>
   have hl:i<t.length:=by omega
   simp only[sS]
   rw[ks,bl hl,ak]
   simp only[ah,ab,ez,bP,Rv,Tx t _ ht,ns,vr hl,On,bne]
   cases di t[i].1 0 2<;>cases di t[i].2.2 0 3<;>cases (t[i].1==1)<;>cases (t[i].2.2==0)<;>cases decide (t[i].2.1=Ru)<;>first|rfl|(cases (walk t t[i].2.1 8 0==(i:Int))<;>rfl)
  case hf=>
   simp only[sS]
   rw[cP];rfl
  cases (range 8).all (ns t)<;>rfl
 have e:((t.length:Int) !=8)=true:=by simp;omega
 have e2:(t.length==8)=false:=by simp[ht]
 rw[e,e2];rfl
theorem VN (t:ax Slot):qS t=some ((t.length==8)&&(range 8).all (tr t)):=by
 unfold qS;by_cases ht:t.length=8
 ·have e:((t.length:Int) !=8)=false:=by rw[ht];rfl
  have e2:(t.length==8)=true:=by rw[ht];rfl
  rw[e,e2];simp only[af,bq];rw[oX (hit:=some false) (fin:=some true) (tr t) 8 (by omega) (λi nx hi=>?hs) (λnx=>?hf)]
  case hs=>
   have hl:i<t.length:=by omega
   simp only[sF]
   rw[ks,bl hl,ak]
   simp only[ah,ab,df,bP,Rv,Sf t _ (show t.length<=10^9 by omega),afC,tr,vr hl,On,bne]
   rw[Zs (λ_=>nx ((i:Int)+1)) (λ(y:Bool) (_:Int)=>some y) (some false) (nx ((i:Int)+1)) (λ_=>rfl) (λ_=>rfl) _ _ _ _ _ _ _ ht]
   cases di t[i].1 0 2<;>cases di t[i].2.2 0 3<;>cases (t[i].1==1)<;>cases (t[i].2.2==0)<;>cases decide (t[i].2.1=Ru)<;>first|rfl|(cases (xe t[i].2.1 t 0==(i:Int))<;>first|rfl|(cases clear t t[i].2.1 i 8 0<;>rfl))
  case hf=>
   simp only[sF]
   rw[cP];rfl
  cases (range 8).all (tr t)<;>rfl
 have e:((t.length:Int) !=8)=true:=by simp;omega
 have e2:(t.length==8)=false:=by simp[ht]
 rw[e,e2];rfl
theorem OA (t:ax Slot)(f:iM)(i:Nat):∀n k,walk t f n k=(i:Int)->oS (fW t i) f=true/\clear t f i n k=true/\∃j,j<n/\ll f (k+j)=i
 |0,k,h=>by unfold walk at h;omega
 |n+1,k,h=>by
  unfold walk at h;unfold clear;by_cases h0:(fW t (ll f k)).1=0;rw[aH h0]at h;omega;rw[aI h0]at h;by_cases h1:oS (fW t (ll f k)) f=true;rw[aH h1]at h;have:ll f k=i:=by omega
  subst this;exact⟨h1,by simp,0,by omega,rfl⟩;rw[aI h1]at h;obtain⟨a,b,j,hj,e⟩:=OA t f i n (k+1) h;refine⟨a,?_,j+1,by omega,by rw[<-e];congr 1;omega⟩;rw[aI h0,b];split<;>rfl
theorem Yu (t:ax Slot)(f:iM)(i:Nat)(hu:oS (fW t i) f=true)(agM:∀j,j<8->oS (fW t j) f=true->j=i):∀n k,clear t f i n k=true->(∃j,j<n/\ll f (k+j)=i)->walk t f n k=(i:Int)
 |0,k,_,h=>by obtain⟨j,hj,_⟩:=h;omega
 |n+1,k,hc,⟨j,hj,e⟩=>by unfold walk;unfold clear at hc;by_cases h1:ll f k=i;rw[h1,aI,aH hu];intro h0;unfold oS at hu;rw[h0]at hu;simp at hu;rw[aI h1]at hc;by_cases h0:(fW t (ll f k)).1=0;rw[aH h0]at hc;cases hc;rw[aI h0]at hc;rw[aI h0,aI (λPI=>h1 (agM _ (DU f k) PI))];refine Yu t f i hu agM n (k+1) hc ?_;cases j with|zero=>exact absurd e h1|succ j=>exact⟨j,by omega,by rw[<-e];congr 1;omega⟩
theorem agl (f:iM)(i:Nat)(hi:i<8):∃j,j<8/\ll f (0+j)=i:=by have:=KP f;refine⟨(i+8-(Ay f).toNat)%8,by omega,?_⟩;unfold ll;omega
theorem Ct (f:iM):∀(t:ax Slot)(m:Nat),(∃j,j<t.length/\oS (fW t j) f=true)->∃j,j<t.length/\oS (fW t j) f=true/\xe f t m=((m+j:Nat):Int)
 |[],_,h=>by obtain⟨j,hj,_⟩:=h;simp at hj
 |s::r,m,⟨j,hj,e⟩=>by
  unfold xe;by_cases hs:oS s f=true;rw[aH hs];exact⟨0,by simp,by simpa[fW]using hs,by simp⟩;rw[aI hs];cases j with
  |zero=>exact absurd (by simpa[fW]using e) hs
  |succ j=>
   obtain⟨j',h1,h2,h3⟩:=Ct f r (m+1) ⟨j,by simpa using hj,by simpa[fW]using e⟩;refine⟨j'+1,by simpa using h1,by simpa[fW]using h2,?_⟩;have:((m:Int)+1)=((m+1:Nat):Int):=by omega
   rw[this,h3];congr 1;omega
theorem WT (t:ax Slot)(ht:t.length=8):(range 8).all (tr t)=(range 8).all (ns t):=by
 rw[cD,aF,aF];simp only[bK];constructor;intro h i hi;have hI:=h i hi;unfold tr at hI;unfold ns;simp only[ae,cE,aK,aV]at hI⊢;refine⟨hI.1,?_⟩;rcases hI.2 with h1|⟨h1,h2⟩;exact .inl h1;by_cases hu:((fW t i).1==1)=true;right;have PI:oS (fW t i) (fW t i).2.1=true:=by unfold oS;rw[hu];simp
 refine Yu t _ i PI (λj hj huj=>?_) 8 0 h2 (agl _ i hi);have hJ:=h j hj;unfold tr at hJ;unfold oS at huj;simp only[ae,aD]at huj;simp only[ae,cE,aK,aV]at hJ;rcases hJ.2 with h3|⟨h3,_⟩;rw[huj.1]at h3;cases h3;rw[huj.2]at h3;omega;exact .inl (by simpa using hu);intro h i hi;have hI:=h i hi;unfold ns at hI;unfold tr;simp only[ae,cE,aK,aV]at hI⊢;refine⟨hI.1,?_⟩;rcases hI.2 with h1|h1;exact .inl h1;right;obtain⟨hu,hc,_⟩:=OA t _ i 8 0 h1;refine⟨?_,hc⟩;obtain⟨j,hj,huj,e⟩:=Ct (fW t i).2.1 t 0 ⟨i,by omega,hu⟩;have hJ:=h j (by omega);unfold ns at hJ;unfold oS at huj;simp only[ae,aD]at huj;simp only[ae,cE,aK,aV]at hJ;rcases hJ.2 with h3|h3;rw[huj.1]at h3;cases h3;rw[huj.2,h1]at h3;have e':xe (fW t i).2.1 t 0=((0+j:Nat):Int):=e;rw[e'];omega
theorem NS (t:ax Slot):qS t=some (ow t):=by
 rw[VN,ow];by_cases ht:t.length=8;rw[WT t ht];have e2:(t.length==8)=false:=by simp[ht]
 rw[e2];rfl
def Yd (n:Int):Bool:=(n==1)||(n==2)||(n==4)||(n==8)||(n==16)
theorem VW (n:Int):xW n=some (Yd n):=by simp only[xW,bP,ab,Yd];cases (n==1)<;>cases (n==2)<;>cases (n==4)<;>cases (n==8)<;>rfl
def rn (s:mf)(q:Int):Bool:=di q 1 4&&((s.1.length:Int)==16)&&Yd s.2.length&&s.2.all λx=>di x 0 (q-1)
theorem LW (s:mf)(q:Int)(h:s.2.length<=10^9):wm s q=some (rn s q):=by
 unfold wm rn;simp only[ez,VW,ab,bP,bne];by_cases hq:di q 1 4=true
 ·rw[oW (hit:=some false) (fin:=some true) (λx=>di x 0 (q-1)) s.2 (by omega) (λi hi nx=>?hs) (λnx=>?hf)]
  case hs=>
   rw[bh]at hq
   simp only[rf]
   rw[ks,bl hi,ak (n:=(i:Int)+1),ak (n:=q-1)]
   simp only[ah,ab,ez];rfl
  case hf=>
   simp only[rf]
   rw[cP];rfl
  rw[hq];cases ((s.1.length:Int)==16)<;>cases Yd s.2.length<;>cases s.2.all (λx=>di x 0 (q-1))<;>rfl
 have hq':di q 1 4=false:=by simpa using hq
 rw[hq'];rfl
theorem K6 (s:mf)(q:Int)(h:s.2.length<=10^9):vV s q=some (rn s q):=by rw[<-LW s q h];rfl
def fw (s:cQ)(q:Int):Bool:=xl s.1&&ow s.2.1&&rn s.2.2 q&&s.1.all (λr=> !(decide (r.2.2.2.2.2.2.2.2>=q)))&&s.2.1.all (λx=> !(decide (x.2.2>=q)))
theorem Qq (s:cQ)(q:Int)(h1:s.1.length<=10^9)(h2:s.2.1.length<=10^9)(h3:s.2.2.2.length<=10^9):sR s q=some (fw s q):=by
 unfold sR fw;simp only[Oo _ h1,Oq,LW _ _ h3,ab,bP];rw[oW (hit:=some false) (fin:=cond (s.2.1.all (λx=> !(decide (x.2.2>=q)))) (some true) (some false)) (λr:iE=> !(decide (r.2.2.2.2.2.2.2.2>=q))) s.1 (by omega) (λi hi nx=>?hs) (λnx=>?hf)]
 case hs=>
  simp only[ou]
  rw[ks,bl hi,ak]
  simp only[ah,ab,fO];rfl
 case hf=>
  simp only[ou]
  rw[cP]
  simp only[af]
  rw[oW (hit:=some false) (fin:=some true) (λx:Slot=> !(decide (x.2.2>=q))) s.2.1 (by omega) (λi hi nx=>?hs) (λnx=>?hf)]
  case hs=>
   simp only[ov]
   rw[ks,bl hi,ak]
   simp only[ah,ab,fO];rfl
  case hf=>
   simp only[ov]
   rw[cP];rfl
 cases xl s.1<;>cases ow s.2.1<;>cases rn s.2.2 q<;>cases s.1.all (λr=> !(decide (r.2.2.2.2.2.2.2.2>=q)))<;>cases s.2.1.all (λx=> !(decide (x.2.2>=q)))<;>rfl
theorem Gb (s:cQ)(q:Int)(h1:s.1.length<=10^9)(h2:s.2.1.length<=10^9)(h3:s.2.2.2.length<=10^9):oD s q=some (fw s q):=by
 unfold oD fw;simp only[NO _ h1,NS,K6 _ _ h3,ab,bP];rw[oW (hit:=some false) (fin:=cond (s.2.1.all (λx=> !((x.1==1)&&decide (x.2.2>=q)))) (some true) (some false)) (λr:iE=> !((r.2.2.2.2.2.2.2.1==0)&&decide (r.2.2.2.2.2.2.2.2>=q))) s.1 (by omega) (λi hi nx=>?hs) (λnx=>?hf)]
 case hs=>
  simp only[nV]
  rw[ks,bl hi,ak]
  simp only[ah,ab,fO,bP]
  cases (s.1[i].2.2.2.2.2.2.2.1==0)<;>rfl
 case hf=>
  simp only[nV]
  rw[cP]
  simp only[af]
  rw[oW (hit:=some false) (fin:=some true) (λx:Slot=> !((x.1==1)&&decide (x.2.2>=q))) s.2.1 (by omega) (λi hi nx=>?hs) (λnx=>?hf)]
  case hs=>
   simp only[mI]
   rw[ks,bl hi,ak]
   simp only[ah,ab,fO,bP]
   cases (s.2.1[i].1==1)<;>rfl
  case hf=>
   simp only[mI]
   rw[cP];rfl
 cases hr:xl s.1 with
 |false=>rfl
 |true=>
  cases ht:ow s.2.1 with
  |false=>rfl
  |true=>
   cases hs:rn s.2.2 q with
   |false=>rfl
   |true=>
    have hq:1<=q:=by unfold rn at hs;simp only[ae,bh]at hs;exact hs.1.1.1.1
    have e1:s.1.all (λr=> !((r.2.2.2.2.2.2.2.1==0)&&decide (r.2.2.2.2.2.2.2.2>=q)))=s.1.all (λr=> !(decide (r.2.2.2.2.2.2.2.2>=q))):=by unfold xl at hr;simp only[ae,aF]at hr;rw[cD,aF,aF];refine forall_congr' λr=>forall_congr' λhm=>?_;rcases Tj (hr.1 r hm)with h0|h0;rw[h0];simp;rw[h0];simp only[au (show¬(0:Int)>=q by omega),fH]
    have e2:s.2.1.all (λx=> !((x.1==1)&&decide (x.2.2>=q)))=s.2.1.all (λx=> !(decide (x.2.2>=q))):=by unfold ow at ht;simp only[ae,aF,bK,aV]at ht;rw[cD,aF,aF];refine forall_congr' λx=>forall_congr' λhm=>?_;obtain⟨i,hi,rfl⟩:=List.mem_iff_getElem.1 hm;have hsl:=ht.2 i (by omega);unfold ns On at hsl;rw[vr hi]at hsl;simp only[ae,cE,aV]at hsl;rcases hsl.1.2 with h0|⟨h0,_⟩;rw[h0];simp;rw[h0];simp only[au (show¬(0:Int)>=q by omega),fH]
    rw[e1,e2];cases s.1.all (λr=> !(decide (r.2.2.2.2.2.2.2.2>=q)))<;>cases s.2.1.all (λx=> !(decide (x.2.2>=q)))<;>rfl
theorem ic (h:n<9223372036854775808:=by omega):ar (n:Int)=(n:Int):=ak
theorem Hc (h:n<4294967296:=by omega):IntKind.wrap .u32 (n:Int)=(n:Int):=by simp only[ar,gb,IntKind.wrap,IntKind.bits,IntKind.signed];simp;omega
theorem mE (b:UInt8):b.toNat<256:=b.toNat_lt
def bT (v:Int):Bytes:=(dh v).getD []
theorem om (v:Int):dh v=some (bT v):=by
 unfold bT;have:∃x,dh v=some x:=by simp only[dh,ez,ab];cases di v 0 65535<;>exact⟨_,rfl⟩
 obtain⟨x,hx⟩:=this;rw[hx];rfl
theorem kM (v:Int):bX v=some (bT v):=om v
theorem Fh (v:Int):(bT v).length=bif di v 0 65535 then 2 else 0:=by have h:=om v;simp only[dh,ez,ab]at h;cases hb:di v 0 65535<;>rw[hb]at h<;>(rw[<-du h];rfl)
theorem bF (v:Int):(bT v).length<=2:=by rw[Fh];cases di v 0 65535<;>simp
def iY (v:Int):Bytes:=(fV v).getD []
theorem qy (v:Int):fV v=some (iY v):=by
 unfold iY;have:∃x,fV v=some x:=by simp only[fV,ez,ab];cases di v 0 4294967295<;>exact⟨_,rfl⟩
 obtain⟨x,hx⟩:=this;rw[hx];rfl
theorem yL (v:Int):gi v=some (iY v):=qy v
theorem Mi (v:Int):(iY v).length=bif di v 0 4294967295 then 4 else 0:=by have h:=qy v;simp only[fV,ez,ab]at h;cases hb:di v 0 4294967295<;>rw[hb]at h<;>(rw[<-du h];rfl)
theorem eE (v:Int):(iY v).length<=4:=by rw[Mi];cases di v 0 4294967295<;>simp
def bM (s:Bytes)(i:Nat):Nat:=(s.getD i 0).toNat
theorem eH (s:Bytes)(i:Nat):bM s i<256:=mE _
theorem lI (h:i<s.length:=by omega):∃x,idx s (i:Int)=some x/\x.toNat=bM s i:=⟨s[i],bl h,by rw[bM,ca h]⟩
def eX (s:Bytes)(a n:Int):Bool:=decide (0<=a/\a+n<=(s.length:Int))
theorem C7 (s:Bytes)(a n:Int)(h:s.length<=10^9)(hn:0<=n:=by omega):nz s a n=some (eX s a n):=by
 unfold nz eX;by_cases h0:0<=a;by_cases h1:a<=(s.length:Int)
 rw[aw (show a>=0 from h0),aw h1,ak];simp only[ah,ab];congr 1;rw[decide_eq_decide];omega;rw[aw (show a>=0 from h0),au h1,au (show¬(0<=a/\a+n<=(s.length:Int)) by omega)];rfl;rw[au (show¬a>=0 from h0),au (show¬(0<=a/\a+n<=(s.length:Int)) by omega)];rfl
def cj (s:Bytes)(a:Int):Int:=bif eX s a 2 then((bM s a.toNat*256+bM s (a.toNat+1):Nat):Int) else-1
def fI (s:Bytes)(a:Int):Int:=bif eX s a 4 then(((bM s a.toNat*256+bM s (a.toNat+1))*65536+(bM s (a.toNat+2)*256+bM s (a.toNat+3)):Nat):Int) else-1
theorem AO (s:Bytes)(a:Int)(h:s.length<=10^9):hG s a=some (cj s a):=by unfold hG cj;rw[C7 s a 2 h,ab];cases hw:eX s a 2 with|false=>rfl|true=>simp only[eX,aD]at hw;obtain⟨n,rfl⟩:=aQ hw.1;obtain⟨x,hx,ex⟩:=lI (s:=s) (i:=n);obtain⟨y,hy,ey⟩:=lI (s:=s) (i:=n+1);have hxl:=eH s n;have hyl:=eH s (n+1);rw[ak (n:=(n:Int)+1),hx,show(n:Int)+1=((n+1:Nat):Int) by omega,hy];simp only[aj,af,ab,aA,ah];rw[lv,ex,ey,ic,ic];have e8:oU 8=8:=rfl;rw[e8,ak (n:=((bM s n:Nat):Int)*2^8),ak];congr 1;all_goals omega
theorem Ie (s:Bytes)(a:Int)(h:s.length<=10^9):oq s a=some (fI s a):=by
 unfold oq fI;rw[C7 s a 4 h,ab];cases hw:eX s a 4 with
 |false=>rfl
 |true=>
  simp only[eX,aD]at hw;obtain⟨n,rfl⟩:=aQ hw.1;have w1:eX s (n:Int) 2=true:=by simp only[eX,aD];omega
  have w2:eX s ((n:Int)+2) 2=true:=by simp only[eX,aD];omega
  have b0:=eH s n;have b1:=eH s (n+1);have b2:=eH s (n+2);have b3:=eH s (n+3);rw[ak (n:=(n:Int)+2),AO s _ h,AO s _ h];simp only[aj,af,ab,ah,cj,w1,w2,aA];rw[lv,show((n:Int)+2).toNat=n+2 by omega,show n+2+1=n+3 by omega];have e8:oU 16=16:=rfl;rw[e8,ak (n:=((bM s n*256+bM s (n+1):Nat):Int)*2^16),ak];congr 1;all_goals omega
theorem aoZ (a b:Nat)(ha:a<9223372036854775808)(hb:b<9223372036854775808):toNat (gr (a:Int)|||gr (b:Int))=a|||b:=by show(BitVec.ofInt 64 (a:Int)|||BitVec.ofInt 64 (b:Int)).toNat=_;rw[dA,dA,BitVec.toNat_or,dN,dN,dU (by omega),dU (by omega)]
theorem agu (a b:Nat)(ha:a<9223372036854775808:=by omega)(hb:b<9223372036854775808:=by omega):toNat (gr (a:Int)&&&gr (b:Int))=a&&&b:=by show(BitVec.ofInt 64 (a:Int)&&&BitVec.ofInt 64 (b:Int)).toNat=_;rw[dA,dA,BitVec.toNat_and,dN,dN,dU (by omega),dU (by omega)]
theorem aeU (a b:Nat)(ha:a<9223372036854775808)(hb:b<9223372036854775808):toNat (gr (a:Int)^^^gr (b:Int))=a^^^b:=by show(BitVec.ofInt 64 (a:Int)^^^BitVec.ofInt 64 (b:Int)).toNat=_;rw[dA,dA,BitVec.toNat_xor,dN,dN,dU (by omega),dU (by omega)]
theorem ajp (a b:Nat)(ha:a<4294967296)(hb:b<4294967296):toNat (BitVec.ofInt (IntKind.bits .u32) (a:Int)&&&BitVec.ofInt (IntKind.bits .u32) (b:Int))=a&&&b:=by show(BitVec.ofInt 32 (a:Int)&&&BitVec.ofInt 32 (b:Int)).toNat=_;rw[dA,dA,BitVec.toNat_and,dN,dN,dU (by omega),dU (by omega)]
theorem ag6 (a b:Nat)(ha:a<4294967296)(hb:b<4294967296):toNat (BitVec.ofInt (IntKind.bits .u32) (a:Int)^^^BitVec.ofInt (IntKind.bits .u32) (b:Int))=a^^^b:=by show(BitVec.ofInt 32 (a:Int)^^^BitVec.ofInt 32 (b:Int)).toNat=_;rw[dA,dA,BitVec.toNat_xor,dN,dN,dU (by omega),dU (by omega)]
theorem E1 (x k y:Nat)(hy:y<2^k:=by omega)(h:2^k*x+y<9223372036854775808:=by omega):ar (toNat (gr ((2^k*x:Nat):Int)|||gr (y:Int)):Int)=((2^k*x+y:Nat):Int):=by rw[aoZ _ _ (by omega) (by omega),<-Nat.two_pow_add_eq_or_of_lt hy];exact ic h
theorem Ji (s:Bytes)(a n:Int):(cond (decide (a<0)) (some true) (some (decide (a>(s.length:Int)-n))))=some (!eX s a n):=by cases hw:eX s a n with|true=>simp only[eX,aD]at hw;rw[au (show¬a<0 by omega),au (show¬a>(s.length:Int)-n by omega)];rfl|false=>simp only[eX,cU]at hw;by_cases h0:a<0;rw[aw h0];rfl;rw[au h0,aw (show a>(s.length:Int)-n by omega)];rfl
theorem vi (s:Bytes)(a:Int)(h:s.length<=10^9):eY s a=some (cj s a):=by unfold eY cj;rw[ak (n:=(s.length:Int)-2)];rw[Ji,ab];cases hw:eX s a 2 with|false=>rfl|true=>simp only[eX,aD]at hw;obtain⟨n,rfl⟩:=aQ hw.1;obtain⟨x,hx,ex⟩:=lI (s:=s) (i:=n);obtain⟨y,hy,ey⟩:=lI (s:=s) (i:=n+1);have hxl:=eH s n;have hyl:=eH s (n+1);rw[ak (n:=(n:Int)+1),hx,show(n:Int)+1=((n+1:Nat):Int) by omega,hy];simp only[aj,af,ah,ab,aA];rw[lv,ex,ey,ic (n:=bM s n),ic (n:=bM s (n+1))];have e8:oU 8=8:=rfl;rw[e8,show((bM s n:Nat):Int)*2^8=((2^8*bM s n:Nat):Int) by omega,ic (n:=2^8*bM s n),E1 (bM s n) 8 (bM s (n+1))];congr 1;all_goals omega
theorem yp (s:Bytes)(a:Int)(h:s.length<=10^9):ix s a=some (fI s a):=by
 unfold ix fI;rw[ak (n:=(s.length:Int)-4)];rw[Ji,ab];cases hw:eX s a 4 with
 |false=>rfl
 |true=>
  simp only[eX,aD]at hw;obtain⟨n,rfl⟩:=aQ hw.1;obtain⟨x0,h0,e0⟩:=lI (s:=s) (i:=n);obtain⟨x1,h1,e1⟩:=lI (s:=s) (i:=n+1);obtain⟨x2,h2,e2⟩:=lI (s:=s) (i:=n+2);obtain⟨x3,h3,e3⟩:=lI (s:=s) (i:=n+3);have b0:=eH s n;have b1:=eH s (n+1);have b2:=eH s (n+2);have b3:=eH s (n+3)
  rw[ak (n:=(n:Int)+1),ak (n:=(n:Int)+2),ak (n:=(n:Int)+3),h0,show(n:Int)+1=((n+1:Nat):Int) by omega,h1,
   show(n:Int)+2=((n+2:Nat):Int) by omega,h2,show(n:Int)+3=((n+3:Nat):Int) by omega,h3]
  simp only[aj,af,ah,ab,aA];rw[lv,lv,lv,e0,e1,e2,e3];generalize bM s n=p0 at*;generalize bM s (n+1)=p1 at*;generalize bM s (n+2)=p2 at*;generalize bM s (n+3)=p3 at*;have f24:oU 24=24:=rfl;have f16:oU 16=16:=rfl;have f8:oU 8=8:=rfl
  rw[ic (n:=p0),ic (n:=p1),ic (n:=p2),ic (n:=p3),f24,f16,f8,
   show((p0:Nat):Int)*2^24=((2^24*p0:Nat):Int) by omega,show((p1:Nat):Int)*2^16=((2^16*p1:Nat):Int) by omega,show((p2:Nat):Int)*2^8=((2^8*p2:Nat):Int) by omega,
   ic (n:=2^24*p0),ic (n:=2^16*p1),ic (n:=2^8*p2),E1 p0 24 (2^16*p1),
   show 2^24*p0+2^16*p1=2^16*(2^8*p0+p1) by omega,E1 _ 16 (2^8*p2),
   show 2^16*(2^8*p0+p1)+2^8*p2=2^8*(2^8*(2^8*p0+p1)+p2) by omega,E1 _ 8 p3]
  congr 1;all_goals omega
def EH (c:Nat):Nat:=if c%2=1 then(c/2)^^^3988292384 else c/2
def tF:Nat->Nat->Nat
 |0,c=>c
 |n+1,c=>EH (tF n c)
def anM (c:Nat)(s:Bytes):Nat:=s.foldl (λc b=>tF 8 (c^^^b.toNat)) c
def abJ (s:Bytes):Int:=4294967295-(anM 4294967295 s:Int)
theorem BL {b:Nat}(ha:a<4294967296:=by omega)(hb:b<4294967296:=by omega):a^^^b<4294967296:=Nat.xor_lt_two_pow (n:=32) ha hb
theorem YI (h:c<4294967296):EH c<4294967296:=by unfold EH;split;exact BL;omega
theorem FE (h:c<4294967296):∀n,tF n c<4294967296
 |0=>h
 |n+1=>YI (FE h n)
theorem ad7 (k0:Int->Int->ay R)(k:Int->ay R)(hk:∀x y,k0 x y=k x)(v0:Bytes)(v4:Int)(c:Nat)(h:c<4294967296):ba (pn k0 v0 v4) fuel ((c:Int),0)=k (tF 8 c:Int):=by
 have B7:=eh
 have key:=Gl (T:=pn k0 v0 v4) 8 (λ(_:Unit) i=>((tF i c:Int),(i:Int))) (λ_ s nx=>nx s) (λ_=>k (tF 8 c:Int))
  (λi s nx hi=>by
   have hc:=FE h i;simp only[pn];have a1:=agu (tF i c) 1;have x1:=aeU (tF i c/2) 3988292384 (by omega) (by omega);simp only[Int.natCast_one]at a1
   rw[ks,ah,a1,Nat.and_one_is_mod,
    show oU 1=1 from rfl,show fdiv ((tF i c:Nat):Int) (2^1)=((tF i c/2:Nat):Int) from by rw[Int.fdiv_eq_ediv_of_nonneg _ (by omega)];rfl,
    show(3988292384:Int)=((3988292384:Nat):Int) from rfl,x1,
    ic (n:=tF i c%2),ic (n:=(tF i c/2)^^^3988292384) (by have:=BL (a:=tF i c/2) (b:=3988292384);omega),lv,lv,ak (n:=(i:Int)+1)]
   show _=nx ((EH (tF i c):Int),((i+1:Nat):Int));unfold EH;by_cases hp:tF i c%2=1;rw[hp,aH rfl];rfl;have h0:tF i c%2=0:=by omega
   rw[h0,lv];rfl)
  (λs nx=>by simp only[pn];rw[cP,af,hk])
  fuel 0 () (by omega) (by omega)
 refine key.trans ?_;rfl
theorem ac2 (k0:Int->Int->ay R)(k:Int->ay R)(hk:∀x y,k0 x y=k x)(v0:Bytes)(v4:Int)(c:Nat)(h:c<4294967296):ba (pa k0 v0 v4) fuel ((c:Int),0)=k (tF 8 c:Int):=by
 have B7:=eh
 have key:=Gl (T:=pa k0 v0 v4) 8 (λ(_:Unit) i=>((tF i c:Int),(i:Int))) (λ_ s nx=>nx s) (λ_=>k (tF 8 c:Int))
  (λi s nx hi=>by
   have hc:=FE h i;simp only[pa];have a1:=ajp (tF i c) 1 (by omega) (by omega);have x1:=ag6 (tF i c/2) 3988292384 (by omega) (by omega);simp only[Int.natCast_one]at a1
   rw[ks,ah,a1,Nat.and_one_is_mod,
    show min (Int.toNat 1) (IntKind.bits .u32)=1 from rfl,show fdiv ((tF i c:Nat):Int) (2^1)=((tF i c/2:Nat):Int) from by rw[Int.fdiv_eq_ediv_of_nonneg _ (by omega)];rfl,
    show(3988292384:Int)=((3988292384:Nat):Int) from rfl,x1,
    Hc (n:=tF i c%2),Hc (n:=(tF i c/2)^^^3988292384) (BL),lv,ak (n:=(i:Int)+1)]
   show _=nx ((EH (tF i c):Int),((i+1:Nat):Int));unfold EH;by_cases hp:tF i c%2=1;rw[hp,aH rfl];rfl;have h0:tF i c%2=0:=by omega
   rw[h0,lv];rfl)
  (λs nx=>by simp only[pa];rw[cP,af,hk])
  fuel 0 () (by omega) (by omega)
 refine key.trans ?_;rfl
theorem af4 (s:Bytes)(h:s.length<=10^9):BC s=some (abJ s):=by
 unfold BC;have:=GK (T:=se (λ(y4:Int) (_:Int)=>some (ar (4294967295-y4))) s) s (λ(c:Nat) i=>((c:Int),(i:Int))) (λ_ c=>c<4294967296) (λb c=> .ok (tF 8 (c^^^b.toNat))) (λc=>some (4294967295-(c:Int))) (by omega) (λi hi c nx hI=>?hs) (λi hi c c' hI hg=>?hn) (λc nx hI=>?hf) 4294967295 (by omega)
 case hs=>
  have hb:=mE s[i]
  simp only[se]
  rw[ks,bl hi,ah,ab,ic (n:=s[i].toNat),aeU c s[i].toNat (by omega) (by omega)]
  have hx:=BL hI (show s[i].toNat<4294967296 by omega)
  rw[ic,ad7 _ (λy=>nx (y,(i:Int)+1)) (λx y=>by rw[ak]) _ _ _ hx];rfl
 case hn=>
  cases hg
  exact FE (BL hI (by have:=mE s[i];omega)) 8
 case hf=>
  simp only[se]
  rw[cP,af,ak]
 rw[JU]at this;exact this
theorem not_xor (c:Nat)(h:c<4294967296):toNat (BitVec.ofInt (IntKind.bits .u32) (IntKind.max .u32)^^^BitVec.ofInt (IntKind.bits .u32) (c:Int))=4294967295-c:=by show(BitVec.ofInt 32 4294967295^^^BitVec.ofInt 32 (c:Int)).toNat=_;rw[show BitVec.ofInt 32 4294967295=BitVec.allOnes 32 by decide,dA,BitVec.allOnes_xor,BitVec.toNat_not,dN,dU (show c<2^32 by omega)]
theorem aft (s:Bytes)(h:s.length<=10^9):Bl s=some (abJ s):=by
 unfold Bl;have:=GK (T:=rL (λ(y4:Int) (_:Int)=>some (ar (IntKind.wrap .u32 (toNat (BitVec.ofInt (IntKind.bits .u32) (IntKind.max .u32)^^^BitVec.ofInt (IntKind.bits .u32) y4))))) s) s (λ(c:Nat) i=>((c:Int),(i:Int))) (λ_ c=>c<4294967296) (λb c=> .ok (tF 8 (c^^^b.toNat))) (λc=>some (4294967295-(c:Int))) (by omega) (λi hi c nx hI=>?hs) (λi hi c c' hI hg=>?hn) (λc nx hI=>?hf) 4294967295 (by omega)
 case hs=>
  have hb:=mE s[i]
  simp only[rL]
  rw[ks,bl hi,ah,ab,Hc (n:=s[i].toNat),ag6 c s[i].toNat (by omega) (by omega)]
  have hx:=BL hI (show s[i].toNat<4294967296 by omega)
  rw[Hc hx,ac2 _ (λy=>nx (y,(i:Int)+1)) (λx y=>by rw[ak]) _ _ _ hx];rfl
 case hn=>
  cases hg
  exact FE (BL hI (by have:=mE s[i];omega)) 8
 case hf=>
  simp only[rL]
  rw[cP,af,not_xor c hI,Hc,ic]
  congr 1
  all_goals omega
 rw[JU]at this;exact this
def Un (s:Bytes)(i:Nat):Nat:=bM s (i/8)/2^(7-i%8)%2
theorem ON (s:Bytes)(i:Nat):Un s i<2:=gk _ (by omega)
theorem abD (b k:Nat)(hb:b<256)(hk:k<=7):ar (toNat (gr (ar (fdiv (b:Int) ((2^k:Nat):Int)))&&&gr 1))=((b/2^k%2:Nat):Int):=by have e:fdiv (b:Int) ((2^k:Nat):Int)=((b/2^k:Nat):Int):=(Int.ofNat_fdiv b (2^k)).symm;have h1:b/2^k<=b:=Nat.div_le_self _ _;rw[e,ic (n:=b/2^k)];have:=agu (b/2^k) 1;rw[show((1:Nat):Int)=1 from rfl]at this;rw[this,Nat.and_one_is_mod];exact ic
theorem XO (s:Bytes)(i:Nat)(hi:i/8<s.length:=by omega)(h:s.length<=10^9:=by omega):wH s (i:Int)=some ((Un s i:Nat):Int):=by
 have e1:Int.tdiv (i:Int) 8=((i/8:Nat):Int):=(Int.ofNat_tdiv i 8).symm;have e2:tmod (i:Int) 8=((i%8:Nat):Int):=(Int.ofNat_tmod i 8).symm;unfold wH;rw[lv,e1,ak (n:=((i/8:Nat):Int)),bl hi,ab,lv,e2,ak (n:=7-((i%8:Nat):Int)),lv];have e3:(2:Int)^(min (Int.toNat (7-((i%8:Nat):Int))) (IntKind.bits .u8))=((2^(7-i%8):Nat):Int):=by rw[show min (Int.toNat (7-((i%8:Nat):Int))) (IntKind.bits .u8)=7-i%8 from by show min _ 8=_;omega];push_cast;rfl
 rw[e3,abD _ _ (mE _) (by omega),Un,bM,ca hi]
def win (s:Bytes)(a:Nat):Nat->Nat
 |0=>0
 |j+1=>2*win s a j+Un s (a+j)
theorem aeT (s:Bytes)(a:Nat):∀j,win s a j<2^j
 |0=>by simp[win]
 |j+1=>by have:=aeT s a j;have:=ON s (a+j);rw[win,Nat.pow_succ];omega
theorem Xf (s:Bytes)(a j:Nat)(hj:j<=32:=by omega):win s a j<4294967296:=Nat.lt_of_lt_of_le (aeT s a j) (Nat.pow_le_pow_right (n:=2) (by omega) hj)
def agm (s:Bytes)(a:Int):Int:=bif ((s.length:Int) !=16)|| !di a 0 96 then-1 else((win s a.toNat 32:Nat):Int)
theorem afD (s:Bytes)(a:Int):tY s a=some (agm s a):=by
 unfold tY agm;rw[df];cases hs:(s.length:Int) !=16;case true=>rfl
 cases ha:di a 0 96;rfl;have h1:=bh.1 ha;have h2:s.length=16:=by simp at hs;omega
 obtain⟨a,rfl⟩:=aQ h1.1;simp only[af,ab,aj,bZ,aA];refine eD (λi=>(((win s a i:Nat):Int),((a+i:Nat):Int))) 32 (by omega) (λi nx hi=>?_) (λnx=>?_);have hw:=Xf s a i;have hb:=ON s (a+i);simp only[pJ];rw[ak (n:=(a:Int)+32),ks,ah,lv,XO s (a+i),ab,ak (n:=((a+i:Nat):Int)+1)];have e1:ar (((win s a i:Nat):Int)*2^(oU 1))=((2^1*win s a i:Nat):Int):=by have:(2:Int)^(oU 1)=2:=rfl;rw[this,ak];omega
 rw[e1,E1 _ _ _];rw[show(((a+i:Nat):Int)+1)=((a+(i+1):Nat):Int) by omega];rfl;simp only[pJ];rw[ak (n:=(a:Int)+32),cP];rfl
def IB (s v:Bytes):Nat->Nat
 |0=>0
 |i+1=>if Un v i=1 then IB s v i^^^win s i 32 else IB s v i
theorem RL (s v:Bytes):∀i,IB s v i<4294967296
 |0=>by simp[IB]
 |i+1=>by have:=RL s v i;rw[IB];split;exact BL this (Xf s i 32);exact this
def yD (s v:Bytes):Int:=bif ((s.length:Int) !=16)||decide ((v.length:Int)>12) then-1 else((IB s v (8*v.length):Nat):Int)
theorem ac4 (s v:Bytes):tU s v=some (yD s v):=by
 unfold tU yD;cases hs:(s.length:Int) !=16;case true=>rfl
 cases hv:decide ((v.length:Int)>12);case true=>rfl
 have h2:s.length=16:=by simp at hs;omega
 have h3:v.length<=12:=by simp at hv;omega
 simp only[af,ab,bZ];refine eD (λi=>(((IB s v i:Nat):Int),(i:Int))) (8*v.length) (by omega) (λi nx hi=>?_) (λnx=>?_);have hw:=Xf s i 32;have hh:=RL s v i;have hb:=ON v i;have eW:agm s (i:Int)=((win s i 32:Nat):Int):=by unfold agm;rw[hs,bh.2 (show(0:Int)<=(i:Int)/\(i:Int)<=96 by omega)];rfl
 simp only[pE];rw[ak (n:=8*(v.length:Int)),ks,ah,XO v i,ab,afD,ab,eW,aeU _ _ (by omega) (by omega),ak (n:=(i:Int)+1),ic (Nat.lt_trans (BL hh hw) (by omega)),IB];by_cases h1:Un v i=1;rw[h1,aH rfl];rfl;rw[aI h1,show(((Un v i:Nat):Int)==1)=false from by simp;omega];rfl;simp only[pE];rw[ak (n:=8*(v.length:Int)),cP];rfl
def tP (f:D4):Bytes:=((iY f.2.1++iY f.2.2.1)++bT f.2.2.2.1)++bT f.2.2.2.2
theorem VG (f:D4):tV f=some (tP f):=by have:=eE f.2.1;have:=eE f.2.2.1;have:=bF f.2.2.2.1;have:=bF f.2.2.2.2;simp only[tV,yL,kM,ab];rw[aX,aX (by simp only[ai];omega),aX (by simp only[ai];omega)];rfl
theorem F5 (s:Bytes)(f:D4):rN s f=some (yD s (tP f)):=by simp only[rN,VG,ac4,ab]
def Bb (s:mf)(f:D4):Int:=bif ((s.2.length:Int)==0)||decide (yD s.1 (tP f)<0) then-1 else tmod (yD s.1 (tP f)) (s.2.length:Int)
theorem Zt (s:mf)(f:D4):xH s f=some (Bb s f):=by
 unfold xH Bb;rw[F5,ab];cases h0:(s.2.length:Int)==0;case true=>rfl
 cases decide (yD s.1 (tP f)<0);case true=>rfl
 simp only[af,ab,bZ];rw[aI (by simpa using h0)]
theorem Nl (s:mf)(f:D4)(h:¬Bb s f<0):∃n:Nat,Bb s f=(n:Int)/\n<s.2.length:=by
 unfold Bb at h⊢;cases hc:((s.2.length:Int)==0)||decide (yD s.1 (tP f)<0)with
 |true=>rw[hc]at h;simp at h
 |false=>
  rw[hc]at h;simp only[ch,cH,cU]at hc;simp only[af]at h⊢;have h1:0<=yD s.1 (tP f):=by omega
  rw[dg h1]at h⊢;have:=eP (yD s.1 (tP f)) (show(0:Int)<s.2.length by omega);obtain⟨n,hn⟩:=aQ (show 0<=yD s.1 (tP f)%(s.2.length:Int) by omega);exact⟨n,hn,by omega⟩
def JW (s:mf)(q:Int)(f:D4):Int:=bif !rn s q||decide (Bb s f<0) then-1 else s.2.getD (Bb s f).toNat 0
theorem Sg (s:mf)(q:Int)(f:D4)(h:s.2.length<=10^9):qO s q f=some (JW s q f):=by
 unfold qO JW;rw[Zt,ab,K6 s q h,ab];cases rn s q;rfl;have ta:=Nl s f;cases hd:decide (Bb s f<0);case true=>rfl
 obtain⟨n,hn,hl⟩:=ta (fA hd);simp only[aj,af,ab,bZ,hn,bl hl,aA,ca hl]
theorem Oz (t:ax Slot)(f:D4)(h:∀j,j<8->oS (fW t j) f=false):∀n k,walk t f n k= -1
 |0,_=>rfl
 |n+1,k=>by unfold walk;rw[h _ (DU f k),Oz t f h n (k+1)];split<;>rfl
theorem Iv (f:D4):∀(t:ax Slot)(m:Int),(∀s∈t,oS s f=false)->xe f t m= -1
 |[],_,_=>rfl
 |s::r,m,h=>by unfold xe;rw[h s (by simp)];exact Iv f r (m+1) (λx hx=>h x (by simp[hx]))
theorem Vf (t:ax Slot)(f:D4)(h:ow t=true):xe f t 0=walk t f 8 0:=by simp only[ow,ae,aV,aF,bK]at h;obtain⟨h8,hs⟩:=h;by_cases hex:∃j,j<t.length/\oS (fW t j) f=true;obtain⟨j,hj,hu,e⟩:=Ct f t 0 hex;have:=hs j (by omega);simp only[ns,ae,cE,aK,aV]at this;simp only[oS,ae,aV,aD]at hu;rcases this.2 with g|g;rw[hu.1]at g;simp at g;rw[hu.2]at g;rw[show((0:Int))=((0:Nat):Int) from rfl,e,g];omega;have hn:∀j,j<t.length->oS (fW t j) f=false:=λj hj=>Bool.eq_false_iff.2 λhu=>hex ⟨j,hj,hu⟩;rw[Oz t f (λj hj=>hn j (by omega)),Iv];intro s xi;obtain⟨j,hj,rfl⟩:=fb xi;have:=hn j hj;rwa[vr hj]at this
def findF (t:ax Slot)(f:D4):Int:=bif ow t then walk t f 8 0 else-1
theorem PQ (t:ax Slot)(f:D4)(h:t.length<=10^9):vM t f=some (findF t f):=by unfold vM findF;rw[NS,ab];cases ht:ow t;rfl;simp only[aj,af,ah,Sf t f h,ab,Vf t f ht]
theorem Yt (t:ax Slot)(f:D4):∀n k,walk t f n k= -1\/∃m:Nat,walk t f n k=(m:Int)/\m<8
 |0,_=> .inl rfl
 |n+1,k=>by unfold walk;split;exact .inl rfl;split;exact .inr ⟨_,rfl,DU f k⟩;exact Yt t f n (k+1)
theorem Rp (t:ax Slot)(f:D4)(h:findF t f>=0):∃m:Nat,findF t f=(m:Int)/\m<t.length:=by
 unfold findF at h⊢;cases ht:ow t with
 |false=>rw[ht]at h;simp at h
 |true=>
  rw[ht]at h;simp only[ah]at h⊢;have h8:t.length=8:=by simp only[ow,ae,aV]at ht;exact ht.1
  rcases Yt t f 8 0 with g|⟨m,g,hm⟩;omega;exact⟨m,g,by omega⟩
def cx (m:bR):Bool:=m.all (λx=>(x.length:Int)==128)&&decide ((m.length:Int)<=64)
theorem E7 (m:bR)(h:m.length<=10^9):si m=some (cx m):=by
 unfold si cx;rw[oW (hit:=some false) (fin:=some (decide ((m.length:Int)<=64))) (λx:Bytes=>(x.length:Int)==128) m (by omega) (λi hi nx=>?hs) (λnx=>?hf)]
 case hs=>
  simp only[rb]
  rw[ks,bl hi,ak];rfl
 case hf=>
  simp only[rb]
  rw[cP];rfl
 cases m.all (λx=>(x.length:Int)==128)<;>rfl
theorem EX (m:bR)(h:m.length<=10^9):rO m=some (cx m):=E7 m h
def B9:aB:=(0,0,0,false)
def CR (m:aB):Bool:=di m.1 0 7&&(di m.2.1 0 1023&&di m.2.2.1 0 63)
def kT (d p:Int)(m:aB):Bool:=(m.1==d)&&(m.2.1==p)
def Gp (l:ax aB)(i:Nat):Bool:=CR (l.getD i B9)&&(range i).all (λj=> !(kT (l.getD i B9).1 (l.getD i B9).2.1 (l.getD j B9)))
def dj (l:ax aB):Bool:=decide ((l.length:Int)<=96)&&(range l.length).all (Gp l)
theorem Qn (l:ax aB)(h:l.length<=10^9):sP l=some (dj l):=by
 unfold sP dj;rw[oX (hit:=some false) (fin:=some true) (Gp l) l.length (by omega) (λi nx hi=>?hs) (λnx=>?hf)]
 case hs=>
  simp only[ot]
  rw[ks,bl hi,ak]
  simp only[ah,ab,ez,bP]
  rw[oX (hit:=some false) (fin:=nx ((i:Int)+1)) (λj=> !(kT l[i].1 l[i].2.1 (l.getD j B9))) i (by omega) (λj nx hj=>?hs2) (λnx=>?Bf)]
  case hs2=>
   have hjl:j<l.length:=by omega
   simp only[mS]
   rw[ks,bl hjl,ak]
   simp only[ah,ab,bP,ca hjl,kT,cF,fO];rfl
  case Bf=>
   simp only[mS]
   rw[cP];rfl
  simp only[Gp,CR,ca hi,cT]
  cases di l[i].1 0 7<;>cases di l[i].2.1 0 1023<;>cases di l[i].2.2.1 0 63<;>cases (range i).all (λj=> !(kT l[i].1 l[i].2.1 (l.getD j B9)))<;>rfl
 case hf=>
  simp only[ot]
  rw[cP];rfl
 have e:decide ((l.length:Int)>96)= !decide ((l.length:Int)<=96):=by rw[cD];simp
 rw[e];cases decide ((l.length:Int)<=96)<;>cases (range l.length).all (Gp l)<;>rfl
def Oa (l:ax aB)(d p:Int):Int:=match l.findIdx? (kT d p)with|some i=>(i:Int)|none=> -1
theorem K2 (l:ax aB)(d p:Int)(h:l.length<=10^9):kE l d p=some (Oa l d p):=by
 unfold kE Oa;rw[Du (hit:=λi=>some i) (fin:=some (-1)) (kT d p) l (by omega) (λi hi nx=>?hs) (λnx=>?hf)]
 case hs=>
  simp only[mM]
  rw[ks,bl hi,ak]
  simp only[ah,ab,bP,cF,kT];rfl
 case hf=>
  simp only[mM]
  rw[cP];rfl
 cases l.findIdx? (kT d p)<;>rfl
theorem Wo (l:ax aB)(i:Nat)(hi:i<l.length):(Oa l l[i].1 l[i].2.1==(i:Int))=(range i).all (λj=> !(kT l[i].1 l[i].2.1 (l.getD j B9))):=by
 have zB:kT l[i].1 l[i].2.1 l[i]=true:=by simp[kT]
 unfold Oa;cases hq:l.findIdx? (kT l[i].1 l[i].2.1)with
 |none=>rw[List.findIdx?_eq_none_iff]at hq;rw[hq l[i] (aZ hi)]at zB;cases zB
 |some k=>
  rw[List.findIdx?_eq_some_iff_getElem]at hq;obtain⟨hk,hpk,gY⟩:=hq;rw[cD,aF];simp only[bK,aV,aK];constructor;intro e j hj;have hjl:j<l.length:=by omega
  rw[ca hjl];have:=gY j (by omega);simpa using this;intro ES;rcases Nat.lt_trichotomy k i with hki|hki|hki;have:=ES k hki;rw[ca hk,hpk]at this;cases this;omega;have:=gY i hki;rw[zB]at this;simp at this
theorem F6 (l:ax aB)(h:l.length<=10^9):oB l=some (dj l):=by
 unfold oB dj;rw[oX (hit:=some false) (fin:=some (decide ((l.length:Int)<=96))) (Gp l) l.length (by omega) (λi nx hi=>?hs) (λnx=>?hf)]
 case hs=>
  simp only[nQ]
  rw[ks,bl hi,ak]
  simp only[ah,ab,df,bP,K2 _ _ _ h,bne,Wo l i hi,Gp,CR,ca hi]
  cases di l[i].1 0 7<;>cases di l[i].2.1 0 1023<;>cases di l[i].2.2.1 0 63<;>cases (range i).all (λj=> !(kT l[i].1 l[i].2.1 (l.getD j B9)))<;>rfl
 case hf=>
  simp only[nQ]
  rw[cP];rfl
 cases decide ((l.length:Int)<=96)<;>cases (range l.length).all (Gp l)<;>rfl
def Cy (n:Int)(l:cZ)(i:Nat):Bool:=di (l.getD i 0) 0 (n-1)&& !((l.take i).contains (l.getD i 0))
def dy (p:cK):Bool:=di p.1 0 130944&&(di p.2.1 1 512&&(di p.2.2.1 0 16&&(range p.2.2.2.length).all (Cy p.2.2.1 p.2.2.2)))
def B4 (n:Int)(l:cZ):ax Bool:=(range n.toNat).map λk:Nat=>l.contains (k:Int)
theorem Ol (n:Int)(l:cZ):(B4 n l).length=n.toNat:=by simp[B4]
theorem DN (n:Int)(l:cZ)(k:Nat)(h:k<(B4 n l).length):(B4 n l)[k]=l.contains (k:Int):=by simp[B4]
theorem aaL (n:Int)(l:cZ)(k:Nat)(h:k<n.toNat):(B4 n l).set k true=B4 n (l++[(k:Int)]):=by
 apply List.ext_getElem;simp[B4];intro j h1 h2;rw[List.getElem_set];split;rename_i e;subst e;rw[DN];simp;rename_i e;rw[DN,DN];simp only[List.contains_append];have:([(k:Int)].contains (j:Int))=false:=by simp;omega
 rw[this];simp
theorem S4 {T:(ax Bool×Int->ay Bool)->ax Bool×Int->ay Bool}(n:Int)(l:cZ)(hl:l.length<=10^9)
 (hs:∀i (hi:i<l.length)(s:ax Bool) nx,T nx (s,(i:Int))=aa (cond (!(di l[i] 0 (n-1))) (some true) (aa (idx s l[i]) λx=>some x)) λq=>
  cond q (some false) (aa (idx s l[i]) λ_=>aa (idx s l[i]) λ_=>nx (s.set l[i].toNat true,((i+1:Nat):Int)))) (hf:∀s nx,T nx (s,(l.length:Int))=some true):
 ba T fuel (List.replicate n.toNat false,0)=some ((range l.length).all (Cy n l)):=by
 have e0:(List.replicate n.toNat false,(0:Int))=(B4 n (l.take 0),((0:Nat):Int)):=by congr 1;simp only[B4,List.take_zero,List.contains_nil,List.map_const',List.length_range]
 rw[e0,Hj (hit:=some false) (fin:=some true) (λi=>(B4 n (l.take i),(i:Int))) (Cy n l) l.length (by omega) (λi nx hi hp=>?hs) (λ_ nx=>hf _ nx)]
 case hs=>
  rw[hs i hi]
  unfold Cy
  rw[ca hi]
  by_cases ta:di l[i] 0 (n-1)=true
  ·have hb:=ta
   rw[bh]at hb
   obtain⟨k,hk⟩:∃k:Nat,l[i]=(k:Int):=⟨l[i].toNat,by omega⟩
   have hkn:k<(B4 n (l.take i)).length:=by rw[Ol];omega
   rw[ta,hk,bl hkn,DN]
   simp only[aj,af,ab,bq,fO,aA]
   rw[aaL _ _ _ (by rw[Ol]at hkn;exact hkn),<-hk,<-bL hi]
  ·have ahC:di l[i] 0 (n-1)=false:=by simpa using ta
   rw[ahC];rfl
 cases (range l.length).all (Cy n l)<;>rfl
theorem GQ (p:cK)(h:p.2.2.2.length<=10^9):tB p=some (dy p):=by
 unfold tB dy;simp only[ez,ab,bP];by_cases hn:di p.2.2.1 0 16=true
 ·have hb:=hn;rw[bh]at hb;rw[zip,aX,S4 p.2.2.1 p.2.2.2 h (λi hi s nx=>?hs) (λs nx=>?hf)]
  case hs=>
   simp only[uI]
   rw[ks,bl hi,ak (n:=(i:Int)+1),ak (n:=p.2.2.1-1)]
   simp only[ah,ab,ez];rfl
  case hf=>
   simp only[uI]
   rw[cP];rfl
  rw[hn];cases di p.1 0 130944<;>cases di p.2.1 1 512<;>rfl
 have BX:di p.2.2.1 0 16=false:=by simpa using hn
 rw[BX];cases di p.1 0 130944<;>cases di p.2.1 1 512<;>rfl
theorem tR (p:cK)(h:p.2.2.2.length<=10^9):iJ p=some (dy p):=by
 unfold iJ dy;simp only[df,ab,bP];by_cases hn:di p.2.2.1 0 16=true
 ·have hb:=hn;rw[bh]at hb;rw[zip,aX,S4 p.2.2.1 p.2.2.2 h (λi hi s nx=>?hs) (λs nx=>?hf)]
  case hs=>
   simp only[ub]
   rw[ks,bl hi,ak (n:=(i:Int)+1),ak (n:=p.2.2.1-1)]
   simp only[ah,ab,df];rfl
  case hf=>
   simp only[ub]
   rw[cP];rfl
  rw[hn];cases di p.1 0 130944<;>cases di p.2.1 1 512<;>rfl
 have BX:di p.2.2.1 0 16=false:=by simpa using hn
 rw[BX];cases di p.1 0 130944<;>cases di p.2.1 1 512<;>rfl
def iW (n:Int):Bool:=(n==2)||((n==4)||((n==8)||(n==16)))
theorem EZ (n:Int):uR n=some (iW n):=by simp only[uR,bP,ab,iW,cT]
theorem C0 (n:Int):rV n=some (iW n):=EZ n
theorem gQ {n:Int}:iW n=true↔n=2\/n=4\/n=8\/n=16:=by simp[iW]
theorem AR (x:Int)(k:Nat)(hk:k<=64:=by omega):ar x%(2^k:Int)=x%(2^k:Int):=by
 obtain⟨c,hc⟩:∃c:Int,(18446744073709551616:Int)=2^k*c:=⟨2^(64-k),by rw[<-Int.pow_add,show k+(64-k)=64 by omega];rfl⟩
 have:ar x=x\/∃q:Int,ar x=x+18446744073709551616*q:=by
  right;simp only[ar,gb,IntKind.wrap,IntKind.bits,IntKind.signed];simp;have h1:x=x%18446744073709551616+18446744073709551616*(x/18446744073709551616):=by omega
  split;exact⟨-(x/18446744073709551616)-1,by omega⟩;exact⟨-(x/18446744073709551616),by omega⟩
 rcases this with h|⟨q,h⟩;rw[h];rw[h,hc,Int.mul_assoc,Int.add_mul_emod_self_left]
theorem Ce (x:Int)(k:Nat)(hk:k<63:=by omega):((gr x&&&gr (2^k-1)).toNat:Int)=x%2^k:=by
 have h2:(2:Int)^k<=2^62:=by have:(2:Nat)^k<=2^62:=Nat.pow_le_pow_right (by omega) (by omega);exact_mod_cast this
 have h0:(1:Int)<=2^k:=by have:1<=(2:Nat)^k:=Nat.one_le_two_pow;exact_mod_cast this
 have hm:(gr (2^k-1)).toNat=2^k-1:=by
  show(BitVec.ofInt 64 (2^k-1)).toNat=2^k-1;rw[BitVec.toNat_ofInt,Int.emod_eq_of_lt (by omega) (by omega)];have:((2:Int)^k-1)=((2^k-1:Nat):Int):=by have:1<=(2:Nat)^k:=Nat.one_le_two_pow;push_cast [this];rfl
  rw[this];rfl
 rw[BitVec.toNat_and,hm,Nat.and_two_pow_sub_one_eq_mod];show(((BitVec.ofInt 64 x).toNat%2^k:Nat):Int)=x%2^k;rw[BitVec.toNat_ofInt];have hx:0<=x%18446744073709551616:=by omega
 have e:(((x%18446744073709551616).toNat%2^k:Nat):Int)=(x%18446744073709551616)%2^k:=by push_cast;rw[Int.toNat_of_nonneg hx]
 refine e.trans ?_;exact Int.emod_emod_of_dvd x ⟨2^(64-k),by rw[<-Int.pow_add,show k+(64-k)=64 by omega];rfl⟩
theorem HN (x n:Int)(h0:0<n:=by omega)(h1:n<=4611686018427387904:=by omega):iK x n=some (x%n):=by
 unfold iK;have:=eL x (show n≠0 by omega);have:=eP x h0;have hn:(n.natAbs:Int)=n:=by omega
 rw[lv,Int.tmod_eq_emod];split;rw[cP];simp;rw[ks,ak];simp only[ah,hn];congr 1;omega
def bG (r:kx):Int:=if iW r.2.1 then(r.2.2.2-r.2.2.1)%(2*r.2.1) else 0
theorem TD (r:kx):sn r=some (bG r):=by
 unfold sn bG;rw[EZ,ab];cases hs:iW r.2.1 with
 |false=>rfl
 |true=>
  simp only[aj,af,bQ];congr 1;rcases gQ.1 hs with h|h|h|h<;>rw[h];have e:ar (ar (2*2)-1)=2^2-1:=by decide
  rw[e,Ce _ 2,AR _ 2,ak];rfl;have e:ar (ar (2*4)-1)=2^3-1:=by decide
  rw[e,Ce _ 3,AR _ 3,ak];rfl;have e:ar (ar (2*8)-1)=2^4-1:=by decide
  rw[e,Ce _ 4,AR _ 4,ak];rfl;have e:ar (ar (2*16)-1)=2^5-1:=by decide
  rw[e,Ce _ 5,AR _ 5,ak];rfl
theorem yJ (r:kx):je r=some (bG r):=by unfold je bG;rw[C0,ab];cases hs:iW r.2.1 with|false=>rfl|true=>simp only[aj,af,bQ];have hb:=gQ.1 hs;rw[ak (n:=2*r.2.1)];have a1:=eL r.2.2.2 (show 2*r.2.1≠0 by omega);have a2:=eP r.2.2.2 (show 0<2*r.2.1 by omega);have a3:=eL r.2.2.1 (show 2*r.2.1≠0 by omega);have a4:=eP r.2.2.1 (show 0<2*r.2.1 by omega);simp only[HN _ (2*r.2.1) (show 0<2*r.2.1 by omega),ab];rw[ak,<-Int.sub_emod]
def cV (r:kx):Bool:=di r.1 0 130944&&(iW r.2.1&&(di r.2.2.1 0 (2*r.2.1-1)&&(di r.2.2.2 0 (2*r.2.1-1)&&decide (bG r<=r.2.1))))
theorem yu {n:Int}(h:iW n=true):ar (ar (2*n)-1)=2*n-1:=by have:=gQ.1 h;rw[ak (n:=2*n),ak]
theorem LV (r:kx):tC r=some (cV r):=by unfold tC cV;simp only[ez,EZ,TD,ab,bP,cF];cases hs:iW r.2.1 with|false=>rfl|true=>rw[yu hs]
theorem wE (r:kx):js r=some (cV r):=by unfold js cV;simp only[df,C0,yJ,ab,bP,cF];cases hs:iW r.2.1 with|false=>rfl|true=>rw[yu hs]
theorem VX (p:cK)(h:p.2.2.2.length<=10^9):ya p=some p:=by unfold ya;rw[aX (by simp;omega)];rfl
theorem lG (l:cZ)(h:l.length<=10^9):fS l=some l:=by unfold fS;rw[aX (by simp;omega)];rfl
theorem tk (p:cK)(h:p.2.2.2.length<=10^9):il p=some p:=by unfold il;rw[lG _ h];rfl
def gx (p:cK)(l:cZ):cK:=(p.1,p.2.1,p.2.2.1,p.2.2.2++l)
def As (p:cK)(l:cZ):Bool:=dy p&&dy (gx p l)
def ER (p:cK)(l:cZ):cK×Bool:=bif As p l then(gx p l,true) else(p,false)
theorem K1 (p:cK)(l:cZ)(h:p.2.2.2.length+l.length<=10^9):fQ p l=some (ER p l):=by unfold fQ;rw[tk p (by omega),ab,aX,tR p (by omega)];rw[tR (p.1,p.2.1,p.2.2.1,p.2.2.2++l) (by simp;omega)];simp only[ab,bP,ER,As];show _=some (bif dy p&&dy (p.1,p.2.1,p.2.2.1,p.2.2.2++l) then _ else _);cases dy p<;>cases dy (p.1,p.2.1,p.2.2.1,p.2.2.2++l)<;>rfl
theorem ahu (p:cK)(l:cZ):(ER p l).2=As p l:=by unfold ER;cases As p l<;>rfl
def oh (n:Int)(s:kz):Bool:=di s.2.1 1 n&&di s.1 0 65535
def bu (l:ax kz):cZ:=l.flatMap (·.2.2)
def dI (l:ax kz):Int:=(l.map (·.2.1)).sum
def Mb (t:dx):Bool:=cV t.1&&(dy t.2.1&&(di t.2.2.2 0 65535&&(t.2.2.1.all (oh t.1.2.1)&&(As t.2.1 (bu t.2.2.1)&&decide (dI t.2.2.1<=t.1.2.1)))))
theorem xB (n:Int):∀l:ax kz,l.all (oh n)=true->0<=dI l
 |[],_=>by simp[dI]
 |x::l,h=>by simp only[cc,ae]at h;have:=xB n l h.2;have hx:=h.1;unfold oh at hx;simp only[ae,bh]at hx;simp only[dI,cS,List.sum_cons]at this⊢;omega
theorem NP (p:cK)(n:Int)(hn:n<=16)(fin:Int×cZ->ay Bool)(qc:∀s:Int×cZ,p.2.2.2.length+s.2.length<=10^9->fin s=some (As p s.2)):
 ∀(l:ax kz)(left:Int)(acc:cZ),0<=left->left<=n->p.2.2.2.length+(acc.length+(bu l).length)<=10^9->
 BT (λx (s:Int×cZ) k=>cond (decide (x.2.1<1)||(decide (x.2.1>s.1)|| !(di x.1 0 65535))) (some false) (room (s.2.length+x.2.2.length) (k (ar (s.1-x.2.1),s.2++x.2.2)))) fin l (left,acc)
  =some (l.all (oh n)&&(As p (acc++bu l)&&decide (dI l<=left)))
 |[],left,acc,h0,h1,h2=>by rw[BT,qc _ (by simp[bu]at h2;exact h2)];simp[bu,dI,h0]
 |x::l,left,acc,h0,h1,h2=>by
  have hb:bu (x::l)=x.2.2++bu l:=by simp[bu]
  have hc:dI (x::l)=x.2.1+dI l:=by simp only[dI,cS,List.sum_cons]
  rw[hb,ai]at h2;rw[BT,cc,hb,hc];by_cases c1:x.2.1<1;have e:oh n x=false:=by unfold oh di;rw[au (show¬1<=x.2.1 by omega)];rfl
  rw[e,aw c1];rfl;rw[au c1];by_cases c2:x.2.1>left;rw[aw c2];simp only[jF,cJ,iH,ah];cases ha:l.all (oh n)with|false=>simp|true=>have:=xB n l ha;rw[au (show¬x.2.1+dI l<=left by omega)];simp
  rw[au c2];have e:oh n x=di x.1 0 65535:=by have:di x.2.1 1 n=true:=bh.2 ⟨by omega,by omega⟩;unfold oh;rw[this];rfl
  rw[e];cases di x.1 0 65535 with
  |false=>rfl
  |true=>
   simp only[cJ,aj,af,bq];rw[aX,ak,NP p n hn fin qc l _ _ (by omega) (by omega) (by rw[ai];omega),aR];have e:decide (dI l<=left-x.2.1)=decide (x.2.1+dI l<=left):=by rw[cD];simp;omega
   rw[e]
theorem VO (t:dx)(h1:t.2.2.1.length<=10^9)(h2:t.2.1.2.2.2.length+(bu t.2.2.1).length<=10^9):yq t=some (Mb t):=by
 unfold yq Mb;simp only[wE,tR _ (show t.2.1.2.2.2.length<=10^9 by omega),df,ab,bP];cases hr:cV t.1 with
 |false=>rfl
 |true=>
  have hn:0<=t.1.2.1/\t.1.2.1<=16:=by unfold cV at hr;simp only[ae]at hr;have:=gQ.1 hr.2.1;omega
  have B7:=eh;have key:=DJ (R:=Bool) (T:=uf (λ(_:Int) (y9:cZ) (_:Int)=>aa (fQ t.2.1 y9) λwa=>some wa.2) (λ(He:Bool) (_:Int) (_:cZ) (_:Int)=>some He) false t.2.2.1 ((List.length t.2.2.1:Int)) t) t.2.2.1 (λ(s:Int×cZ) i=>(s.1,s.2,(i:Int))) (λx (s:Int×cZ) k=>cond (decide (x.2.1<1)||(decide (x.2.1>s.1)|| !(di x.1 0 65535))) (some false) (room (s.2.length+x.2.2.length) (k (ar (s.1-x.2.1),s.2++x.2.2)))) (λs=>aa (fQ t.2.1 s.2) λsa=>some sa.2) (λi hi s nx=>by simp only[uf];rw[ks,bl hi,ak (n:=(i:Int)+1)];simp only[ah,ab,df,bP,cT];rfl) (λs nx=>by simp only[uf];rw[cP];rfl) fuel 0 (t.1.2.1,([]:cZ)) (by omega) (by omega);rw[eZ,NP t.2.1 t.1.2.1 (by omega) _ (λs hs=>by rw[K1 _ _ hs,ab,ahu]) _ _ _ (by omega) (by omega) (by simpa using h2)]at key;cases dy t.2.1 with|false=>rfl|true=>cases di t.2.2.2 0 65535 with|false=>rfl|true=>refine key.trans ?_;simp
def sc (s:ef):Bool:=di s.2.1 0 65535&&(di s.2.2.1 0 65535&&(!decide ((List.length s.2.2.2.2.2.2.2:Int)>320)&&
 (bif s.1==17 then(s.2.2.2.1==0)&&((s.2.2.2.2.1==0)&&((s.2.2.2.2.2.1==0)&&(s.2.2.2.2.2.2.1==0)))
  else(s.1==6)&&(di s.2.2.2.1 0 4294967295&&(di s.2.2.2.2.1 0 4294967295&&(di s.2.2.2.2.2.1 0 31&&di s.2.2.2.2.2.2.1 0 65535))))))
theorem Yg (s:ef):qA s=some (sc s):=by simp only[qA,ez,ab,bP,cF,cT,cN,Bool.not_or,fO,Bool.and_assoc,sc]
theorem XS (s:ef):qp s=some (sc s):=by simp only[qp,df,ab,bP,cF,cT,cN,Bool.not_or,fO,Bool.and_assoc,sc];by_cases h:s.1=17;rw[h];rfl;rw[show(s.1==17)=false from by simpa using h];cases s.1==6<;>rfl
def Bc (f:Int):Bool:=(f==16)||(f==17)||(f==24)||(f==25)
theorem Kz (f:Int)(h:di f 0 31=true):(ar (toNat (gr f&&&~~~ gr 9))==16)=Bc f:=by
 have key:∀k:Fin 32,(ar (toNat (gr (k.val:Int)&&&~~~ gr 9))==16)=Bc (k.val:Int):=by decide
 rw[bh]at h;have:=key ⟨f.toNat,by omega⟩;rwa[show((f.toNat:Nat):Int)=f by omega]at this
theorem Ky (f:Int)(h:di f 0 31=true):qu f=some (Bc f):=by
 have key:∀k:Fin 32,((ar (toNat (gr (k.val:Int)&&&gr 16)) !=0)&&(ar (toNat (gr (k.val:Int)&&&~~~ gr 25))==0))=Bc (k.val:Int):=by decide
 rw[bh]at h;have:=key ⟨f.toNat,by omega⟩;rw[show((f.toNat:Nat):Int)=f by omega]at this;simp only[qu,bP,ab,cF];rw[this]
theorem DP {s:ef}(h:sc s=true)(h6:(s.1==6)=true):di s.2.2.2.2.2.1 0 31=true:=by
 have:s.1=6:=by simpa using h6
 unfold sc at h;rw[this]at h;simp only[ae]at h;have h:=h.2.2.2;simp at h;exact h.2.2.1
def pC (p:aP):Bool:=di p.1 0 281474976710655&&(di p.2.1 0 281474976710655&&(di p.2.2.1 (-1) 4095&&(di p.2.2.2.1 0 255&&(di p.2.2.2.2.2.1 0 255&&(di p.2.2.2.2.1 0 65535&&(di p.2.2.2.2.2.2.1 0 4294967295&&(di p.2.2.2.2.2.2.2.1 0 4294967295&&sc p.2.2.2.2.2.2.2.2)))))))
def dw (p:aP):Bool:=pC p&&(decide ((List.length p.2.2.2.2.2.2.2.2.2.2.2.2.2.2.2:Int)<=128)||(p.2.2.2.2.2.2.2.2.1==6)&&Bc p.2.2.2.2.2.2.2.2.2.2.2.2.2.1)
theorem yG (h:pC p=true):sc p.2.2.2.2.2.2.2.2=true:=by unfold pC at h;simp only[ae]at h;exact h.2.2.2.2.2.2.2.2
theorem Ig (p:aP):rj p=some (dw p):=by unfold rj dw;simp only[ez,Yg,ab,bP,cF,cT,cN,Bool.not_or,fO];rw[show(di p.1 0 281474976710655&&(di p.2.1 0 281474976710655&&(di p.2.2.1 (-1) 4095&&(di p.2.2.2.1 0 255&&(di p.2.2.2.2.2.1 0 255&&(di p.2.2.2.2.1 0 65535&&(di p.2.2.2.2.2.2.1 0 4294967295&&(di p.2.2.2.2.2.2.2.1 0 4294967295&&sc p.2.2.2.2.2.2.2.2))))))))=pC p from rfl];cases hh:pC p with|false=>rfl|true=>cases h6:p.2.2.2.2.2.2.2.2.1==6 with|false=>simp|true=>rw[Kz _ (DP (yG hh) h6)];simp[Bool.or_comm]
theorem oZ (p:aP):gw p=some (dw p):=by
 unfold gw dw;simp only[df,XS,ab];have e:∀X:ay Bool,(cond (di p.1 0 281474976710655) (cond (di p.2.1 0 281474976710655) (cond (di p.2.2.1 (-1) 4095) (cond (di p.2.2.2.1 0 255) (cond (di p.2.2.2.2.2.1 0 255) (cond (di p.2.2.2.2.1 0 65535) (cond (di p.2.2.2.2.2.2.1 0 4294967295) (cond (di p.2.2.2.2.2.2.2.1 0 4294967295) (cond (sc p.2.2.2.2.2.2.2.2) X (some false)) (some false)) (some false)) (some false)) (some false)) (some false)) (some false)) (some false)) (some false))=cond (pC p) X (some false):=by intro X;unfold pC;cases di p.1 0 281474976710655;rfl;cases di p.2.1 0 281474976710655;rfl;cases di p.2.2.1 (-1) 4095;rfl;cases di p.2.2.2.1 0 255;rfl;cases di p.2.2.2.2.2.1 0 255;rfl;cases di p.2.2.2.2.1 0 65535;rfl;cases di p.2.2.2.2.2.2.1 0 4294967295;rfl;cases di p.2.2.2.2.2.2.2.1 0 4294967295<;>rfl
 rw[e];cases hh:pC p with|false=>rfl|true=>cases h6:p.2.2.2.2.2.2.2.2.1==6 with|false=>simp[bP]|true=>rw[Ky _ (DP (yG hh) h6)];simp only[ah,ab,bP,cT,bq]
def fF (q:JD):Bool:=di q.1 0 130944&&(iW q.2.1&&di q.2.2 0 (ar ((ar (2*q.2.1))-1)))
theorem HC (q:JD):nT q=some (fF q):=by simp only[nT,df,C0,ab,bP,cF,fF]
def abc:rq:=((0,0,0,0,0,0,0,0,0,0,0,0,0,0,0,([]:Bytes)),0,0)
def Yk (p:rq):Bool:=(p.1.1==0)&&((p.1.2.1==0)&&((p.1.2.2.1==0)&&((p.1.2.2.2.1==0)&&((p.1.2.2.2.2.1==0)&&((p.1.2.2.2.2.2.1==0)&&((p.1.2.2.2.2.2.2.1==0)&&((p.1.2.2.2.2.2.2.2.1==0)&&((p.1.2.2.2.2.2.2.2.2.1==0)&&((p.1.2.2.2.2.2.2.2.2.2.1==0)&&((p.1.2.2.2.2.2.2.2.2.2.2.1==0)&&((p.1.2.2.2.2.2.2.2.2.2.2.2.1==0)&&((p.1.2.2.2.2.2.2.2.2.2.2.2.2.1==0)&&((p.1.2.2.2.2.2.2.2.2.2.2.2.2.2.1==0)&&((p.1.2.2.2.2.2.2.2.2.2.2.2.2.2.2.1==0)&&((p.1.2.2.2.2.2.2.2.2.2.2.2.2.2.2.2==([]:Bytes))&&((p.2.1==0)&&((p.2.2==0)&&true)))))))))))))))))
def D2 (r:bJ):Bool:=(cV r.1&&(fF r.2.1&&(fF r.2.2.1&&((r.2.1.1==r.2.2.1.1)&&((r.2.1.2.1==r.2.2.1.2.1)&&di r.2.2.2.2.2 0 1000000000000)))))&&
 (bif r.2.2.2.2.1 then dw r.2.2.2.1.1&&(di r.2.2.2.1.2.1 0 320&&di r.2.2.2.1.2.2 1 320) else Yk r.2.2.2.1)
theorem aeh (p:rq):Yk p=true↔p=abc:=by obtain⟨⟨a,b,c,d,e,f,g,h,i,j,k,l,m,n,o,q⟩,r,s⟩:=p;simp only[Yk,abc,dR,ae,aV,Prod.mk.injEq,and_assoc]
theorem PW (r:bJ):vj r=some (D2 r):=by unfold vj D2 Yk;simp only[wE,HC,df,oZ,ab,bP,cF,cT,cN,Bool.not_or,fO,bne];cases r.2.2.2.2.1<;>rfl
def eG (v:Vector):Bool:=(mu v).getD false
theorem E9 (v:Vector):mu v=some (eG v):=by
 have:∃b,mu v=some b:=by simp only[mu,tD,ez,ab,bP];exact⟨_,rfl⟩
 obtain⟨b,hb⟩:=this;rw[eG,hb];rfl
theorem yK (v:Vector):mm v=some (eG v):=E9 v
theorem H2 (l:ax α)(p:α->Bool):(range l.length).all (λi=>l[i]?.all p)=l.all p:=by rw[cD,aF,aF];constructor;intro h x hx;obtain⟨i,hi,rfl⟩:=fb hx;have:=h i (bK.2 hi);rwa[aq hi]at this;intro h i hi;rw[aq (bK.1 hi)];exact h _ (aZ _)
theorem Xi (l:ax α)(p q:α->Bool):l.all (λx=>p x&&q x)=(l.all p&&l.all q):=by induction l with|nil=>rfl|cons x l ih=>simp only[cc,ih];cases p x<;>cases q x<;>cases l.all p<;>rfl
def iw (h:Host):cZ:=[h.2.2.2.2.2.2.2.2.2.2.2.2.2.2.1,h.2.2.2.2.2.2.2.2.2.2.2.2.2.2.2.1,h.2.2.2.2.2.2.2.2.2.2.2.2.2.2.2.2.1,h.2.2.2.2.2.2.2.2.2.2.2.2.2.2.2.2.2.1,h.2.2.2.2.2.2.2.2.2.2.2.2.2.2.2.2.2.2]
def ry (h:Host):Bool:=di (h.2.2.2.1.length:Int) 1 2&&(((h.2.2.2.2.1.length:Int)==(h.2.2.2.1.length:Int))&&(((h.2.2.2.2.2.1.length:Int)==(h.2.2.2.1.length:Int))&&((h.2.2.2.2.2.2.1.length:Int)==(h.2.2.2.1.length:Int))))
def Ti (h:Host):Bool:=h.2.2.2.1.all D2&&(h.2.2.2.2.1.all dy&&h.2.2.2.2.2.1.all eG)
def dF (h:Host):Bool:=cx h.1&&(dj h.2.1&&(Mb h.2.2.1&&(qF h.2.2.2.2.2.2.2.1&&(ry h&&(fw h.2.2.2.2.2.2.2.2.1 (h.2.2.2.1.length:Int)&&(Ti h&&(iw h).all (λx=>di x 0 1000000000000)))))))
structure Hg (h:Host):Prop where
 a1:h.1.length<=10^9
 a2:h.2.1.length<=10^9
 t1:h.2.2.1.2.2.1.length<=10^9
 t2:h.2.2.1.2.1.2.2.2.length+(bu h.2.2.1.2.2.1).length<=10^9
 f1:h.2.2.2.2.2.2.2.1.2.2.length<=10^9
 s1:h.2.2.2.2.2.2.2.2.1.1.length<=10^9
 s2:h.2.2.2.2.2.2.2.2.1.2.1.length<=10^9
 s3:h.2.2.2.2.2.2.2.2.1.2.2.2.length<=10^9
 p1:∀p∈h.2.2.2.2.1,p.2.2.2.length<=10^9
theorem qZ (l:ry h=true):h.2.2.2.1.length<=2/\h.2.2.2.2.1.length=h.2.2.2.1.length/\h.2.2.2.2.2.1.length=h.2.2.2.1.length/\h.2.2.2.2.2.2.1.length=h.2.2.2.1.length:=by unfold ry at l;simp only[ae,bh,aV]at l;omega
theorem aaJ {T:(Int->ay R)->Int->ay R}{fin hit:ay R}(l:ry h=true)(hs:∀i (hi:i<h.2.2.2.1.length) nx,T nx (i:Int)=cond (!(D2 h.2.2.2.1[i]&&(dy (h.2.2.2.2.1[i]'((qZ l).2.1▸hi))&&eG (h.2.2.2.2.2.1[i]'((qZ l).2.2.1▸hi))))) hit (nx ((i+1:Nat):Int)))(hf:∀nx,T nx (h.2.2.2.1.length:Int)=fin):ba T fuel 0=cond (Ti h) fin hit:=by
 have hl:=qZ l;rw[oX (fin:=fin) (hit:=hit) (λi=>h.2.2.2.1[i]?.all D2&&(h.2.2.2.2.1[i]?.all dy&&h.2.2.2.2.2.1[i]?.all eG)) h.2.2.2.1.length (by omega) ?hs hf]
 case hs=>
  intro i nx hi
  rw[hs i hi,aq hi,aq (hl.2.1▸hi),aq (hl.2.2.1▸hi)]
  rfl
 rw[Xi,Xi,H2];have e1:=H2 h.2.2.2.2.1 dy;have e2:=H2 h.2.2.2.2.2.1 eG;rw[hl.2.1]at e1;rw[hl.2.2.1]at e2;rw[e1,e2];rfl
theorem Q8 {T:(Int->ay R)->Int->ay R}{fin hit:ay R}(h:Host)(hs:∀i (hi:i<(iw h).length) nx,T nx (i:Int)=cond (!(di (iw h)[i] 0 1000000000000)) hit (nx ((i+1:Nat):Int)))(hf:∀nx,T nx ((iw h).length:Int)=fin):ba T fuel 0=cond ((iw h).all (λx=>di x 0 1000000000000)) fin hit:=oW (λx=>di x 0 1000000000000) (iw h) (by simp[iw]) hs hf
theorem qn (h:Host)(z:Hg h):fB h=some (dF h):=by
 unfold fB dF;simp only[EX _ z.a1,F6 _ z.a2,VO _ z.t1 z.t2,KZ _ z.f1,Gb _ _ z.s1 z.s2 z.s3,df,ab,bP];cases cx h.1;rfl;cases dj h.2.1;rfl;cases Mb h.2.2.1;rfl;cases qF h.2.2.2.2.2.2.2.1;rfl;simp only[aj,af,cT,bne];rw[show(!di (h.2.2.2.1.length:Int) 1 2||(!((h.2.2.2.2.1.length:Int)==(h.2.2.2.1.length:Int))||(!((h.2.2.2.2.2.1.length:Int)==(h.2.2.2.1.length:Int))|| !((h.2.2.2.2.2.2.1.length:Int)==(h.2.2.2.1.length:Int)))))= !(ry h) by unfold ry;simp only[Bool.not_and]];cases hl:ry h;rfl;have hL:=qZ hl;simp only[aj,af,bq];rw[aaJ (h:=h) (hit:=some false) (fin:=some ((iw h).all (λx=>di x 0 1000000000000)&&fw h.2.2.2.2.2.2.2.2.1 (h.2.2.2.1.length:Int))) hl ?hs ?hf]
 case hs=>
  intro i hi nx
  simp only[tX]
  rw[ks,bl hi,bl (hL.2.1▸hi),bl (hL.2.2.1▸hi),ak (n:=(i:Int)+1)]
  simp only[ah,ab,PW,yK,tR _ (z.p1 _ (aZ _)),bP,cT,Bool.not_and]
  rfl
 case hf=>
  intro nx
  simp only[tX]
  rw[cP]
  simp only[af]
  refine(Q8 (fin:=some (fw h.2.2.2.2.2.2.2.2.1 (h.2.2.2.1.length:Int))) (hit:=some false) h ?_ ?_).trans ?_
  ·intro i hi nx
   simp only[sA]
   have nN:i<5:=hi
   change (bif decide ((i:Int)<5) then aa (idx (iw h) (i:Int)) _ else _)=_
   rw[ks,bl hi,ak (n:=(i:Int)+1),ab,df]
   rfl
  ·intro nx
   simp only[sA]
   rw[au (by simp[iw])];rfl
  ·cases (iw h).all (λx=>di x 0 1000000000000)<;>rfl
 cases Ti h<;>cases fw h.2.2.2.2.2.2.2.2.1 (h.2.2.2.1.length:Int)<;>cases (iw h).all (λx=>di x 0 1000000000000)<;>rfl
def hasB (l:cZ)(v:Int):Bool:=l.any (·==v)
theorem afw (l:cZ)(v:Int)(h:l.length<=10^9):tu l v=some (hasB l v):=by
 unfold tu hasB;rw[J1 (hit:=some true) (fin:=some false) (λx:Int=>x==v) l (by omega) (λi hi nx=>?hs) (λnx=>?hf)]
 case hs=>
  simp only[uj]
  rw[ks,bl hi,ak];rfl
 case hf=>
  simp only[uj]
  rw[cP];rfl
 cases l.any (λx=>x==v)<;>rfl
theorem TH (l:ax α)(j:Nat)(h:j<=l.length):sub l (j:Int) (l.length:Int)=some (l.drop j):=by unfold sub;rw[zip];simp
def wB (f:Filter)(p:aP):Bool:=qF f&&(((p.1==f.1)||((p.1==281474976710655)||f.2.1))&&((p.2.2.1== -1)||hasB f.2.2 p.2.2.1))
theorem R3 (f:Filter)(p:aP)(h:f.2.2.length<=10^9):xE f p=some (wB f p):=by simp only[xE,KZ f h,afw f.2.2 _ h,ab,wB];cases qF f<;>cases p.1==f.1<;>cases p.1==281474976710655<;>cases f.2.1<;>cases p.2.2.1== -1<;>rfl
def preB (a b n:Int):Bool:=fdiv a (2^(min (Int.toNat (ar (32-n))) (IntKind.bits .i64)))==fdiv b (2^(min (Int.toNat (ar (32-n))) (IntKind.bits .i64)))
theorem aaK {r:iE}(h:zL r=true):0<=r.2.2.2.1/\r.2.2.2.1<=32:=by rw[<-bh];unfold zL at h;simp only[ma,ez,ab,bP]at h;cases hp:di r.2.2.2.1 0 32 with|true=>rfl|false=>rw[hp]at h;revert h;cases di r.1 0 1000<;>cases r.2.1 !=0<;>cases r.2.1 !=6<;>cases r.2.1 !=17<;>cases di r.2.2.1 0 4294967295<;>simp
def agw (r:iE)(p:aP):Bool:=preB r.2.2.1 p.2.2.2.2.2.2.1 r.2.2.2.1&&(di p.2.2.2.2.2.2.2.2.2.2.1 r.2.2.2.2.1 r.2.2.2.2.2.1&&((r.2.2.2.2.2.2.1== -2)||(r.2.2.2.2.2.2.1==p.2.2.1)))
def HM (r:iE)(p:aP):Bool:=zL r&&(dw p&&(((r.2.1==0)||(r.2.1==p.2.2.2.2.2.2.2.2.1))&&agw r p))
theorem afz (a b n:Int)(h0:0<=n)(h1:n<=32):oE a b n=some (preB a b n):=by unfold oE preB;rw[aI (by rw[ak (n:=32-n)];omega),aI (by rw[ak (n:=32-n)];omega)]
theorem Zy (r:iE)(p:aP):qN r p=some (HM r p):=by unfold qN HM;rw[adg,ab];cases hr:zL r;rfl;have hp:=aaK hr;simp only[oZ,afz _ _ _ hp.1 hp.2,df,ab,agw];cases dw p<;>cases r.2.1==0<;>cases r.2.1==p.2.2.2.2.2.2.2.2.1<;>cases preB r.2.2.1 p.2.2.2.2.2.2.1 r.2.2.2.1<;>cases di p.2.2.2.2.2.2.2.2.2.2.1 r.2.2.2.2.1 r.2.2.2.2.2.1<;>cases r.2.2.2.2.2.2.1== -2<;>rfl
def I0:iE:=(0,0,0,0,0,0,0,0,0)
def yx (l:ax iE)(p:aP):Nat->Int
 |0=> -1
 |i+1=>bif HM (l.getD i I0) p&&(decide (yx l p i<0)||decide ((l.getD i I0).1<(l.getD (yx l p i).toNat I0).1)) then(i:Int) else yx l p i
theorem J4 (l:ax iE)(p:aP):∀i,yx l p i= -1\/∃n:Nat,yx l p i=(n:Int)/\n<i
 |0=> .inl rfl
 |i+1=>by rw[yx];cases HM (l.getD i I0) p&&(decide (yx l p i<0)||decide ((l.getD i I0).1<(l.getD (yx l p i).toNat I0).1))with|true=>exact .inr ⟨i,rfl,by omega⟩|false=>rcases J4 l p i with h|⟨n,h,hn⟩;exact .inl h;exact .inr ⟨n,h,by omega⟩
theorem YB (l:ax iE)(p:aP)(i:Nat)(hi:i<l.length)(nx:Int×Int->ay R): (aa (cond (HM l[i] p) (cond (decide (yx l p i<0)) (some true) (aa (idx l (yx l p i)) λx4=>some (decide (l[i].1<x4.1)))) (some false)) λq5=>cond q5 (nx ((i:Int),((i+1:Nat):Int))) (nx (yx l p i,((i+1:Nat):Int))))=nx (yx l p (i+1),((i+1:Nat):Int)):=by
 rw[yx,ca hi];cases HM l[i] p;rfl;rcases J4 l p i with h|⟨n,h,hn⟩;rw[h];rfl;have hl:n<l.length:=by omega
 rw[h,au (show¬(n:Int)<0 by omega),bl hl];simp only[ah,af,ab,aA,ca hl,bq,cJ];cases decide (l[i].1<l[n].1)<;>rfl
def D7 (l:ax iE)(p:aP):Int:=bif xl l then yx l p l.length else-1
theorem Rq (l:ax iE)(p:aP)(h:D7 l p>=0):∃n:Nat,D7 l p=(n:Int)/\n<l.length:=by unfold D7 at h⊢;cases hr:xl l with|false=>rw[hr]at h;simp at h|true=>rw[hr]at h;simp only[ah]at h⊢;rcases J4 l p l.length with g|g;omega;exact g
theorem Zw (l:ax iE)(p:aP)(h:l.length<=10^9):vN l p=some (D7 l p):=by unfold vN D7;rw[NO l h,ab];cases xl l;rfl;simp only[aj,af,ah];refine eD (λi=>(yx l p i,(i:Int))) l.length (by omega) (λi nx hi=>?_) (λnx=>?_);simp only[qI];rw[ks,bl hi,ak (n:=(i:Int)+1)];simp only[ah,ab,Zy];exact YB l p i hi nx;simp only[qI];rw[cP];rfl
def lr (p:aP):D4:=(p.2.2.2.2.2.2.2.2.1,p.2.2.2.2.2.2.1,p.2.2.2.2.2.2.2.1,p.2.2.2.2.2.2.2.2.2.1,p.2.2.2.2.2.2.2.2.2.2.1)
theorem K0 (p:aP):tt p=some (lr p):=rfl
theorem aeb (p:aP):C8 p=some (lr p):=rfl
def akw:Slot:=(0,(0,0,0,0,0),0)
def rE (s:cQ)(q:Int)(p:aP):Int:=
 bif !fw s q|| !dw p then-1 else
 bif decide (D7 s.1 p>=0) then(bif (s.1.getD (D7 s.1 p).toNat I0).2.2.2.2.2.2.2.1==1 then-1 else(s.1.getD (D7 s.1 p).toNat I0).2.2.2.2.2.2.2.2) else
 bif decide (findF s.2.1 (lr p)>=0) then(s.2.1.getD (findF s.2.1 (lr p)).toNat akw).2.2 else JW s.2.2 q (lr p)
theorem ZK (s:cQ)(q:Int)(p:aP)(h1:s.1.length<=10^9)(h2:s.2.1.length<=10^9)(h3:s.2.2.2.length<=10^9):qP s q p=some (rE s q p):=by
 unfold qP rE;rw[Gb s q h1 h2 h3,ab,oZ,ab];cases fw s q;rfl;cases dw p;rfl;simp only[aj,af,ab,bZ,Zw s.1 p h1,K0,PQ s.2.1 _ h2,Sg s.2.2 q _ h3];cases hd:decide (D7 s.1 p>=0)with
 |true=>obtain⟨n,hn,hl⟩:=Rq s.1 p (bk hd);simp only[ah,hn,bl hl,ab,aA,ca hl];cases s.1[n].2.2.2.2.2.2.2.1==1<;>rfl
 |false=>
  simp only[af];cases QM:decide (findF s.2.1 (lr p)>=0)with
  |true=>obtain⟨n,hn,hl⟩:=Rp s.2.1 (lr p) (bk QM);simp only[ah,hn,bl hl,ab,aA,ca hl]
  |false=>rfl
def Yx (a b:Int):Int:=(lY a b).getD 0
theorem JV (a b:Int):lY a b=some (Yx a b):=by
 unfold Yx;have:∃x,lY a b=some x:=by simp only[lY,ez,ab];cases di a 0 65535<;>cases di b 0 65535<;>cases decide (ar (a+b)>65535)<;>exact⟨_,rfl⟩
 obtain⟨x,hx⟩:=this;rw[hx];rfl
theorem R4 (a b:Int):xF a b=some (Yx a b):=JV a b
theorem ae4 {a b:Int}(h:0<=a/\a<=65535)(k:0<=b/\b<=65535):0<=Yx a b/\Yx a b<=65535:=by have e:=JV a b;simp only[lY,ez,ab,bh.2 h,bh.2 k,aj,af]at e;rw[ak (n:=a+b)]at e;by_cases hc:a+b>65535;rw[aw hc,ah,ak]at e;rw[<-du e];omega;rw[au hc,af]at e;rw[<-du e];omega
def sw (s:Bytes):Nat->Int
 |0=>0
 |j+1=>Yx (sw s j) ((bM s (2*j)*256+bM s (2*j+1):Nat):Int)
theorem aei (s:Bytes):∀j,0<=sw s j/\sw s j<=65535
 |0=>by simp[sw]
 |j+1=>by have b0:=eH s (2*j);have b1:=eH s (2*j+1);exact ae4 (aei s j) (by omega)
theorem EG (h:s.length<=i:=by omega):bM s i=0:=by unfold bM;rw[bA,bn h];rfl
theorem af9 (s:Bytes)(h:s.length<=10^9):wo s=some (sw s ((s.length+1)/2)):=by
 unfold wo;refine eD (λj=>(sw s j,((2*j:Nat):Int))) ((s.length+1)/2) (by omega) (λj nx hj=>?_) (λnx=>?_);have b0:=eH s (2*j);have b1:=eH s (2*j+1);obtain⟨x,hx,ex⟩:=lI (s:=s) (i:=2*j);simp only[ri];rw[ks,ah,hx,ab,lv,ak (n:=((2*j:Nat):Int)+1),ak (n:=((2*j:Nat):Int)+2),ex,ic];have e8:oU 8=8:=rfl;have en:((2*j:Nat):Int)+2=((2*(j+1):Nat):Int):=by omega
 rw[e8,ak (n:=((bM s (2*j):Nat):Int)*2^8)];by_cases hc:2*j+1<s.length;obtain⟨y,hy,ey⟩:=lI (s:=s) (i:=2*j+1) hc;rw[ks,ah,show((2*j:Nat):Int)+1=((2*j+1:Nat):Int) by omega,hy,ab,ey,ic (n:=bM s (2*j+1)),ak,JV,ab,en,show((bM s (2*j):Nat):Int)*2^8+((bM s (2*j+1):Nat):Int)=((bM s (2*j)*256+bM s (2*j+1):Nat):Int) by omega];rfl;have hz:=EG (s:=s) (i:=2*j+1);rw[cP,af,JV,ab,en,show((bM s (2*j):Nat):Int)*2^8=((bM s (2*j)*256+bM s (2*j+1):Nat):Int) by rw[hz];omega];rfl;simp only[ri];rw[cP];rfl
theorem afB (s:Bytes)(h:s.length<=10^9):vW s=some (sw s ((s.length+1)/2)):=by
 unfold vW;refine eD (λj=>(sw s j,((2*j:Nat):Int))) ((s.length+1)/2) (by omega) (λj nx hj=>?_) (λnx=>?_);have b0:=eH s (2*j);have b1:=eH s (2*j+1);obtain⟨x,hx,ex⟩:=lI (s:=s) (i:=2*j);simp only[qR];rw[ks,ah,hx,ab,lv,ak (n:=((2*j:Nat):Int)+1),ak (n:=((2*j:Nat):Int)+2),ex,ic];have e8:oU 8=8:=rfl;have en:((2*j:Nat):Int)+2=((2*(j+1):Nat):Int):=by omega
 rw[e8,show((bM s (2*j):Nat):Int)*2^8=((2^8*bM s (2*j):Nat):Int) by omega,ic (n:=2^8*bM s (2*j))];by_cases hc:2*j+1<s.length;obtain⟨y,hy,ey⟩:=lI (s:=s) (i:=2*j+1) hc;rw[ks,ah,show((2*j:Nat):Int)+1=((2*j+1:Nat):Int) by omega,hy,ab,ey,ic (n:=bM s (2*j+1)),E1 (bM s (2*j)) 8 (bM s (2*j+1)),R4,ab,en,show 2^8*bM s (2*j)+bM s (2*j+1)=bM s (2*j)*256+bM s (2*j+1) by omega];rfl;have hz:=EG (s:=s) (i:=2*j+1);rw[cP,af,R4,ab,en,show((2^8*bM s (2*j):Nat):Int)=((bM s (2*j)*256+bM s (2*j+1):Nat):Int) by rw[hz];omega];rfl;simp only[qR];rw[cP];rfl
def Nb (s:Bytes):Int:=65535-sw s ((s.length+1)/2)
theorem Qm (s:Bytes)(h:s.length<=10^9):pk s=some (Nb s):=by have:=aei s ((s.length+1)/2);simp only[pk,af9 s h,ab];rw[ak];rfl
theorem JP (s:Bytes)(h:s.length<=10^9):jd s=some (Nb s):=by have:=aei s ((s.length+1)/2);simp only[jd,afB s h,ab];rw[ak];rfl
def vp (s:Bytes)(a:Int)(p:Bytes):Bytes:=bif eX s a (p.length:Int) then(s.take a.toNat++p)++s.drop (a.toNat+p.length) else s
theorem wQ (s:Bytes)(a:Int)(p:Bytes):(vp s a p).length=s.length:=by unfold vp;cases hw:eX s a (p.length:Int)with|false=>rfl|true=>simp only[eX,aD]at hw;simp only[ah,ai,aW,aM];omega
theorem Tc (s:Bytes)(a:Int)(p:Bytes)(h:s.length<=10^9)(hw:eX s a (p.length:Int)=true): (aa (sub s 0 a) λx2=>room (List.length x2+List.length p) (aa (sub s (ar (a+((List.length p:Int)))) ((List.length s:Int))) λx3=>room (List.length (x2++p)+List.length x3) (some ((x2++p)++x3))))=some (vp s a p):=by
 have hw':=hw;simp only[eX,aD]at hw';obtain⟨n,rfl⟩:=aQ hw'.1;have e1:sub s 0 (n:Int)=some (s.take n):=by unfold sub;rw[zip];rfl
 have e2:sub s (((n+p.length:Nat):Int)) (s.length:Int)=some (s.drop (n+p.length)):=by unfold sub;rw[zip,aA,aA,eo]
 rw[e1,ak,show(n:Int)+(p.length:Int)=((n+p.length:Nat):Int) by omega,e2,ab,aX (by simp only[aW];omega),ab,aX (by simp only[ai,aW,aM];omega)];unfold vp;rw[hw];rfl
theorem GR (s:Bytes)(a:Int)(p:Bytes)(h:s.length<=10^9:=by omega):im s a p=some (vp s a p):=by unfold im;rw[C7 s a _ h,ab];cases hw:eX s a (p.length:Int)with|false=>simp only[cg,ah,vp,hw,af]|true=>exact Tc s a p h hw
theorem Bk (s:Bytes)(a:Int)(p:Bytes)(h:s.length<=10^9:=by omega)(hp:p.length<=10^9:=by omega):fJ s a p=some (vp s a p):=by
 unfold fJ;rw[ak (n:=(s.length:Int)-(p.length:Int))];cases hw:eX s a (p.length:Int)with
 |true=>have hw':=hw;simp only[eX,aD]at hw';rw[au (show¬a<0 by omega),au (show¬a>(s.length:Int)-(p.length:Int) by omega)];exact Tc s a p h hw
 |false=>
  have hp:vp s a p=s:=by unfold vp;rw[hw];rfl
  rw[hp];simp only[eX,cU]at hw;by_cases h0:a<0;rw[aw h0];rfl;rw[au h0,aw (show a>(s.length:Int)-(p.length:Int) by omega)];rfl
def bs2 (x y:Int):Bytes:=aL [x,y]
theorem OP (x y:Int):(bs2 x y).length=2:=rfl
def xN (a b k n:Int):Bool:=di a 0 4294967295&&(di b 0 4294967295&&(di k 0 255&&di n 0 65535))
def vo (a b k n:Int):Bytes:=((iY a++iY b)++bs2 0 (gb k))++bT n
theorem HZ (a b k n:Int):(vo a b k n).length<=12:=by have:=eE a;have:=eE b;have:=bF n;simp only[vo,ai,OP];omega
theorem E8 (a b k n:Int):lZ a b k n=some (bif xN a b k n then(vo a b k n,true) else([],false)):=by have:=eE a;have:=eE b;have:=bF n;unfold lZ xN;simp only[ez,ab,qy,om];cases di a 0 4294967295;rfl;cases di b 0 4294967295;rfl;cases di k 0 255;rfl;cases di n 0 65535;rfl;simp only[aj,af,dH,ah,ab];have e:(aL [0,gb k]).length=2:=rfl;rw[aX,aX (by simp only[ai,e];omega),aX (by simp only[ai,e];omega)];rfl
theorem K5 (a b k n:Int):pL a b k n=some (bif xN a b k n then(vo a b k n,true) else([],false)):=E8 a b k n
def bare (g:ef):Bytes:=bif g.1==6 then
    (((((bT g.2.1++bT g.2.2.1)++iY g.2.2.2.1)++iY g.2.2.2.2.1)++bs2 80 (gb g.2.2.2.2.2.1))++bT g.2.2.2.2.2.2.1)++iY 0++g.2.2.2.2.2.2.2
 else(((bT g.2.1++bT g.2.2.1)++bT (8+(g.2.2.2.2.2.2.2.length:Int)))++bT 0)++g.2.2.2.2.2.2.2
theorem OM (g:ef):(bare g).length<=20+g.2.2.2.2.2.2.2.length:=by have:=bF g.2.1;have:=bF g.2.2.1;have:=eE g.2.2.2.1;have:=eE g.2.2.2.2.1;have:=bF g.2.2.2.2.2.2.1;have:=eE 0;have:=bF 0;have:=bF (8+(g.2.2.2.2.2.2.2.length:Int));unfold bare;cases g.1==6<;>simp only[ah,af,ai,OP]<;>omega
theorem abk:bT 0++bT 0=iY 0:=by rfl
theorem ac1 (g:ef)(h:g.2.2.2.2.2.2.2.length<=1000000):qW g=some (bare g):=by have:=bF g.2.1;have:=bF g.2.2.1;have:=eE g.2.2.2.1;have:=eE g.2.2.2.2.1;have:=bF g.2.2.2.2.2.2.1;have:=bF 0;have:=bF (8+(g.2.2.2.2.2.2.2.length:Int));have e:∀x,(aL [80,gb x]).length=2:=λ_=>rfl;unfold qW bare;rw[ak (n:=8+(g.2.2.2.2.2.2.2.length:Int))];simp only[kM,yL,ab];rw[aX];cases g.1==6 with|true=>simp only[ah];rw[aX (by simp only[ai,e];omega),aX (by simp only[ai,e];omega),aX (by simp only[ai,e];omega),aX (by simp only[ai,e];omega),aX (by simp only[ai,e];omega),aX (by simp only[ai,e];omega),aX (by simp only[ai,e];omega)];rw[<-abk];simp only[bs2,aR]|false=>simp only[af];rw[aX (by simp only[ai];omega),aX (by simp only[ai];omega),aX (by simp only[ai];omega)]
def Yj (a b:Int)(g:ef):Int:=bif (Nb (vo a b g.1 ((bare g).length:Int)++bare g)==0)&&(g.1==17) then 65535 else Nb (vo a b g.1 ((bare g).length:Int)++bare g)
def Yc (a b:Int)(g:ef):Bytes:=vp (bare g) (bif g.1==6 then 16 else 6) (bT (Yj a b g))
def LM (a b:Int)(g:ef):Bool:=sc g&&xN a b g.1 ((bare g).length:Int)
def Ag (a b:Int)(g:ef):Bytes×Bool:=bif LM a b g then(Yc a b g,true) else([],false)
theorem C2 {g:ef}(h:sc g=true):g.2.2.2.2.2.2.2.length<=320:=by simp only[sc,ae,aK,cU]at h;omega
theorem C6 (a b:Int)(g:ef):jD a b g=some (Ag a b g):=by
 unfold jD Ag LM;rw[Yg,ab];cases hg:sc g;rfl;have hb:=C2 hg;have hl:=OM g;have hp:=HZ a b g.1 ((bare g).length:Int);have:=bF g.2.1;have:=bF g.2.2.1;have:=eE g.2.2.2.1;have:=eE g.2.2.2.2.1;have:=bF g.2.2.2.2.2.2.1;have:=eE 0;have:=bF 0;have:=bF (8+(g.2.2.2.2.2.2.2.length:Int));have e:∀x,(aL [80,gb x]).length=2:=λ_=>rfl;rw[ak (n:=8+(g.2.2.2.2.2.2.2.length:Int))];simp only[om,qy,ab,aj,af,bq];rw[aX];cases h6:g.1==6 with
 |true=>
  have acI:bare g=(((((bT g.2.1++bT g.2.2.1)++iY g.2.2.2.1)++iY g.2.2.2.2.1)++aL [80,gb g.2.2.2.2.2.1])++bT g.2.2.2.2.2.2.1)++iY 0++g.2.2.2.2.2.2.2:=by unfold bare;rw[h6];rfl
  simp only[ah];rw[aX (by simp only[ai,e];omega),aX (by simp only[ai,e];omega),aX (by simp only[ai,e];omega),aX (by simp only[ai,e];omega),aX (by simp only[ai,e];omega),aX (by simp only[ai,e];omega),<-acI,E8,ab];cases xN a b g.1 ((bare g).length:Int);rfl;simp only[ah,aj,af];rw[aX,Qm _ (by simp only[ai];omega)];simp only[ab,bP,GR _ _ _ (show(bare g).length<=10^9 by omega),Yc,Yj,h6,ah,cF];cases (Nb (vo a b g.1 ((bare g).length:Int)++bare g)==0)&&(g.1==17)<;>rfl
 |false=>
  have acI:bare g=(((bT g.2.1++bT g.2.2.1)++bT (8+(g.2.2.2.2.2.2.2.length:Int)))++bT 0)++g.2.2.2.2.2.2.2:=by unfold bare;rw[h6];rfl
  simp only[af];rw[aX (by simp only[ai];omega),aX (by simp only[ai];omega),aX (by simp only[ai];omega),<-acI,E8,ab];cases xN a b g.1 ((bare g).length:Int);rfl;simp only[ah,aj,af];rw[aX,Qm _ (by simp only[ai];omega)];simp only[ab,bP,GR _ _ _ (show(bare g).length<=10^9 by omega),Yc,Yj,h6,af,cF];cases (Nb (vo a b g.1 ((bare g).length:Int)++bare g)==0)&&(g.1==17)<;>rfl
theorem CL (a b:Int)(g:ef):jy a b g=some (Ag a b g):=by
 unfold jy Ag LM;rw[XS,ab];cases hg:sc g;rfl;have hb:=C2 hg;have hl:=OM g;have hp:=HZ a b g.1 ((bare g).length:Int);have Hy:ft g.1=some (bif g.1==6 then 16 else 6):=by unfold ft;rw[bP]
 have w1:=bF 65535;have w2:=bF (Nb (vo a b g.1 ((bare g).length:Int)++bare g));simp only[ac1 g (by omega),K5,ab,aj,af,bq];cases xN a b g.1 ((bare g).length:Int);rfl;simp only[ah,aj,af];rw[aX,JP _ (by simp only[ai];omega)];simp only[ab,bP,Hy,kM,Bk _ _ _ (show(bare g).length<=10^9 by omega) (show(bT 65535).length<=10^9 by omega),Bk _ _ _ (show(bare g).length<=10^9 by omega) (show(bT (Nb (vo a b g.1 ((bare g).length:Int)++bare g))).length<=10^9 by omega),Yc,Yj,cF];rw[Bool.and_comm];cases (Nb (vo a b g.1 ((bare g).length:Int)++bare g)==0)&&(g.1==17)<;>rfl
theorem af2 (a b:Int)(g:ef):(Ag a b g).1.length<=340:=by unfold Ag;cases h:LM a b g with|false=>exact bU _|true=>simp only[LM,ae]at h;have:=C2 h.1;have:=OM g;show(vp _ _ _).length<=340;rw[wQ];omega
def VS (d:Ip):Bool:=di d.1 0 255&&(di d.2.2.1 0 255&&(di d.2.2.2.1 0 255&&(di d.2.1 0 65535&&(di d.2.2.2.2.1 0 4294967295&&(di d.2.2.2.2.2.1 0 4294967295&&decide ((d.2.2.2.2.2.2.length:Int)<=380))))))
theorem Tz (d:Ip):DR d=some (VS d):=by simp only[DR,ez,ab,bP,cF,VS]
theorem ac7 (d:Ip):HE d=some (VS d):=Tz d
def La (d:Ip):Bytes:=((((((bs2 69 (gb d.1)++bT (20+(d.2.2.2.2.2.2.length:Int)))++bT d.2.1)++bT 16384)++bs2 (gb d.2.2.1) (gb d.2.2.2.1))++bT 0)++iY d.2.2.2.2.1)++iY d.2.2.2.2.2.1
theorem Lb (d:Ip):(La d).length<=20:=by have:=bF (20+(d.2.2.2.2.2.2.length:Int));have:=bF d.2.1;have:=bF 16384;have:=bF 0;have:=eE d.2.2.2.2.1;have:=eE d.2.2.2.2.2.1;simp only[La,ai,OP];omega
def K9 (d:Ip):Bytes:=vp (La d) 10 (bT (Nb (La d)))
theorem WW (d:Ip):wj d=some (bif VS d then(K9 d,true) else([],false)):=by
 unfold wj;rw[Tz,ab];cases hd:VS d;rfl;have hn:(d.2.2.2.2.2.2.length:Int)<=380:=by simp only[VS,ae,aD]at hd;omega
 have:=bF (20+(d.2.2.2.2.2.2.length:Int));have:=bF d.2.1;have:=bF 16384;have:=bF 0;have:=eE d.2.2.2.2.1;have:=eE d.2.2.2.2.2.1;have hl:=Lb d;have e:∀x y,(aL [x,y]).length=2:=λ_ _=>rfl;rw[ak (n:=20+(d.2.2.2.2.2.2.length:Int))];simp only[om,qy,ab,aj,af,ah];rw[aX (by simp only[ai,e];omega),aX (by simp only[ai,e];omega),aX (by simp only[ai,e];omega),aX (by simp only[ai,e];omega),aX (by simp only[ai,e];omega),aX (by simp only[ai,e];omega),aX (by simp only[ai,e];omega)];have hp:((((((aL [69,gb d.1]++bT (20+(d.2.2.2.2.2.2.length:Int)))++bT d.2.1)++bT 16384)++aL [gb d.2.2.1,gb d.2.2.2.1])++bT 0)++iY d.2.2.2.2.1)++iY d.2.2.2.2.2.1=La d:=rfl;rw[hp,Qm _ (by omega),ab,GR _ _ _];rfl
theorem VH (d:Ip):vS d=some (bif VS d then(K9 d,true) else([],false)):=by
 unfold vS;rw[ac7,ab];cases hd:VS d;rfl;have hn:(d.2.2.2.2.2.2.length:Int)<=380:=by simp only[VS,ae,aD]at hd;omega
 have:=bF (20+(d.2.2.2.2.2.2.length:Int));have:=bF d.2.1;have:=bF 16384;have:=bF 0;have:=eE d.2.2.2.2.1;have:=eE d.2.2.2.2.2.1;have hl:=Lb d;have hw:=bF (Nb (La d));have e:∀x y,(aL [x,y]).length=2:=λ_ _=>rfl;rw[ak (n:=20+(d.2.2.2.2.2.2.length:Int))];simp only[kM,yL,ab,aj,af,ah];rw[aX (by simp only[ai,e];omega),aX (by simp only[ai,e];omega),aX (by simp only[ai,e];omega),aX (by simp only[ai,e];omega),aX (by simp only[ai,e];omega),aX (by simp only[ai,e];omega),aX (by simp only[ai,e];omega)];have hp:((((((aL [69,gb d.1]++bT (20+(d.2.2.2.2.2.2.length:Int)))++bT d.2.1)++bT 16384)++aL [gb d.2.2.1,gb d.2.2.2.1])++bT 0)++iY d.2.2.2.2.1)++iY d.2.2.2.2.2.1=La d:=rfl;rw[hp,JP _ (by omega),ab,Bk _ _ _];rfl
def QO (d:Ip):Bytes×Bool:=bif VS d then(K9 d++d.2.2.2.2.2.2,true) else([],false)
theorem HG (d:Ip):(K9 d).length<=20:=by unfold K9;rw[wQ];exact Lb d
theorem aec (d:Ip):uD d=some (QO d):=by
 unfold uD QO;rw[WW,ab];cases hd:VS d;rfl;have hn:(d.2.2.2.2.2.2.length:Int)<=380:=by simp only[VS,ae,aD]at hd;omega
 have:=HG d;simp only[ah,aj,af];rw[aX]
theorem ac6 (d:Ip):tS d=some (QO d):=by
 unfold tS QO;rw[VH,ab];cases hd:VS d;rfl;have hn:(d.2.2.2.2.2.2.length:Int)<=380:=by simp only[VS,ae,aD]at hd;omega
 have:=HG d;simp only[ah,aj,af];rw[aX]
def wX (n:Nat):Bytes:=aL (List.replicate n (0:Int))
theorem DX (n:Nat):(wX n).length=n:=by simp[wX,aL]
theorem LS (n:Nat)(h:n<=10^9:=by omega):iB (n:Int) 0=some (wX n):=by unfold iB;rw[zip,aX (by rw[aA];omega),aA];refine eD (λi=>(List.replicate n (0:Int),(i:Int))) n (by omega) (λi nx hi=>?_) (λnx=>?_);simp only[oK];rw[ks,bl (by simpa using hi),ak];simp only[ah,ab,aA,List.set_replicate_self];rfl;simp only[oK];rw[cP];rfl
theorem XR (n:Nat)(h:n<=10^9:=by omega):nJ 0 (n:Int)=some (wX n):=by unfold nJ;rw[zip,aX (by rw[aA];omega),aA];refine eD (λi=>(List.replicate n (0:Int),(i:Int))) n (by omega) (λi nx hi=>?_) (λnx=>?_);simp only[um];rw[aw (by simp;omega),bl (by simpa using hi),ak];simp only[ah,ab,aA,List.set_replicate_self];rfl;simp only[um];rw[au (by simp)];rfl
def pad (s:Bytes):Bytes:=if s.length<46 then s++wX (46-s.length) else s
theorem P8 (s:Bytes):(pad s).length=max 46 s.length:=by unfold pad;split;simp only[ai,DX];omega;omega
theorem af8 (s:Bytes)(h:s.length<=10^9):xO s=some (pad s):=by unfold xO pad;by_cases hc:s.length<46;rw[ks,aH hc,ak,show(46:Int)-(s.length:Int)=((46-s.length:Nat):Int) by omega,LS _];simp only[ah,ab];rw[aX (by rw[DX];omega)];rw[cP,aI hc];rfl
theorem afy (s:Bytes)(h:s.length<=10^9):xI s=some (pad s):=by unfold xI pad;by_cases hc:s.length<46;rw[cP,aH hc,ak,show(46:Int)-(s.length:Int)=((46-s.length:Nat):Int) by omega,XR _];simp only[af,ab];rw[aX (by rw[DX];omega)];rw[ks,aI hc];rfl
def qE (e:Mk):Bool:=di e.1 0 281474976710655&&(di e.2.1 0 281474976710655&&(di e.2.2.1 (-1) 4095&&(di e.2.2.2.1 1536 65535&&((e.2.2.2.1 !=33024)&&di (e.2.2.2.2.length:Int) 46 400))))
theorem Ib (e:Mk):vt e=some (qE e):=by simp only[vt,ez,ab,bP,cF,qE]
theorem NK (e:Mk):yM e=some (qE e):=Ib e
def Z0 (a:Int):Bytes:=(iL a).getD []
theorem zN (a:Int):iL a=some (Z0 a)/\(Z0 a).length<=6:=by
 have h:∃x,iL a=some x/\x.length<=6:=by unfold iL;rw[lv];simp only[om,qy,ab];have h1:=bF (fdiv a (2^(oU 32)));have h2:=eE (ar (toNat (gr a&&&gr 4294967295)));rw[aX];exact⟨_,rfl,by simp only[ai];omega⟩
 obtain⟨x,hx,hl⟩:=h;unfold Z0;rw[hx];exact⟨rfl,hl⟩
theorem afx (a:Int):vX a=some (Z0 a):=(zN a).1
def Nm (e:Mk):Bytes:=(bif decide (e.2.2.1>=0) then(((Z0 e.1++Z0 e.2.1)++bT 33024)++bT e.2.2.1) else Z0 e.1++Z0 e.2.1)++bT e.2.2.2.1++e.2.2.2.2
theorem acy (e:Mk):(Nm e).length<=18+e.2.2.2.2.length:=by have:=(zN e.1).2;have:=(zN e.2.1).2;have:=bF 33024;have:=bF e.2.2.1;have:=bF e.2.2.2.1;unfold Nm;cases decide (e.2.2.1>=0)<;>simp only[ah,af,ai]<;>omega
def Rj (e:Mk):Bytes×Bool:=bif qE e then(Nm e,true) else([],false)
theorem af7 (e:Mk):we e=some (Rj e):=by
 unfold we Rj;rw[Ib,ab];cases he:qE e;rfl;have hn:(e.2.2.2.2.length:Int)<=400:=by simp only[qE,ae,bh]at he;omega
 have:=(zN e.1).2;have:=(zN e.2.1).2;have:=bF 33024;have:=bF e.2.2.1;have:=bF e.2.2.2.1;simp only[(zN _).1,om,ab,aj,af,ah,Nm];rw[aX];cases decide (e.2.2.1>=0)with|true=>simp only[ah];rw[aX (by simp only[ai];omega),aX (by simp only[ai];omega),aX (by simp only[ai];omega),aX (by simp only[ai];omega)]|false=>simp only[af];rw[aX (by simp only[ai];omega),aX (by simp only[ai];omega)]
theorem afv (e:Mk):vJ e=some (Rj e):=by
 unfold vJ Rj;rw[NK,ab];cases he:qE e;rfl;have hn:(e.2.2.2.2.length:Int)<=400:=by simp only[qE,ae,bh]at he;omega
 have:=(zN e.1).2;have:=(zN e.2.1).2;have:=bF 33024;have:=bF e.2.2.1;have:=bF e.2.2.2.1;simp only[afx,kM,ab,aj,af,ah,Nm];rw[aX];cases decide (e.2.2.1>=0)with|true=>simp only[ah];rw[aX,aX (by simp only[ai];omega),aX (by simp only[ai];omega),aX (by simp only[ai];omega)];simp only[aR]|false=>simp only[af];rw[aX (by simp only[ai];omega),aX (by simp only[ai];omega)]
def af1 (p:aP):Bytes×Bool:=Ag p.2.2.2.2.2.2.1 p.2.2.2.2.2.2.2.1 p.2.2.2.2.2.2.2.2
def ZS (p:aP):Bytes×Bool:=QO (p.2.2.2.1,p.2.2.2.2.1,p.2.2.2.2.2.1,p.2.2.2.2.2.2.2.2.1,p.2.2.2.2.2.2.1,p.2.2.2.2.2.2.2.1,(af1 p).1)
def aff (p:aP):Bytes×Bool:=Rj (p.1,p.2.1,p.2.2.1,2048,pad (ZS p).1)
def dp (p:aP):Bytes×Bool:=bif dw p then aff p else([],false)
theorem PY (p:aP):(ZS p).1.length<=360:=by have h1:=af2 p.2.2.2.2.2.2.1 p.2.2.2.2.2.2.2.1 p.2.2.2.2.2.2.2.2;unfold ZS QO;cases VS (p.2.2.2.1,p.2.2.2.2.1,p.2.2.2.2.2.1,p.2.2.2.2.2.2.2.2.1,p.2.2.2.2.2.2.1,p.2.2.2.2.2.2.2.1,(af1 p).1)with|false=>exact bU _|true=>have h2:=HG (p.2.2.2.1,p.2.2.2.2.1,p.2.2.2.2.2.1,p.2.2.2.2.2.2.2.2.1,p.2.2.2.2.2.2.1,p.2.2.2.2.2.2.2.1,(af1 p).1);have h3:(af1 p).1.length<=340:=h1;simp only[ah,ai];omega
theorem aaX (p:aP):sN p=some (dp p):=by have hl:=PY p;unfold sN dp;simp only[Ig,C6,aec,ab];rw[show(QO (p.2.2.2.1,p.2.2.2.2.1,p.2.2.2.2.2.1,p.2.2.2.2.2.2.2.2.1,p.2.2.2.2.2.2.1,p.2.2.2.2.2.2.2.1,(Ag p.2.2.2.2.2.2.1 p.2.2.2.2.2.2.2.1 p.2.2.2.2.2.2.2.2).1))=ZS p from rfl,af8 _ (by omega),ab,af7];cases dw p<;>rfl
theorem DF (p:aP):gT p=some (dp p):=by have hl:=PY p;unfold gT dp;simp only[oZ,CL,ac6,ab];rw[show(QO (p.2.2.2.1,p.2.2.2.2.1,p.2.2.2.2.2.1,p.2.2.2.2.2.2.2.2.1,p.2.2.2.2.2.2.1,p.2.2.2.2.2.2.2.1,(Ag p.2.2.2.2.2.2.1 p.2.2.2.2.2.2.2.1 p.2.2.2.2.2.2.2.2).1))=ZS p from rfl,afy _ (by omega),ab,afv];cases dw p<;>rfl
theorem DE (h:dw p=true):(dp p).2=true:=by
 have hl:=PY p;have hh:pC p=true:=by simp only[dw,ae]at h;exact h.1
 have hp:=P8 (ZS p).1;unfold dp aff Rj;rw[h,ah];have:qE (p.1,p.2.1,p.2.2.1,2048,pad (ZS p).1)=true:=by simp only[pC,ae]at hh;simp only[qE,ae];refine⟨hh.1,hh.2.1,hh.2.2.1,by decide,by decide,bh.2 ?_⟩;omega
 rw[this];rfl
theorem yo (p:aP):(dp p).1.length<=378:=by have hl:=PY p;have hp:=P8 (ZS p).1;unfold dp aff Rj;cases dw p with|false=>exact bU _|true=>cases qE (p.1,p.2.1,p.2.2.1,2048,pad (ZS p).1)with|false=>exact bU _|true=>have:=acy (p.1,p.2.1,p.2.2.1,2048,pad (ZS p).1);simp only[ah]at this⊢;omega
def fcs (c:Int):Bytes:=aL [gb c,gb (fdiv c (2^(oU 8))),gb (fdiv c (2^(oU 16))),gb (fdiv c (2^(oU 24)))]
def zS (s:Bytes):Bytes:=s++fcs (abJ s)
theorem afh (c:Int):(fcs c).length=4:=rfl
theorem Yf (s:Bytes)(h:s.length<=10^9):uM s=some (zS s):=by unfold uM;rw[af4 s h,ab,lv,lv,lv];exact aX (by show s.length+4<=_;omega)
theorem XQ (s:Bytes)(h:s.length<=10^9):ug s=some (zS s):=by unfold ug;rw[aft s h,ab,lv,lv,lv];exact aX (by show s.length+4<=_;omega)
def fZ (p:aP):Bool:=dw p&&decide ((p.2.2.2.2.2.2.2.2.2.2.2.2.2.2.2.length:Int)<=128)
theorem LU (p:aP):sj p=some (fZ p):=by simp only[sj,Ig,ab,bP,cF,fZ]
theorem Bj (p:aP):mi p=some (fZ p):=by simp only[mi,oZ,ab,bP,cF,fZ]
def yC (p:aP):Bytes×Bool:=bif fZ p then(zS (dp p).1,true) else([],false)
theorem aaW (p:aP):sM p=some (yC p):=by have hl:=yo p;simp only[sM,LU,aaX,Yf _ (show(dp p).1.length<=10^9 by omega),ab,yC];cases fZ p<;>rfl
theorem Zx (p:aP):sv p=some (yC p):=by
 have hl:=yo p;simp only[sv,Bj,DF,XQ _ (show(dp p).1.length<=10^9 by omega),ab,yC];cases hp:fZ p with
 |false=>rfl
 |true=>
  have:dw p=true:=by simp only[fZ,ae]at hp;exact hp.1
  rw[DE this];rfl
theorem Nx (p:aP):(yC p).1.length<=382:=by have hl:=yo p;unfold yC;cases fZ p with|false=>exact bU _|true=>simp only[ah,zS,ai,afh];omega
def Wr (p:aP)(z:Int)(k:Nat):aP:=
 (p.1,p.2.1,p.2.2.1,p.2.2.2.1,tmod (ar (p.2.2.2.2.1+(k:Int))) 65536,p.2.2.2.2.2.1,p.2.2.2.2.2.2.1,p.2.2.2.2.2.2.2.1,p.2.2.2.2.2.2.2.2.1,p.2.2.2.2.2.2.2.2.2.1,p.2.2.2.2.2.2.2.2.2.2.1,
   tmod (ar (p.2.2.2.2.2.2.2.2.2.2.2.1+((k:Int)*z))) 4294967296,p.2.2.2.2.2.2.2.2.2.2.2.2.1,
   (bif decide (((k:Int)+1)*z<(p.2.2.2.2.2.2.2.2.2.2.2.2.2.2.2.length:Int)) then ar (toNat (gr p.2.2.2.2.2.2.2.2.2.2.2.2.2.1&&&~~~ gr 9)) else p.2.2.2.2.2.2.2.2.2.2.2.2.2.1),
   p.2.2.2.2.2.2.2.2.2.2.2.2.2.2.1,(p.2.2.2.2.2.2.2.2.2.2.2.2.2.2.2.take (min ((k+1)*z.toNat) p.2.2.2.2.2.2.2.2.2.2.2.2.2.2.2.length)).drop (k*z.toNat))
def sL (n z:Nat):Nat:=(n+z-1)/z
def Fa (p:aP)(z:Int):ax aP:=bif dw p&&di z 1 128 then
    (bif (p.2.2.2.2.2.2.2.2.1 !=6)||decide ((p.2.2.2.2.2.2.2.2.2.2.2.2.2.2.2.length:Int)<=z) then [p] else(range (sL p.2.2.2.2.2.2.2.2.2.2.2.2.2.2.2.length z.toNat)).map (Wr p z)) else []
theorem Of {z k:Nat}(hz:0<z:=by omega):k<sL n z↔k*z<n:=by unfold sL;rw[Nat.lt_div_iff_mul_lt hz];omega
theorem BG (h:dw p=true):p.2.2.2.2.2.2.2.2.2.2.2.2.2.2.2.length<=320:=by
 have hh:pC p=true:=by simp only[dw,ae]at h;exact h.1
 exact C2 (yG hh)
theorem aa4 {k z:Nat}(hk:k*z<b.length)(hb:b.length<=320):sub b ((k*z:Nat):Int) ((min ((k+1)*z) b.length:Nat):Int)=some ((b.take (min ((k+1)*z) b.length)).drop (k*z)):=by have:k*z<=(k+1)*z:=cw _ (by omega);unfold sub;rw[zip,aA,aA]
theorem ZJ (p:aP)(z:Int):Bm p z=some (Fa p z):=by
 unfold Bm Fa;simp only[oZ,df,ab];cases hs:dw p;rfl;cases hz:di z 1 128;rfl;have hz':=bh.1 hz;have hb:=BG hs;simp only[aj,af,dH,ah,ab,bP,cT];cases hq:(p.2.2.2.2.2.2.2.2.1 !=6)||decide ((p.2.2.2.2.2.2.2.2.2.2.2.2.2.2.2.length:Int)<=z)with
 |true=>rfl
 |false=>
  simp only[af];obtain⟨m,rfl⟩:=aQ (show 0<=z by omega);have hN:∀k,k<sL p.2.2.2.2.2.2.2.2.2.2.2.2.2.2.2.length m↔k*m<p.2.2.2.2.2.2.2.2.2.2.2.2.2.2.2.length:=λk=>Of;have FU:sL p.2.2.2.2.2.2.2.2.2.2.2.2.2.2.2.length m<=320:=by rcases cd 320 (sL p.2.2.2.2.2.2.2.2.2.2.2.2.2.2.2.length m)with h|h;have:=(hN 320).1 h;have:320*1<=320*m:=Nat.mul_le_mul_left _ (by omega);omega;exact h
  refine eD (λk=>((range k).map (Wr p (m:Int)),(k:Int))) (sL p.2.2.2.2.2.2.2.2.2.2.2.2.2.2.2.length m) (by omega) (λk nx hk=>?_) (λnx=>?_);have hkm:=(hN k).1 hk;have hk1:(k+1)*m=k*m+m:=by rw[cB,ff]
  have e1:(k:Int)*(m:Int)=((k*m:Nat):Int):=by push_cast;rfl
  have e2:((k:Int)+1)*(m:Int)=(((k+1)*m:Nat):Int):=by push_cast;rfl
  have pt:=aa4 hkm hb;simp only[vU];rw[ak (n:=(k:Int)+1),e1,e2,ic (n:=k*m),ic (n:=(k+1)*m),ks,ah];rw[List.range_succ,dS,List.map_singleton];simp only[Wr,e1,e2,aA];by_cases hc:(((k+1)*m:Nat):Int)<(p.2.2.2.2.2.2.2.2.2.2.2.2.2.2.2.length:Int);rw[aw hc];rw[show min ((k+1)*m) p.2.2.2.2.2.2.2.2.2.2.2.2.2.2.2.length=(k+1)*m by omega]at pt⊢;simp only[ah];rw[pt,ab,lv,lv,aX (by simp;omega)];rfl;rw[au hc];rw[show min ((k+1)*m) p.2.2.2.2.2.2.2.2.2.2.2.2.2.2.2.length=p.2.2.2.2.2.2.2.2.2.2.2.2.2.2.2.length by omega]at pt⊢;simp only[af];rw[pt,ab,lv,lv,aX (by simp;omega)];rfl;have hkm:¬sL p.2.2.2.2.2.2.2.2.2.2.2.2.2.2.2.length m*m<p.2.2.2.2.2.2.2.2.2.2.2.2.2.2.2.length:=λh=>absurd ((hN _).2 h) (Nat.lt_irrefl _);have hub:sL p.2.2.2.2.2.2.2.2.2.2.2.2.2.2.2.length m*m<=320*128:=Nat.mul_le_mul FU (by omega);have e1:((sL p.2.2.2.2.2.2.2.2.2.2.2.2.2.2.2.length m:Nat):Int)*(m:Int)=((sL p.2.2.2.2.2.2.2.2.2.2.2.2.2.2.2.length m*m:Nat):Int):=by push_cast;rfl
  simp only[vU];rw[e1,ic,cP];rfl
theorem LZ (p:aP)(z:Int):(Fa p z).length<=320:=by unfold Fa;cases hs:dw p&&di z 1 128;exact bU _;simp only[ae,bh]at hs;have hb:=BG hs.1;cases (p.2.2.2.2.2.2.2.2.1 !=6)||decide ((p.2.2.2.2.2.2.2.2.2.2.2.2.2.2.2.length:Int)<=z)with|true=>simp only[ah,bC];omega|false=>simp only[ah,af,cb,List.length_range];rcases cd 320 (sL p.2.2.2.2.2.2.2.2.2.2.2.2.2.2.2.length z.toNat)with h|h;have:=(Of).1 h;have:320*1<=320*z.toNat:=Nat.mul_le_mul_left _ (by omega);omega;exact h
def OI (acc:bR)(p:aP):bR:=bif (yC p).2 then acc++[(yC p).1] else acc
theorem QR (acc:bR)(p:aP):(OI acc p).length<=acc.length+1:=by unfold OI;cases (yC p).2<;>simp
def JK (l:ax aP):bR:=l.foldl OI []
theorem Iw:∀(l:ax aP)(acc:bR),(l.foldl OI acc).length<=acc.length+l.length
 |[],acc=>by simp
 |p::l,acc=>by have:=Iw l (OI acc p);have:=QR acc p;simp only[List.foldl_cons,bz];omega
theorem D8:∀(l:ax aP)(acc:bR),(∀x∈acc,x.length<=382)->∀x∈l.foldl OI acc,x.length<=382
 |[],acc,h=>h
 |p::l,acc,h=>by rw[List.foldl_cons];refine D8 l _ (λx hx=>?_);unfold OI at hx;cases hf:(yC p).2 with|false=>rw[hf]at hx;exact h x hx|true=>rw[hf]at hx;simp only[ah,az,cp]at hx;rcases hx with hx|hx;exact h x hx;rw[hx];exact Nx p
theorem VE (l:ax aP)(h:l.length<=10^9):vO l=some (JK l):=by
 unfold vO JK;have:=GK (T:=na (λ(y3:bR) (_:Int)=>some y3) l (l.length:Int)) l (λ(s:bR) i=>(s,(i:Int))) (λi s=>s.length<=i) (λp s=> .ok (OI s p)) (λs=>some s) (by omega) (λi hi s nx hI=>?hs) (λi hi s s' hI hg=>?hn) (λs nx hI=>?hf) [] (by simp)
 case hs=>
  simp only[na]
  rw[ks,bl hi,ak (n:=(i:Int)+1)]
  simp only[ah,ab,Zx,OI]
  rw[aX (by simp;omega)]
  cases (yC l[i]).2<;>rfl
 case hn=>cases hg;have:=QR s l[i];omega
 case hf=>
  simp only[na]
  rw[cP];rfl
 rw[JU]at this;exact this
def To (p:aP)(z:Int):bR:=JK (Fa p z)
theorem adh (p:aP)(z:Int):sC p z=some (To p z):=by have:=LZ p z;simp only[sC,ZJ,VE _ (show(Fa p z).length<=10^9 by omega),ab];rfl
theorem aaQ (p:aP)(z:Int):(To p z).length<=320/\∀x∈To p z,x.length<=382:=by have:=LZ p z;have:=Iw (Fa p z) [];exact⟨by unfold To JK;simp only[eO]at this;omega,D8 _ [] (by simp)⟩
theorem CA {a:Int}(h0:0<=a:=by omega)(h:a+2<=(s.length:Int):=by omega):0<=cj s a/\cj s a<=65535:=by have h1:=eH s a.toNat;have h2:=eH s (a.toNat+1);unfold cj eX;rw[aw ⟨h0,h⟩];simp only[ah];omega
theorem Ar {a:Int}(h0:0<=a:=by omega)(h:a+4<=(s.length:Int):=by omega):0<=fI s a/\fI s a<=4294967295:=by have h1:=eH s a.toNat;have h2:=eH s (a.toNat+1);have h3:=eH s (a.toNat+2);have h4:=eH s (a.toNat+3);unfold fI eX;rw[aw ⟨h0,h⟩];simp only[ah];omega
theorem ads {x y:Int}(hx:0<=x/\x<=65535)(hy:0<=y/\y<=4294967295):ar (toNat (gr (ar (x*2^(oU 32)))|||gr y))=x*4294967296+y:=by have e:(2:Int)^(oU 32)=4294967296:=rfl;obtain⟨x,rfl⟩:=aQ hx.1;obtain⟨y,rfl⟩:=aQ hy.1;rw[e,ak (n:=(x:Int)*4294967296),show(x:Int)*4294967296=((2^32*x:Nat):Int) by omega,E1 x 32 y];omega
theorem XX {x y:Int}(hx:0<=x/\x<=65535)(hy:0<=y/\y<=4294967295):ar (ar (x*2^(oU 32))+y)=x*4294967296+y:=by have e:(2:Int)^(oU 32)=4294967296:=rfl;rw[e,ak (n:=x*4294967296),ak]
theorem ye {l:ax α}{n:Int}(h0:0<=n:=by omega)(h1:n<=(l.length:Int):=by omega):sub l 0 n=some (l.take n.toNat):=by unfold sub;rw[zip];simp
theorem uV {l:ax α}(k:Nat)(h:k<=l.length){a:Int}(ha:a=(k:Int)):sub l a (l.length:Int)=some (l.drop k):=by unfold sub;rw[zip];subst ha;simp
theorem Qz {l:ax α}(k:Nat){a n:Int}(ha:a=(k:Int))(h0:a<=n:=by omega)(h1:n<=(l.length:Int):=by omega):sub l a n=some ((l.take n.toNat).drop k):=by unfold sub;rw[zip];subst ha;simp
def AZ (s:Bytes):Bytes×Bool:=bif decide ((s.length:Int)<4) then([],false) else bif zS (s.take ((s.length:Int)-4).toNat)==s then(s.take ((s.length:Int)-4).toNat,true) else([],false)
theorem WU (s:Bytes)(h:s.length<=10^9):wg s=some (AZ s):=by unfold wg AZ;rw[ak (n:=(s.length:Int)-4)];by_cases h4:(s.length:Int)<4;rw[aw h4];rfl;rw[au h4,ye];simp only[af,ab,Yf _ (show(s.take ((s.length:Int)-4).toNat).length<=10^9 by rw[aW];omega)];cases zS (s.take ((s.length:Int)-4).toNat)==s<;>rfl
theorem VB (s:Bytes)(h:s.length<=10^9):vK s=some (AZ s):=by unfold vK AZ;rw[ak (n:=(s.length:Int)-4)];by_cases h4:(s.length:Int)<4;rw[aw (show(s.length:Int)-4<0 by omega),aw h4];rfl;rw[au (show¬(s.length:Int)-4<0 by omega),au h4,ye];simp only[af,ab,XQ _ (show(s.take ((s.length:Int)-4).toNat).length<=10^9 by rw[aW];omega)];cases zS (s.take ((s.length:Int)-4).toNat)==s<;>rfl
def acx:Mk:=(0,0,0,0,([]:Bytes))
def Ek (s:Bytes)(a:Int):Int:=cj s a*4294967296+fI s (a+2)
def EK (s:Bytes):Mk:=(Ek s 0,Ek s 6,cj s 14,cj s 16,s.drop 18)
def wC (s:Bytes):Mk:=(Ek s 0,Ek s 6, -1,cj s 12,s.drop 14)
def fL (s:Bytes):Mk×Bool:=bif decide ((s.length:Int)<18) then(acx,false) else
 bif cj s 12==33024 then(bif qE (EK s) then(EK s,true) else(acx,false)) else bif qE (wC s) then(wC s,true) else(acx,false)
theorem Qo (s:Bytes)(h:s.length<=10^9):wk s=some (fL s):=by unfold wk fL;by_cases h8:(s.length:Int)<18;rw[aw h8];rfl;rw[au h8];simp only[af,AO s _ h,Ie s _ h,ab];rw[lv,lv,uV (l:=s) 14 (by omega) (show(14:Int)=((14:Nat):Int) from rfl),ab,uV (l:=s) 18 (by omega) (show(18:Int)=((18:Nat):Int) from rfl)];rw[XX (CA (s:=s) (a:=0)) (Ar (s:=s) (a:=2)),XX (CA (s:=s) (a:=6)) (Ar (s:=s) (a:=8))];simp only[ab,Ib];rw[show((cj s 0*4294967296+fI s 2,cj s 6*4294967296+fI s 8,cj s 14,cj s 16,s.drop 18):Mk)=EK s from rfl,show((cj s 0*4294967296+fI s 2,cj s 6*4294967296+fI s 8, -1,cj s 12,s.drop 14):Mk)=wC s from rfl];cases cj s 12==33024<;>cases qE (EK s)<;>cases qE (wC s)<;>rfl
theorem F7 (s:Bytes)(h:s.length<=10^9):rP s=some (fL s):=by
 unfold rP fL;by_cases h4:(s.length:Int)<14;rw[aw h4,aw (show(s.length:Int)<18 by omega)];rfl;rw[au h4];simp only[af,vi s _ h,yp s _ h,ab];rw[lv,lv,uV (l:=s) 14 (by omega) (show(14:Int)=((14:Nat):Int) from rfl),ab];rw[ads (CA (s:=s) (a:=0)) (Ar (s:=s) (a:=2)),ads (CA (s:=s) (a:=6)) (Ar (s:=s) (a:=8))];simp only[ab,NK];rw[show((cj s 0*4294967296+fI s 2,cj s 6*4294967296+fI s 8, -1,cj s 12,s.drop 14):Mk)=wC s from rfl];by_cases h8:(s.length:Int)<18;have hB:qE (wC s)=false:=by
  unfold qE wC;have:di ((s.drop 14).length:Int) 46 400=false:=by rw[Bool.eq_false_iff,ne_eq,bh,aM];omega
  simp only[this,fH]
 rw[aw h8,au (show¬(s.length:Int)>=18 by omega),hB];cases cj s 12==33024<;>rfl;rw[au h8,aw (show(s.length:Int)>=18 by omega),uV (l:=s) 18 (by omega) (show(18:Int)=((18:Nat):Int) from rfl)];simp only[ab];rw[show((cj s 0*4294967296+fI s 2,cj s 6*4294967296+fI s 8,cj s 14,cj s 16,s.drop 18):Mk)=EK s from rfl];cases cj s 12==33024<;>cases qE (EK s)<;>cases qE (wC s)<;>rfl
def ip0:Ip:=(0,0,0,0,0,0,([]:Bytes))
def Bq (s:Bytes):Ip:=((bM s 1:Int),cj s 4,(bM s 8:Int),(bM s 9:Int),fI s 12,fI s 16,(s.take (cj s 2).toNat).drop 20)
def lf (s:Bytes):Ip×Bool:=bif decide ((s.length:Int)<20)||(decide (cj s 2<20)||decide (cj s 2>(s.length:Int))) then(ip0,false) else
 bif (QO (Bq s)).2&&((QO (Bq s)).1==s.take (cj s 2).toNat) then(Bq s,true) else(ip0,false)
theorem TA (s:Bytes)(h:s.length<=10^9):xP s=some (lf s):=by
 unfold xP lf;simp only[AO s _ h,Ie s _ h,ab];by_cases h1:(s.length:Int)<20;rw[aw h1];rfl;by_cases h2:cj s 2<20;rw[au h1,aw h2];rfl;by_cases h3:cj s 2>(s.length:Int);rw[au h1,au h2,aw h3];rfl;rw[au h1,au h2,au h3];have b1:=mE (s[1]'(by omega));have b8:=mE (s[8]'(by omega));have b9:=mE (s[9]'(by omega));have i1:idx s 1=some (s[1]'(by omega)):=bl (i:=1) (by omega);have i8:idx s 8=some (s[8]'(by omega)):=bl (i:=8) (by omega);have i9:idx s 9=some (s[9]'(by omega)):=bl (i:=9) (by omega);simp only[af,ab,bZ,i1,i8,i9];rw[Qz (l:=s) 20 (show(20:Int)=((20:Nat):Int) from rfl),ye,ic (n:=(s[1]'(by omega)).toNat),ic (n:=(s[8]'(by omega)).toNat),ic (n:=(s[9]'(by omega)).toNat)];have e:(((s[1]'(by omega)).toNat:Int),cj s 4,((s[8]'(by omega)).toNat:Int),((s[9]'(by omega)).toNat:Int),fI s 12,fI s 16,(s.take (cj s 2).toNat).drop 20)=Bq s:=by simp only[Bq,bM,ca (show 1<s.length by omega),ca (show 8<s.length by omega),ca (show 9<s.length by omega)]
 simp only[ab,e,aec];cases (QO (Bq s)).2<;>cases (QO (Bq s)).1==s.take (cj s 2).toNat<;>rfl
theorem Sa (s:Bytes)(h:s.length<=10^9):xJ s=some (lf s):=by
 unfold xJ lf;simp only[vi s _ h,yp s _ h,ab];by_cases h1:(s.length:Int)<20;rw[aw h1];rfl;by_cases h2:cj s 2<20;rw[au h1,aw h2];rfl;by_cases h3:cj s 2>(s.length:Int);rw[au h1,au h2,aw h3];rfl;rw[au h1,au h2,au h3];have b1:=mE (s[1]'(by omega));have b8:=mE (s[8]'(by omega));have b9:=mE (s[9]'(by omega));have i1:idx s 1=some (s[1]'(by omega)):=bl (i:=1) (by omega);have i8:idx s 8=some (s[8]'(by omega)):=bl (i:=8) (by omega);have i9:idx s 9=some (s[9]'(by omega)):=bl (i:=9) (by omega);simp only[af,ab,bZ,i1,i8,i9];rw[Qz (l:=s) 20 (show(20:Int)=((20:Nat):Int) from rfl),ye,ic (n:=(s[1]'(by omega)).toNat),ic (n:=(s[8]'(by omega)).toNat),ic (n:=(s[9]'(by omega)).toNat)];have e:(((s[1]'(by omega)).toNat:Int),cj s 4,((s[8]'(by omega)).toNat:Int),((s[9]'(by omega)).toNat:Int),fI s 12,fI s 16,(s.take (cj s 2).toNat).drop 20)=Bq s:=by simp only[Bq,bM,ca (show 1<s.length by omega),ca (show 8<s.length by omega),ca (show 9<s.length by omega)]
 simp only[ab,e,ac6];cases (QO (Bq s)).2<;>cases (QO (Bq s)).1==s.take (cj s 2).toNat<;>rfl
def aiJ:ef:=(0,0,0,0,0,0,0,([]:Bytes))
def LN (k:Int)(s:Bytes):ef:=(k,cj s 0,cj s 2,fI s 4,fI s 8,(bM s 13:Int),cj s 14,s.drop 20)
def Qi (k:Int)(s:Bytes):ef:=(k,cj s 0,cj s 2,0,0,0,0,s.drop 8)
def qw (a b k:Int)(s:Bytes):ef×Bool:=
 bif (k==6)&&decide ((s.length:Int)>=20) then(bif (Ag a b (LN k s)).2&&((Ag a b (LN k s)).1==s) then(LN k s,true) else(aiJ,false)) else
 bif (k==17)&&decide ((s.length:Int)>=8) then(bif (Ag a b (Qi k s)).2&&((Ag a b (Qi k s)).1==s) then(Qi k s,true) else(aiJ,false)) else(aiJ,false)
theorem Qp (a b k:Int)(s:Bytes)(h:s.length<=10^9):pZ a b k s=some (qw a b k s):=by
 unfold pZ qw;simp only[AO s _ h,Ie s _ h,ab];rw[show(aa (cond (k==6) (some (decide ((s.length:Int)>=20))) (some false)):(Bool->ay (ef×Bool))->ay (ef×Bool))=λK=>K ((k==6)&&decide ((s.length:Int)>=20)) from by funext K;cases k==6<;>rfl];rw[show(aa (cond (k==17) (some (decide ((s.length:Int)>=8))) (some false)):(Bool->ay (ef×Bool))->ay (ef×Bool))=λK=>K ((k==17)&&decide ((s.length:Int)>=8)) from by funext K;cases k==17<;>rfl];simp only;cases h1:(k==6)&&decide ((s.length:Int)>=20)with
 |true=>
  simp only[ae,aD]at h1;have bb:=mE (s[13]'(by omega));have i:idx s 13=some (s[13]'(by omega)):=bl (i:=13) (by omega);have e:(k,cj s 0,cj s 2,fI s 4,fI s 8,((s[13]'(by omega)).toNat:Int),cj s 14,s.drop 20)=LN k s:=by simp only[LN,bM,ca (show 13<s.length by omega)]
  simp only[ah,i,ab];rw[uV (l:=s) 20 (by omega) (show(20:Int)=((20:Nat):Int) from rfl),ic (n:=(s[13]'(by omega)).toNat)];simp only[ab,e,C6];cases (Ag a b (LN k s)).2<;>cases (Ag a b (LN k s)).1==s<;>rfl
 |false=>simp only[af];cases h2:(k==17)&&decide ((s.length:Int)>=8)with|false=>rfl|true=>simp only[ae,aD]at h2;rw[uV (l:=s) 8 (by omega) (show(8:Int)=((8:Nat):Int) from rfl)];simp only[ah,ab,show((k,cj s 0,cj s 2,0,0,0,0,s.drop 8):ef)=Qi k s from rfl,C6];cases (Ag a b (Qi k s)).2<;>cases (Ag a b (Qi k s)).1==s<;>rfl
theorem PR (a b k:Int)(s:Bytes)(h:s.length<=10^9):pK a b k s=some (qw a b k s):=by
 unfold pK qw;simp only[vi s _ h,yp s _ h,ab];rw[show(aa (cond (k==6) (some (decide ((s.length:Int)>=20))) (some false)):(Bool->ay (ef×Bool))->ay (ef×Bool))=λK=>K ((k==6)&&decide ((s.length:Int)>=20)) from by funext K;cases k==6<;>rfl];rw[show(aa (cond (k==17) (some (decide ((s.length:Int)>=8))) (some false)):(Bool->ay (ef×Bool))->ay (ef×Bool))=λK=>K ((k==17)&&decide ((s.length:Int)>=8)) from by funext K;cases k==17<;>rfl];simp only;cases h1:(k==6)&&decide ((s.length:Int)>=20)with
 |true=>
  simp only[ae,aD]at h1;have bb:=mE (s[13]'(by omega));have i:idx s 13=some (s[13]'(by omega)):=bl (i:=13) (by omega);have e:(k,cj s 0,cj s 2,fI s 4,fI s 8,((s[13]'(by omega)).toNat:Int),cj s 14,s.drop 20)=LN k s:=by simp only[LN,bM,ca (show 13<s.length by omega)]
  simp only[ah,i,ab];rw[uV (l:=s) 20 (by omega) (show(20:Int)=((20:Nat):Int) from rfl),ic (n:=(s[13]'(by omega)).toNat)];simp only[ab,e,CL];cases (Ag a b (LN k s)).2<;>cases (Ag a b (LN k s)).1==s<;>rfl
 |false=>simp only[af];cases h2:(k==17)&&decide ((s.length:Int)>=8)with|false=>rfl|true=>simp only[ae,aD]at h2;rw[uV (l:=s) 8 (by omega) (show(8:Int)=((8:Nat):Int) from rfl)];simp only[ah,ab,show((k,cj s 0,cj s 2,0,0,0,0,s.drop 8):ef)=Qi k s from rfl,CL];cases (Ag a b (Qi k s)).2<;>cases (Ag a b (Qi k s)).1==s<;>rfl
def pk0:aP:=(0,0,0,0,0,0,0,0,0,0,0,0,0,0,0,([]:Bytes))
def jT (s:Bytes):aP×Int:=
 let e:=fL s
 bif !e.2||(e.1.2.2.2.1 !=2048) then(pk0,2) else
 let i:=lf e.1.2.2.2.2
 bif !i.2 then(pk0,3) else
 let g:=qw i.1.2.2.2.2.1 i.1.2.2.2.2.2.1 i.1.2.2.2.1 i.1.2.2.2.2.2.2
 bif !g.2 then(pk0,4) else
 bif !dw (e.1.1,e.1.2.1,e.1.2.2.1,i.1.1,i.1.2.1,i.1.2.2.1,i.1.2.2.2.2.1,i.1.2.2.2.2.2.1,g.1) then(pk0,5) else
 ((e.1.1,e.1.2.1,e.1.2.2.1,i.1.1,i.1.2.1,i.1.2.2.1,i.1.2.2.2.2.1,i.1.2.2.2.2.2.1,g.1),0)
theorem Bu (s:Bytes):(fL s).1.2.2.2.2.length<=s.length:=by
 unfold fL;cases decide ((s.length:Int)<18);case true=>simp[acx]
 cases cj s 12==33024<;>cases qE (EK s)<;>cases qE (wC s)<;>simp[acx,EK,wC]
theorem IS (s:Bytes):(lf s).1.2.2.2.2.2.2.length<=s.length:=by
 unfold lf;cases decide ((s.length:Int)<20)||(decide (cj s 2<20)||decide (cj s 2>(s.length:Int)));case true=>simp[ip0]
 cases (QO (Bq s)).2&&((QO (Bq s)).1==s.take (cj s 2).toNat)with|false=>simp[ip0]|true=>simp[Bq];omega
theorem aa0 (s:Bytes)(h:s.length<=10^9):uK s=some (jT s):=by
 have h1:=Bu s;unfold uK jT;rw[Qo s h,ab];generalize fL s=e at h1⊢;have h2:=IS e.1.2.2.2.2;simp only;cases e.2;rfl;cases e.1.2.2.2.1 !=2048;case true=>rfl
 simp only[aj,af,ab,bZ,TA _ (show e.1.2.2.2.2.length<=10^9 by omega)];generalize lf e.1.2.2.2.2=i at h2⊢;cases i.2;rfl;simp only[aj,af,ab,Qp _ _ _ _ (show i.1.2.2.2.2.2.2.length<=10^9 by omega)];generalize qw i.1.2.2.2.2.1 i.1.2.2.2.2.2.1 i.1.2.2.2.1 i.1.2.2.2.2.2.2=g;cases g.2;rfl;simp only[aj,af,ab,Ig];cases dw (e.1.1,e.1.2.1,e.1.2.2.1,i.1.1,i.1.2.1,i.1.2.2.1,i.1.2.2.2.2.1,i.1.2.2.2.2.2.1,g.1)<;>rfl
theorem DG (s:Bytes)(h:s.length<=10^9):iy s=some (jT s):=by
 have h1:=Bu s;unfold iy jT;rw[F7 s h,ab];generalize fL s=e at h1⊢;have h2:=IS e.1.2.2.2.2;simp only;cases e.2;rfl;cases e.1.2.2.2.1 !=2048;case true=>rfl
 simp only[aj,af,ab,bZ,Sa _ (show e.1.2.2.2.2.length<=10^9 by omega)];generalize lf e.1.2.2.2.2=i at h2⊢;cases i.2;rfl;simp only[aj,af,ab,PR _ _ _ _ (show i.1.2.2.2.2.2.2.length<=10^9 by omega)];generalize qw i.1.2.2.2.2.1 i.1.2.2.2.2.2.1 i.1.2.2.2.1 i.1.2.2.2.2.2.2=g;cases g.2;rfl;simp only[aj,af,ab,oZ];cases dw (e.1.1,e.1.2.1,e.1.2.2.1,i.1.1,i.1.2.1,i.1.2.2.1,i.1.2.2.2.2.1,i.1.2.2.2.2.2.1,g.1)<;>rfl
def oI (s:Bytes):aP×Int:=
 let c:=AZ s
 bif !c.2 then(pk0,1) else
 let r:=jT c.1
 bif r.2 !=0 then(pk0,r.2) else
 bif !fZ r.1 then(pk0,5) else(r.1,0)
theorem Ke (s:Bytes):(AZ s).1.length<=s.length:=by
 unfold AZ;cases decide ((s.length:Int)<4);case true=>simp
 cases zS (s.take ((s.length:Int)-4).toNat)==s with|false=>simp|true=>simp;omega
theorem aaZ (s:Bytes)(h:s.length<=10^9):uJ s=some (oI s):=by
 have h1:=Ke s;unfold uJ oI;rw[WU s h,ab];generalize AZ s=c at h1⊢;simp only;cases c.2;rfl;simp only[aj,af,ab,aa0 _ (show c.1.length<=10^9 by omega)];generalize jT c.1=r;cases r.2 !=0;case true=>rfl
 simp only[af,ab,LU];cases fZ r.1<;>rfl
theorem ZB (s:Bytes)(h:s.length<=10^9):uc s=some (oI s):=by
 have h1:=Ke s;unfold uc oI;rw[VB s h,ab];generalize AZ s=c at h1⊢;simp only;cases c.2;rfl;simp only[aj,af,ab,DG _ (show c.1.length<=10^9 by omega)];generalize jT c.1=r;cases r.2 !=0;case true=>rfl
 simp only[af,ab,Bj];cases fZ r.1<;>rfl
theorem fP (a:bR)(h:a.length<=1073741824:=by omega):db a=some a:=by simp only[db,kD];rw[aX (by simpa using h)];rfl
theorem Bs (a:bR)(h:a.length<=1073741824:=by omega):md a=some a:=by simp only[md];rw[aX (by simpa using h)];rfl
def yz (a b:α):Bool:= @decide (a=b) (Classical.propDecidable _)
theorem zA {a b:α}:yz a b=true↔a=b:=by unfold yz;exact @decide_eq_true_iff _ (Classical.propDecidable _)
theorem Pj {a b:α}{x:Bool}(h:x=true↔a=b):x=yz a b:=by rw[cD,zA];exact h
theorem QZ [BEq α][LawfulBEq α](a b:α):(a==b)=yz a b:=Pj aV
theorem acu {β:Type}(a b:α)(c d:β):yz (a,c) (b,d)=(yz a b&&yz c d):=by rw[cD];simp only[ae,zA,Prod.mk.injEq]
theorem jO {β:Type}(a b:α×β):yz a b=(yz a.1 b.1&&yz a.2 b.2):=acu a.1 b.1 a.2 b.2
theorem acv {a b:α}(h:a=b):yz a b=true:=zA.2 h
theorem YM {a b:α}(h:¬a=b):yz a b=false:=by rw[Bool.eq_false_iff,ne_eq,zA];exact h
theorem acw {T:(Int->ay R)->Int->ay R}{fin hit:ay R}(p:α->α->Bool)(hp:∀x y,p x y=true↔x=y)(a b:ax α)(hl:a.length=b.length)(h:a.length<=10^9)(hs:∀i (hi:i<a.length) nx,T nx (i:Int)=cond (!(p a[i] (b[i]'(hl▸hi)))) hit (nx ((i+1:Nat):Int)))(hf:∀nx,T nx (a.length:Int)=fin): ba T fuel 0=cond (yz a b) fin hit:=by
 have hq:∀i,i<a.length->i<b.length:=λi hi=>hl▸hi;rw[oX (fin:=fin) (hit:=hit) (λi=>yz a[i]? b[i]?) a.length (by omega) ?hs hf]
 case hs=>
  intro i nx hi
  rw[hs i hi,aq hi,aq (hq i hi)]
  have:p a[i] (b[i]'(hq i hi))=yz (some a[i]) (some (b[i]'(hq i hi))):=Pj (by rw[hp,bc])
  rw[this]
 congr 1;apply Pj;rw[aF];constructor;intro k;apply cA;intro i;by_cases hi:i<a.length;exact zA.1 (k i (bK.2 hi));rw[bn (by omega),bn (by omega)];rintro rfl i _;exact acv rfl
theorem vH {T:(Int->ay Bool)->Int->ay Bool}(p:α->α->Bool)(hp:∀x y,p x y=true↔x=y)(a b:ax α)(h:a.length<=10^9)(hs:a.length=b.length->∀i (hi:i<a.length)(nN:i<b.length) nx,T nx (i:Int)=cond (!(p a[i] b[i])) (some false) (nx ((i+1:Nat):Int)))(hf:∀nx,T nx (a.length:Int)=some true): cond ((a.length:Int) !=(b.length:Int)) (some false) (ba T fuel 0)=some (yz a b):=by by_cases hl:a.length=b.length;rw[acw p hp a b hl h (λi hi nx=>hs hl i hi (hl▸hi) nx) hf];rw[show((a.length:Int) !=(b.length:Int))=false by simp[hl]];cases yz a b<;>rfl;rw[YM (λe=>hl (by rw[e]))];rw[show((a.length:Int) !=(b.length:Int))=true by simp;omega];rfl
theorem Az (a b:cZ)(h:a.length<=10^9):gA a b=some (yz a b):=by unfold gA;refine vH (λx y=>x==y) (λx y=>aV) a b h (λhl i hi nN nx=>?_) (λnx=>?_);simp only[mQ];rw[ks,bl hi,bl nN,ak];rfl;simp only[mQ];rw[cP];rfl
theorem PO (a b:Filter)(h:a.2.2.length<=10^9):sK a b=some (yz a b):=by simp only[sK,Az _ _ h,ab,bP,cF,jO a b,jO a.2 b.2,QZ]
theorem Jt (l:bR)(h:l.length<=10^9):kD l=some l:=by simp only[kD,nn h,cG]
theorem KX (f:Filter)(h:f.2.2.length<=10^9):sH f=some f:=by simp only[sH,lG _ h,ab]
theorem LR (f:Filter)(h:f.2.2.length<=10^9):yb f=some f:=by simp only[yb,nn h,cG]
theorem xj (l:ax Stream)(h:l.length<=10^9:=by omega):kC l=some l:=by simp only[kC,nn h,cG]
theorem MG (t:ax Slot)(h:t.length<=10^9):ui t=some t:=by simp only[ui,nn h,cG]
theorem KY (s:mf)(h:s.2.length<=10^9):sI s=some s:=by simp only[sI,lG _ h,ab]
theorem MF (s:cQ)(h1:s.1.length<=10^9)(h2:s.2.1.length<=10^9)(h3:s.2.2.2.length<=10^9):pO s=some s:=by simp only[pO,nn h1,MG _ h2,KY _ h3,ab,cG]
theorem Es (t:ax Slot)(h:t.length<=10^9):uP t=some t:=by simp only[uP,nn h,cG]
theorem MU (s:cQ)(h1:s.1.length<=10^9)(h2:s.2.1.length<=10^9)(h3:s.2.2.2.length<=10^9):xY s=some s:=by simp only[xY,nn h1,Es _ h2,nn h3,ab,cG]
theorem aaT (l:ax kz)(i:Nat)(hi:i<l.length):l.take i++[(l[i].1,l[i].2.1,l[i].2.2)]=l.take (i+1):=(bL hi).symm
theorem F3 (l:ax kz)(h:l.length<=10^9)(hx:∀x∈l,x.2.2.length<=10^9):rU l=some l:=by unfold rU;refine(eD (λi=>(l.take i,(i:Int))) l.length (by omega) (λi nx hi=>?_) (λnx=>?_));simp only[qY];rw[ks,bl hi,ak];simp only[ah,ab,lG _ (hx _ (aZ hi))];rw[aX (by simp;omega),aaT l i hi];rfl;simp only[qY];rw[cP,eo];rfl
structure ae2 (t:dx):Prop where
 p:t.2.1.2.2.2.length<=10^9
 w:t.2.2.1.length<=10^9
 x:∀x∈t.2.2.1,x.2.2.length<=10^9
theorem EW (t:dx)(z:ae2 t):qq t=some t:=by simp only[qq,tk _ z.p,F3 _ z.w z.x,ab]
theorem akk (z:cW 1000000000 dD h):ae2 h.2.2.1:=⟨z.2.2.1.2.1.2.2.2.1,z.2.2.1.2.2.1.1,λx hx=>(z.2.2.1.2.2.1.2 x hx).2.2.1⟩
theorem kc (h:Host)(z:cW 1000000000 dD h):gn h=some h:=by have hp:h.2.2.2.2.1.length<=10^9:=z.2.2.2.2.1.1;have hm:h.1.length<=10^9:=z.1.1;unfold gn;simp only[fP _ (show h.1.length<=1073741824 by omega),uh,nn z.2.1.1,EW _ (akk z),nn z.2.2.2.1.1,ab,cG];refine(eD (λi=>((i:Int),h.1,h.2.1,h.2.2.1,h.2.2.2.1,h.2.2.2.2.1.take i,h.2.2.2.2.2)) h.2.2.2.2.1.length (by omega) (λi nx hi=>?_) (λnx=>?_));simp only[qX];rw[ks,bl hi,ak];simp only[ah,ab,tk _ (z.2.2.2.2.1.2 _ (aZ hi)).2.2.2.1];rw[aX (by simp;omega),<-bL hi];rfl;simp only[qX];rw[cP,eo];simp only[af,nn z.2.2.2.2.2.1.1,nn z.2.2.2.2.2.2.1.1,KX _ z.2.2.2.2.2.2.2.1.2.2.1,MF _ z.2.2.2.2.2.2.2.2.1.1.1 z.2.2.2.2.2.2.2.2.1.2.1.1 z.2.2.2.2.2.2.2.2.1.2.2.2.1,xj _ z.2.2.2.2.2.2.2.2.2.1.1,Jt _ z.2.2.2.2.2.2.2.2.2.2.2.1.1,lG _ z.2.2.2.2.2.2.2.2.2.2.2.2.1.1,lG _ z.2.2.2.2.2.2.2.2.2.2.2.2.2.1.1,ab,cG]
theorem Xp:∀l:ax kz,(bu l).length<=T9 (.sl ir) l
 |[]=>by simp[bu]
 |x::l=>by have:=Xp l;simp only[bu,T9,List.flatMap_cons,ai,cS,List.sum_cons,bz]at this⊢;omega
def atF (f:D4)(s:Stream):Bool:=decide (s.1=f)
def TG (l:ax Stream)(f:D4):Int:=match l.findIdx? (atF f)with|some i=>(i:Int)|none=> -1
theorem aef (l:ax Stream)(f:D4)(h:l.length<=10^9):rh l f=some (TG l f):=by
 unfold rh TG;rw[Du (p:=atF f) (hit:=λi=>some i) (fin:=some (-1)) l (by omega) (λi hi nx=>?hs) (λnx=>?hf)]
 case hs=>
  simp only[mT]
  rw[ks,bl hi,ak]
  simp only[ah,ab,FM,atF];rfl
 case hf=>
  simp only[mT]
  rw[cP];rfl
 cases l.findIdx? (atF f)<;>rfl
theorem adi (l:ax Stream)(f:D4)(h:l.length<=10^9):qQ l f=some (TG l f):=by
 unfold qQ TG;rw[Du (p:=atF f) (hit:=λi=>some i) (fin:=some (-1)) l (by omega) (λi hi nx=>?hs) (λnx=>?hf)]
 case hs=>
  simp only[mJ]
  rw[ks,bl hi,ak]
  simp only[ah,ab,FM,atF];rfl
 case hf=>
  simp only[mJ]
  rw[cP];rfl
 cases l.findIdx? (atF f)<;>rfl
def W8:Stream:=((0,0,0,0,0),0,([]:Bytes),false)
def body (p:aP):Bytes:=p.2.2.2.2.2.2.2.2.2.2.2.2.2.2.2
def udp (p:aP):Bytes:=bT ((body p).length:Int)++body p
def DZ (p:aP)(b:Int):Bool:=ar (toNat (gr p.2.2.2.2.2.2.2.2.2.2.2.2.2.1&&&gr b)) !=0
def wZ (s:Stream)(p:aP):Int:=(s.2.1-p.2.2.2.2.2.2.2.2.2.2.2.1)%4294967296
def aiN (s:Stream)(p:aP):Stream:=(s.1,(s.2.1+((body p).length:Int)-wZ s p)%4294967296,s.2.2.1++(body p).drop (wZ s p).toNat,DZ p 1)
def Co (l:ax Stream)(p:aP):ax Stream:=
 bif !dw p then l else
 match l.findIdx? (atF (lr p))with
 |none=>
  bif p.2.2.2.2.2.2.2.2.1==17 then l++[(lr p,0,udp p,false)] else
  bif DZ p 2 then l++[(lr p,tmod (ar (p.2.2.2.2.2.2.2.2.2.2.2.1+1)) 4294967296,([]:Bytes),false)] else l
 |some i=>
  bif p.2.2.2.2.2.2.2.2.1==17 then l.set i ((l.getD i W8).1,(l.getD i W8).2.1,(l.getD i W8).2.2.1++udp p,(l.getD i W8).2.2.2) else
  bif DZ p 2 then l else
  bif (l.getD i W8).2.2.2||DZ p 4 then l else
  bif decide (wZ (l.getD i W8) p<=((body p).length:Int)) then l.set i (aiN (l.getD i W8) p) else l
theorem abz (s:Stream)(p:aP):0<=wZ s p/\wZ s p<4294967296:=by unfold wZ;omega
theorem ain (x:Int):ar (toNat (gr x&&&gr 4294967295))=x%4294967296:=by have:=Ce x 32;rw[show((2:Int)^32-1)=4294967295 from rfl,show((2:Int)^32)=4294967296 from rfl]at this;rw[this,ak]
theorem ag5 (x:Int):ar x%4294967296=x%4294967296:=by have:=AR x 32;rwa[show((2:Int)^32)=4294967296 from rfl]at this
theorem Qk (l:ax α)(x y:α):(l++[x]).set l.length y=l++[y]:=by rw[List.set_append_right _ _ (aS _),jG,List.set_cons_zero]
theorem afs {l:ax α}(h:i<l.length)(x:α):idx (l.set i x) (i:Int)=some x:=by rw[JO,List.getElem?_set_self h]
theorem F1 (l:ax α)(x:α):idx (l++[x]) (l.length:Int)=some x:=by rw[JO,bm (aS _),jG];rfl
theorem Q0 (h:dw p=true):(body p).length<=320:=BG h
theorem PM (l:ax Stream)(p:aP)(h:cW 900000000 (.sl dL) l):xG l p=some (Co l p):=by
 have hl:l.length<=900000000:=h.1;unfold xG Co;simp only[xj l,oZ,ab,K0,adi l _ (show l.length<=10^9 by omega),kM];cases hs:dw p;rfl;have hb:=Q0 hs;have hw:=bF ((body p).length:Int);simp only[aj,af];rw[show p.2.2.2.2.2.2.2.2.2.2.2.2.2.2.2=body p from rfl];cases hf:l.findIdx? (atF (lr p))with
 |none=>
  have e1:TG l (lr p)= -1:=by rw[TG,hf]
  simp only[e1,show decide ((-1:Int)<0)=true from rfl,ah];cases p.2.2.2.2.2.2.2.2.1==17 with|true=>simp only[ah];rw[aX (by simp;omega),F1,ab];simp only;rw[aX,aX (by simp only[ai,eO];omega),ab,aA];simp only[ab,F1,Qk,cG];rfl|false=>simp only[af];rw[show(ar (toNat (gr p.2.2.2.2.2.2.2.2.2.2.2.2.2.1&&&gr 2)) !=0)=DZ p 2 from rfl];cases DZ p 2 with|true=>simp only[ah];rw[lv,aX (by simp;omega)]|false=>rfl
 |some i=>
  obtain⟨hi,_⟩:=List.findIdx?_eq_some_iff_getElem.1 hf;have hd:(l[i].2.2.1).length<=900000000:=(h.2 _ (aZ hi)).2.2.1;have e1:TG l (lr p)=(i:Int):=by rw[TG,hf]
  simp only[e1,au (show¬(i:Int)<0 by omega),af,bl hi,ab,ca hi,aA];cases p.2.2.2.2.2.2.2.2.1==17 with
  |true=>simp only[ah];rw[aX,aX (by simp only[ai];omega)];rfl
  |false=>
   simp only[af];rw[show(ar (toNat (gr p.2.2.2.2.2.2.2.2.2.2.2.2.2.1&&&gr 2)) !=0)=DZ p 2 from rfl,show(ar (toNat (gr p.2.2.2.2.2.2.2.2.2.2.2.2.2.1&&&gr 4)) !=0)=DZ p 4 from rfl,show(ar (toNat (gr p.2.2.2.2.2.2.2.2.2.2.2.2.2.1&&&gr 1)) !=0)=DZ p 1 from rfl];cases DZ p 2;case true=>rfl
   simp only[af];rw[show(aa (cond l[i].2.2.2 (some true) (some (DZ p 4))):(Bool->ay (ax Stream))->ay (ax Stream))=λK=>K (l[i].2.2.2||DZ p 4) from by funext K;cases l[i].2.2.2<;>rfl];simp only;cases l[i].2.2.2||DZ p 4;case true=>rfl
   simp only[af,HN _ 4294967296,ab,ag5];rw[show(l[i].2.1-p.2.2.2.2.2.2.2.2.2.2.2.1)%4294967296=wZ l[i] p from rfl];have ha:=abz l[i] p;by_cases hq:wZ l[i] p<=((body p).length:Int)
   rw[aw hq,uV (l:=body p) (wZ l[i] p).toNat (by omega) (by omega)];simp only[ah,ab];rw[aX (by rw[aM];omega)];simp only[afs hi,ab,List.set_set];refine congrArg some (congrArg (l.set i) ?_);simp only[aiN];rw[show(ar (l[i].2.1+((body p).length:Int))-wZ l[i] p)%4294967296=(l[i].2.1+((body p).length:Int)-wZ l[i] p)%4294967296 from by rw[Int.sub_emod,ag5,<-Int.sub_emod]];rw[au hq];rfl
theorem Pf {l:ax Stream}(h:cW n (.sl dL) l):cW (n+322) (.sl dL) (Co l p):=by
 have h':cW (n+322) (.sl dL) l:=h.mono;unfold Co;cases hs:dw p;exact h';have hb:=Q0 hs;have hw:=bF ((body p).length:Int);have hu:(udp p).length<=322:=by simp only[udp,ai];omega
 simp only[aj,af];have app:∀x:Stream,x.2.2.1.length<=n+322->cW (n+322) (.sl dL) (l++[x]):=by intro x hx;refine⟨?_,λy hy=>?_⟩;have:l.length<=n:=h.1;simp only[ai,bC];omega;rcases az.1 hy with g|g;exact h'.2 y g;rw[cp.1 g];exact⟨⟨cq,cq,cq,cq,cq⟩,cq,hx,cq⟩
 have put:∀(i:Nat)(x:Stream),x.2.2.1.length<=n+322->cW (n+322) (.sl dL) (l.set i x):=by intro i x hx;refine⟨?_,λy hy=>?_⟩;show(l.set i x).length<=_;rw[aC];exact h'.1;rcases dJ hy with g|rfl;exact h'.2 y g;exact⟨⟨cq,cq,cq,cq,cq⟩,cq,hx,cq⟩
 split;cases p.2.2.2.2.2.2.2.2.1==17 with|true=>exact app _ (show(udp p).length<=_ by omega)|false=>cases DZ p 2 with|true=>exact app _ (bU _)|false=>exact h'
 ·rename_i i hf;obtain⟨hi,_⟩:=List.findIdx?_eq_some_iff_getElem.1 hf;have hd:(l[i].2.2.1).length<=n:=(h.2 _ (aZ hi)).2.2.1;simp only[ca hi];cases p.2.2.2.2.2.2.2.2.1==17 with
  |true=>exact put _ _ (by simp only[ai];omega)
  |false=>
   cases DZ p 2;case true=>exact h'
   cases l[i].2.2.2||DZ p 4;case true=>exact h'
   cases decide (wZ l[i] p<=((body p).length:Int))with|false=>exact h'|true=>exact put _ _ (by simp only[aiN,ai,aM];omega)
theorem jl {y:Bytes}(h:i<x.length):bM (x++y) i=bM x i:=by unfold bM;rw[bA,bA,bB h]
theorem tj {y:Bytes}(h:x.length<=i):bM (x++y) i=bM y (i-x.length):=by unfold bM;rw[bA,bA,bm h]
theorem Q5 (h:i<n):bM (x.take n) i=bM x i:=by unfold bM;rw[bA,bA,dQ h]
theorem lE:bM (x.drop n) i=bM x (n+i):=by unfold bM;rw[bA,bA,bH]
theorem Qa {p:Bytes}(h:i<a\/a+p.length<=i:=by omega):bM (vp s (a:Int) p) i=bM s i:=by
 unfold vp eX;by_cases hw:(0:Int)<=a/\(a:Int)+(p.length:Int)<=(s.length:Int)
 rw[aw hw,ah,aA];have ht:(s.take a).length=a:=by rw[aW];omega
 rcases h with h|h;rw[jl (by rw[ai];omega),jl (by omega),Q5 h];rw[tj (by rw[ai];omega),lE,ai,ht];congr 1;omega;rw[au hw];rfl
theorem X5 {p:Bytes}{j:Nat}(hw:a+p.length<=s.length)(hj:j<p.length:=by omega):bM (vp s (a:Int) p) (a+j)=bM p j:=by
 unfold vp eX;rw[aw ⟨by omega,by omega⟩,ah,aA];have ht:(s.take a).length=a:=by rw[aW];omega
 rw[jl (by rw[ai];omega),tj (by omega),ht];congr 1;omega
theorem tp:cj s (a:Int)=bif decide (a+2<=s.length) then((bM s a*256+bM s (a+1):Nat):Int) else-1:=by unfold cj eX;rw[aA,show decide ((0:Int)<=a/\(a:Int)+2<=(s.length:Int))=decide (a+2<=s.length) from decide_eq_decide.2 (by omega)]
theorem Cz (hl:s.length=t.length)(h0:bM s a=bM t a)(h1:bM s (a+1)=bM t (a+1)):cj s (a:Int)=cj t (a:Int):=by rw[tp,tp,hl,h0,h1]
theorem KG {k:Nat}:cj (s.drop k) (a:Int)=cj s ((k+a:Nat):Int):=by rw[tp,tp,lE,lE,aM,show k+(a+1)=k+a+1 by omega,show decide (a+2<=s.length-k)=decide (k+a+2<=s.length) from decide_eq_decide.2 (by omega)]
theorem Dy:fI s (a:Int)=bif decide (a+4<=s.length) then(((bM s a*256+bM s (a+1))*65536+(bM s (a+2)*256+bM s (a+3)):Nat):Int) else-1:=by unfold fI eX;rw[aA,show decide ((0:Int)<=a/\(a:Int)+4<=(s.length:Int))=decide (a+4<=s.length) from decide_eq_decide.2 (by omega)]
theorem KH {k:Nat}:fI (s.drop k) (a:Int)=fI s ((k+a:Nat):Int):=by rw[Dy,Dy,lE,lE,lE,lE,aM,show k+(a+1)=k+a+1 by omega,show k+(a+2)=k+a+2 by omega,show k+(a+3)=k+a+3 by omega,show decide (a+4<=s.length-k)=decide (k+a+4<=s.length) from decide_eq_decide.2 (by omega)]
theorem RD (hl:s.length=t.length)(h:∀j,j<4->bM s (a+j)=bM t (a+j)):fI s (a:Int)=fI t (a:Int):=by rw[Dy,Dy,hl,show bM s a=bM t a from h 0 (by omega),h 1 (by omega),h 2 (by omega),h 3 (by omega)]
def dm (s:Bytes):Nat:=bif cj s 12==33024 then 18 else 14
def kv (s:Bytes):Nat:=bM s (dm s+9)
def LX (k:Nat):Nat:=bif (k:Int)==6 then 16 else 6
def Ah (s:Bytes):Nat:=dm s+10
def yf (s:Bytes):Nat:=dm s+20+LX (kv s)
theorem GU (k:Nat):LX k=16/\k=6\/LX k=6/\k≠6:=by unfold LX;by_cases h:k=6;subst h;exact .inl ⟨rfl,rfl⟩;exact .inr ⟨by rw[show((k:Int)==6)=false from by rw[cH];omega];rfl,h⟩
theorem J7 (s:Bytes):dm s=18/\(cj s 12==33024)=true\/dm s=14/\(cj s 12==33024)=false:=by unfold dm;cases cj s 12==33024 with|true=>exact .inl ⟨rfl,rfl⟩|false=>exact .inr ⟨rfl,rfl⟩
theorem HD (k:Nat)(h:k<256):ft (k:Int)=some (LX k:Int):=by unfold ft LX;cases (k:Int)==6<;>rfl
theorem Gc (s:Bytes)(h:s.length<=10^9):qv s=some ((Ah s:Int),(yf s:Int)):=by
 unfold qv;rw[vi s 12 h,ab];have hk:=eH s (dm s+9)
 have core:∀o:Nat,dm s=o->(o=18\/o=14)->(bif decide (ar ((o:Int)+9)<(s.length:Int)) then
  aa (idx s (ar ((o:Int)+9))) λx2=>aa (ft (ar ((UInt8.toNat x2:Int)))) λr3=>some (ar ((o:Int)+10),ar ((ar ((o:Int)+20))+r3))
  else aa (ft 0) λr4=>some (ar ((o:Int)+10),ar ((ar ((o:Int)+20))+r4)))=some ((Ah s:Int),(yf s:Int)):=by
  intro o ho h2
  have hs:=GU (kv s)
  rw[ak (n:=(o:Int)+9),ak (n:=(o:Int)+10),ak (n:=(o:Int)+20)]
  unfold Ah yf
  rw[ho]
  by_cases hl:o+9<s.length
  ·obtain⟨x,hx,ex⟩:=lI hl
   rw[ks,ah,show(o:Int)+9=((o+9:Nat):Int) by omega,hx,ab,ex,ic (by rw[<-ho];omega),HD _ (by rw[<-ho];exact hk),ab,show bM s (o+9)=kv s by unfold kv;rw[ho],ak]
   congr 1
  ·have hz:kv s=0:=by unfold kv;rw[ho];exact EG
   have h0:ft 0=some (LX 0:Int):=HD 0 (by omega)
   rw[cP,af,h0,ab,<-hz,ak]
   congr 1
 rcases J7 s with⟨h1,h2⟩|⟨h1,h2⟩;rw[h2,ah];exact core 18 h1 (.inl rfl);rw[h2,af];exact core 14 h1 (.inr rfl)
theorem XY {a:Int}(h:di a 0 281474976710655=true):(Z0 a).length=6:=by
 have ha:=bh.1 h;have e:Z0 a=bT (fdiv a (2^(oU 32)))++iY (ar (toNat (gr a&&&gr 4294967295))):=by unfold Z0 iL;rw[lv];simp only[om,qy,ab];have h1:=bF (fdiv a (2^(oU 32)));have h2:=eE (ar (toNat (gr a&&&gr 4294967295)));rw[aX];rfl
 have e2:(2:Int)^(oU 32)=4294967296:=rfl;rw[e,ai,Fh,Mi,ain,e2];rw[show di (fdiv a 4294967296) 0 65535=true from bh.2 (by rw[Int.fdiv_eq_ediv_of_nonneg _ (by omega)];omega),show di (a%4294967296) 0 4294967295=true from bh.2 (by omega)];rfl
theorem R2 (h:dw p=true):dm (dp p).1+46<=(dp p).1.length:=by
 have hh:pC p=true:=by simp only[dw,ae]at h;exact h.1
 have hp:=P8 (ZS p).1;have hi:=DE h;unfold dp aff Rj at hi⊢;rw[h,ah]at hi⊢;cases he:qE (p.1,p.2.1,p.2.2.1,2048,pad (ZS p).1)with|false=>rw[he]at hi;cases hi|true=>?_
 simp only[ah];simp only[pC,ae]at hh;have m1:=XY hh.1;have m2:=XY hh.2.1;have hv:=bh.1 hh.2.2.1;have w1:(bT 33024).length=2:=rfl;have w3:(bT 2048).length=2:=rfl;generalize pad (ZS p).1=bd at hp⊢;unfold Nm;simp only;generalize Z0 p.1=M1 at m1⊢;generalize Z0 p.2.1=M2 at m2⊢;by_cases hc:p.2.2.1>=0;have w2:(bT p.2.2.1).length=2:=by rw[Fh,bh.2 (by omega)];rfl
 rw[aw hc,ah];have hb:dm (((((M1++M2)++bT 33024)++bT p.2.2.1)++bT 2048)++bd)=18:=by
  unfold dm;have e12:cj (((((M1++M2)++bT 33024)++bT p.2.2.1)++bT 2048)++bd) ((12:Nat):Int)=33024:=by rw[tp,aw (by simp only[ai];omega),ah];rw[jl (by simp only[ai];omega),jl (by simp only[ai];omega),jl (by simp only[ai];omega),tj (by simp only[ai];omega)];rw[jl (by simp only[ai];omega),jl (by simp only[ai];omega),jl (by simp only[ai];omega),tj (by simp only[ai];omega)];rw[ai,m1,m2];rfl
  rw[show(12:Int)=((12:Nat):Int) from rfl,e12];rfl
 rw[hb];simp only[ai];omega;rw[au hc,af];have hb:dm (((M1++M2)++bT 2048)++bd)=14:=by
  unfold dm;have e12:cj (((M1++M2)++bT 2048)++bd) ((12:Nat):Int)=2048:=by rw[tp,aw (by simp only[ai];omega),ah];rw[jl (by simp only[ai];omega),tj (by simp only[ai];omega)];rw[jl (by simp only[ai];omega),tj (by simp only[ai];omega)];rw[ai,m1,m2];rfl
  rw[show(12:Int)=((12:Nat):Int) from rfl,e12];rfl
 rw[hb];simp only[ai];omega
def lR (t:Bytes)(x y:Bytes):Bytes:=vp (vp t (Ah t:Int) x) (yf t:Int) y
theorem CY (t x y:Bytes):(lR t x y).length=t.length:=by unfold lR;rw[wQ,wQ]
def jL (p:aP):Bytes×Bool:=bif dw p then(lR (dp p).1 (bT 0) (bT 0),true) else([],false)
theorem ac0 (h:dw p=false):dp p=([],false):=by unfold dp;rw[h];rfl
theorem NT (p:aP):mj p=some (jL p):=by have hl:=yo p;have w0:=bF 0;unfold mj jL lR;rw[DF,ab];cases h:dw p with|false=>rw[ac0 h];rfl|true=>rw[DE h];simp only[aj,af,ah,Gc _ (show(dp p).1.length<=10^9 by omega),ab,kM,Bk _ _ _ (show(dp p).1.length<=10^9 by omega) (show(bT 0).length<=10^9 by omega),Bk _ _ _ (show(vp (dp p).1 (Ah (dp p).1:Int) (bT 0)).length<=10^9 by rw[wQ];omega) (show(bT 0).length<=10^9 by omega)]
def BM (s t:Bytes):Prop:=s.length=t.length/\∀i,i<Ah t\/(Ah t+2<=i/\i<yf t)\/yf t+2<=i->bM s i=bM t i
theorem yR (t:Bytes):(dm t=14\/dm t=18)/\Ah t=dm t+10/\dm t+26<=yf t/\yf t<=dm t+36/\(yf t=dm t+36/\kv t=6\/yf t=dm t+26/\kv t≠6):=by have h1:=J7 t;have h2:=GU (kv t);unfold Ah yf;omega
theorem En (t:Bytes){y:Bytes}(hx:x.length<=2)(hy:y.length<=2):BM (lR t x y) t:=by have:=yR t;refine⟨CY t x y,λi hi=>?_⟩;unfold lR;rw[Qa,Qa]
theorem BM.body (h:BM s t):dm s=dm t:=by have:=yR t;unfold dm;have e:cj s ((12:Nat):Int)=cj t ((12:Nat):Int):=Cz h.1 (h.2 _ (by omega)) (h.2 _ (by omega));rw[show(12:Int)=((12:Nat):Int) from rfl,e]
theorem BM.kind (h:BM s t):kv s=kv t:=by have:=yR t;unfold kv;rw[h.body,h.2 _ (by omega)]
theorem BM.aiD (h:BM s t):Ah s=Ah t/\yf s=yf t:=by unfold Ah yf;rw[h.body,h.kind];exact⟨rfl,rfl⟩
theorem BM.akj (h:BM s t):cj s ((dm t+2:Nat):Int)=cj t ((dm t+2:Nat):Int):=by have:=yR t;exact Cz h.1 (h.2 _ (by omega)) (h.2 _ (by omega))
structure TOk (t:Bytes):Prop where
 eth:(fL t).2=true
 bd:(fL t).1.2.2.2.2=t.drop (dm t)
 l1:dm t+46<=t.length
 n1:20+LX (kv t)+2<=cj t ((dm t+2:Nat):Int)
 n2:cj t ((dm t+2:Nat):Int)<=(t.length:Int)-(dm t:Int)
theorem HV (h:(fL s).2=true):(fL s).1.2.2.2.2=s.drop (dm s)/\18<=s.length/\46<=s.length-dm s/\s.length-dm s<=400:=by
 unfold fL at h⊢;by_cases h8:(s.length:Int)<18;rw[aw h8]at h;cases h;rw[au h8]at h⊢;simp only[af]at h⊢;rcases J7 s with⟨h1,h2⟩|⟨h1,h2⟩;rw[h2]at h⊢;simp only[ah]at h⊢;cases he:qE (EK s)with|false=>rw[he]at h;cases h|true=>rw[h1];simp only[qE,ae,bh,EK,aM]at he;simp only[ah,EK];refine⟨cq,by omega,by omega,by omega⟩
 rw[h2]at h⊢;simp only[af]at h⊢;cases he:qE (wC s)with|false=>rw[he]at h;cases h|true=>rw[h1];simp only[qE,ae,bh,wC,aM]at he;simp only[ah,wC];refine⟨cq,by omega,by omega,by omega⟩
theorem LD (h:(jT s).2=0):(fL s).2=true/\(lf (fL s).1.2.2.2.2).2=true/\dw (jT s).1=true/\ (qw (lf (fL s).1.2.2.2.2).1.2.2.2.2.1 (lf (fL s).1.2.2.2.2).1.2.2.2.2.2.1 (lf (fL s).1.2.2.2.2).1.2.2.2.1 (lf (fL s).1.2.2.2.2).1.2.2.2.2.2.2).2=true:=by
 unfold jT at h⊢;simp only at h⊢;generalize fL s=e at h⊢;cases h1: !e.2||(e.1.2.2.2.1 !=2048)with|true=>rw[h1]at h;cases h|false=>?_
 rw[h1]at h;simp only[af]at h⊢;generalize lf e.1.2.2.2.2=i at h⊢;cases h2:i.2 with|false=>rw[h2]at h;cases h|true=>?_
 rw[h2]at h;simp only[aj,af]at h⊢;generalize qw i.1.2.2.2.2.1 i.1.2.2.2.2.2.1 i.1.2.2.2.1 i.1.2.2.2.2.2.2=g at h⊢;cases h3:g.2 with|false=>rw[h3]at h;cases h|true=>?_
 rw[h3]at h;simp only[aj,af]at h⊢;cases h4:dw (e.1.1,e.1.2.1,e.1.2.2.1,i.1.1,i.1.2.1,i.1.2.2.1,i.1.2.2.2.2.1,i.1.2.2.2.2.2.1,g.1)with|false=>rw[h4]at h;cases h|true=>?_
 simp only[ch,dB]at h1;exact⟨h1.1,cq,h4,cq⟩
theorem adL (h:(lf b).2=true):20<=cj b 2/\cj b 2<=(b.length:Int)/\(lf b).1=Bq b:=by
 unfold lf at h⊢;cases h1:decide ((b.length:Int)<20)||(decide (cj b 2<20)||decide (cj b 2>(b.length:Int)))with|true=>rw[h1]at h;cases h|false=>?_
 rw[h1]at h;simp only[af]at h⊢;cases h2:(QO (Bq b)).2&&((QO (Bq b)).1==b.take (cj b 2).toNat)with|false=>rw[h2]at h;cases h|true=>?_
 simp only[ch,cU]at h1;exact⟨by omega,by omega,rfl⟩
theorem aas {a b k:Int}(h:(qw a b k s).2=true):k=6/\20<=s.length\/k=17/\8<=s.length:=by unfold qw at h;cases h1:(k==6)&&decide ((s.length:Int)>=20)with|true=>simp only[ae,aV,aD]at h1;exact .inl ⟨h1.1,by omega⟩|false=>rw[h1]at h;simp only[af]at h;cases h2:(k==17)&&decide ((s.length:Int)>=8)with|true=>simp only[ae,aV,aD]at h2;exact .inr ⟨h2.1,by omega⟩|false=>rw[h2]at h;cases h
theorem YN (hl:s.length=t.length)(h:∀i,i<18->bM s i=bM t i)(hs:(fL s).2=true):(fL t).2=true:=by
 have g16:∀a,a+2<=18->cj s ((a:Nat):Int)=cj t ((a:Nat):Int):=λa ha=>Cz hl (h _ (by omega)) (h _ (by omega));have g32:∀a,a+4<=18->fI s ((a:Nat):Int)=fI t ((a:Nat):Int):=λa ha=>RD hl (λj hj=>h _ (by omega));have e0:Ek s 0=Ek t 0:=by unfold Ek;rw[show(0:Int)=((0:Nat):Int) from rfl,g16 0 (by omega),show((0:Nat):Int)+2=((2:Nat):Int) from rfl,g32 2 (by omega)]
 have e6:Ek s 6=Ek t 6:=by unfold Ek;rw[show(6:Int)=((6:Nat):Int) from rfl,g16 6 (by omega),show((6:Nat):Int)+2=((8:Nat):Int) from rfl,g32 8 (by omega)]
 have e12:cj s 12=cj t 12:=g16 12 (by omega);have e14:cj s 14=cj t 14:=g16 14 (by omega);have e16:cj s 16=cj t 16:=g16 16 (by omega);have b1:qE (EK s)=qE (EK t):=by unfold qE EK;rw[e0,e6,e14,e16];simp only[aM,hl]
 have b2:qE (wC s)=qE (wC t):=by unfold qE wC;rw[e0,e6,e12];simp only[aM,hl]
 unfold fL at hs⊢;rw[hl,e12,b1,b2]at hs;cases h8:decide ((t.length:Int)<18)with|true=>rw[h8]at hs;cases hs|false=>?_
 rw[h8]at hs;cases h12:cj t 12==33024 with
 |true=>rw[h12]at hs;cases hb:qE (EK t)with|true=>rfl|false=>rw[hb]at hs;cases hs
 |false=>rw[h12]at hs;cases hb:qE (wC t)with|true=>rfl|false=>rw[hb]at hs;cases hs
theorem aiO (ha:BM s t)(h:(jT s).2=0):TOk t:=by
 have hp:=yR t;obtain⟨h1,h2,_,h4⟩:=LD h;have he:=HV h1;rw[he.1]at h2 h4;have hi:=adL h2;have hs:=aas h4;rw[hi.2.2]at hs;have e1:(fL t).2=true:=YN ha.1 (λi hi=>ha.2 i (by omega)) h1;have e2:=HV e1;have en:cj (s.drop (dm s)) 2=cj t ((dm t+2:Nat):Int):=by have:cj (s.drop (dm s)) ((2:Nat):Int)=cj s ((dm s+2:Nat):Int):=KG;rw[show(2:Int)=((2:Nat):Int) from rfl,this,ha.body,ha.akj]
 have ek:(Bq (s.drop (dm s))).2.2.2.1=(kv t:Int):=by show(bM (s.drop (dm s)) 9:Int)=_;rw[lE,<-ha.kind];rfl
 have eg:(Bq (s.drop (dm s))).2.2.2.2.2.2.length=(cj t ((dm t+2:Nat):Int)).toNat-20:=by show(((s.drop (dm s)).take (cj (s.drop (dm s)) 2).toNat).drop 20).length=_;rw[en,aM,aW];have:=hi.2.1;rw[en]at this;omega
 rw[ek,eg]at hs;rw[en]at hi;have hn:=hi.2.1;rw[aM,ha.1,ha.body]at hn;have hk:=GU (kv t);exact⟨e1,e2.1,by omega,by omega,by omega⟩
theorem abb (h:(jL p).1=t)(hs:dw p=true)(ht:TOk t):cj t (Ah t:Int)=0/\cj t (yf t:Int)=0:=by
 unfold jL at h;rw[hs]at h;simp only[ah]at h;have w0:(bT 0).length=2:=rfl;have ha:BM (lR (dp p).1 (bT 0) (bT 0)) (dp p).1:=En _ (by omega) (by omega);rw[h]at ha;have hp:=yR t;have DC:=ha.aiD;have hl:=ht.l1;have yn:=ha.1;have Hx:=ht.n1;have Cc:=ht.n2;have hk:=GU (kv t);have hB:yf t+2<=t.length:=by omega
 have b0:bM (bT 0) 0=0:=rfl;have b1:bM (bT 0) 1=0:=rfl;rw[tp,tp,ks,aw hB,ah,ah];have eB:∀j,j<2->bM t (yf t+j)=bM (bT 0) j:=by intro j hj;rw[<-h];unfold lR;rw[show yf (vp (vp (dp p).1 (Ah (dp p).1:Int) (bT 0)) (yf (dp p).1:Int) (bT 0))=yf (dp p).1 from by have:=DC.2;rw[<-h]at this;exact this];exact X5 (by rw[wQ,w0];omega)
 have eA:∀j,j<2->bM t (Ah t+j)=bM (bT 0) j:=by intro j hj;rw[<-h];unfold lR;rw[show Ah (vp (vp (dp p).1 (Ah (dp p).1:Int) (bT 0)) (yf (dp p).1:Int) (bT 0))=Ah (dp p).1 from by have:=DC.1;rw[<-h]at this;exact this];rw[Qa];exact X5 (by rw[w0];omega)
 have a0:=eA 0 (by omega);have a1:=eA 1 (by omega);have c0:=eB 0 (by omega);have c1:=eB 1 (by omega);rw[dT]at a0 c0;rw[a0,a1,c0,c1,b0,b1];exact⟨rfl,rfl⟩
theorem Kb (s:Bytes):aL (dk s)=s:=by
 unfold aL dk;rw[List.map_map];conv=>rhs;rw[<-List.map_id s]
 refine List.map_congr_left λb _=>?_;simp
theorem adl (s t:Bytes):dk (s++t)=dk s++dk t:=dS
theorem Gi (s:Bytes):(dk s).length=s.length:=cb ..
theorem QA (l:ax α)(i j:Nat)(h:i<=j)(h2:j<=l.length):sub l (i:Int) (j:Int)=some ((l.drop i).take (j-i)):=by unfold sub;rw[zip];simp[List.take_drop,Nat.add_sub_cancel' h]
theorem TM (a k:Nat):Int.tdiv (a:Int) (k:Int)=((a/k:Nat):Int):=(Int.ofNat_tdiv a k).symm
theorem G3 (a k:Nat):tmod (a:Int) (k:Int)=((a%k:Nat):Int):=(Int.ofNat_tmod a k).symm
theorem mem_iff:cx m=true↔(∀x∈m,x.length=128)/\m.length<=64:=by simp only[cx,ae,aF,aV,aD];constructor;rintro⟨h1,h2⟩;exact⟨λx hx=>by have:=h1 x hx;omega,by omega⟩;rintro⟨h1,h2⟩;exact⟨λx hx=>by have:=h1 x hx;omega,by omega⟩
theorem Rs:∀{m:bR},(∀x∈m,x.length=128)->m.flatten.length=128*m.length
 |[],_=>rfl
 |x::m,h=>by have:=Rs (m:=m) (λy hy=>h y (by simp[hy]));have:=h x (by simp);simp only[List.flatten_cons,ai,bz];omega
theorem Nv:∀{m:bR}(_:∀x∈m,x.length=128)(p:Nat)(hp:p<m.length)(o c:Nat),o+c<=128->(m.flatten.drop (128*p+o)).take c=(m[p].drop o).take c
 |x::m,h,0,hp,o,c,ho=>by have:=h x (by simp);simp only[List.flatten_cons,List.getElem_cons_zero];rw[List.drop_append_of_le_length (by omega),List.take_append_of_le_length (by simp;omega)];simp
 |x::m,h,p+1,hp,o,c,ho=>by have hx:=h x (by simp);simp only[List.flatten_cons,List.getElem_cons_succ];rw[show 128*(p+1)+o=x.length+(128*p+o) by omega,List.drop_length_add_append];exact Nv (m:=m) (λy hy=>h y (by simp[hy])) p (by simpa using hp) o c ho
def yS (m:bR)(a n:Nat):Bytes:=(m.flatten.drop a).take n
theorem H3 (h:cx m=true)(hn:a+n<=128*m.length):(yS m a n).length=n:=by have:=Rs (mem_iff.1 h).1;simp only[yS,aW,aM];omega
theorem adR (m:bR)(a n:Nat):(yS m a n).length<=n:=by simp[yS];omega
theorem aaC (m:bR)(a k c:Nat):yS m a (k+c)=yS m a k++yS m (a+k) c:=by unfold yS;rw[List.take_add,eK]
theorem E5 (h:cx m=true){p:Nat}(hp:p<m.length)(ho:o+c<=128)(ha:a=128*p+o:=by omega):(m[p].drop o).take c=yS m a c:=by subst ha;exact(Nv (mem_iff.1 h).1 p hp o c ho).symm
def gD (m:bR)(a n:Int):Bool:=cx m&&decide (0<=n/\0<=a/\a+n<=128*(m.length:Int))
theorem CM (m:bR)(a n:Int)(h:m.length<=10^9):tw m a n=some (gD m a n):=by unfold tw gD;rw[EX m h,ab,ak (n:=(m.length:Int)*128)];cases hm:cx m with|false=>rfl|true=>simp only[ah,bq];by_cases h1:n>=0;by_cases h2:n<=(m.length:Int)*128;rw[ak (n:=(m.length:Int)*128-n)];by_cases h3:a>=0;simp only[aw h1,aw h2,aw h3,ah,ab];exact congrArg some (decide_eq_decide.2 (by omega));simp only[aw h1,aw h2,au h3,ah,af,ab];exact congrArg some (cP).symm;simp only[aw h1,au h2,ah,af,ab];exact congrArg some (cP).symm;simp only[au h1,af,ab];exact congrArg some (cP).symm
theorem I4 (m:bR)(a n:Int)(h:m.length<=10^9):nC m a n=some (gD m a n):=by unfold nC gD;rw[E7 m h,ab,ak (n:=128*(m.length:Int))];cases hm:cx m with|false=>rfl|true=>simp only[ah,bq];by_cases h1:n>=0;by_cases h3:a>=0;by_cases h2:a<=128*(m.length:Int);rw[ak (n:=128*(m.length:Int)-a)];simp only[aw h1,aw h2,aw h3,ah,ab];exact congrArg some (decide_eq_decide.2 (by omega));simp only[aw h1,au h2,aw h3,ah,af,ab];exact congrArg some (cP).symm;simp only[aw h1,au h3,ah,af,ab];exact congrArg some (cP).symm;simp only[au h1,af,ab];exact congrArg some (cP).symm
theorem F9 (hm:cx m=true)(K:Int->cZ->ay R):∀(n r k a f:Nat),r<=n->n<f->a+k+r<=128*m.length->
 ba (kO K ((k+r:Nat):Int) m) f (((a+k:Nat):Int),dk (yS m a k))=K ((a+k+r:Nat):Int) (dk (yS m a (k+r)))
 |n,r,k,a,0,_,hf,_=>by omega
 |n,0,k,a,f+1,hr,hf,hb=>by rw[ba];simp only[kO,Gi,H3 hm (show a+k<=128*m.length by omega),dT];rw[cP,af]
 |0,r+1,k,a,f+1,hr,hf,hb=>by omega
 |n+1,r+1,k,a,f+1,hr,hf,hb=>by
  have h64:=(mem_iff.1 hm).2;have hl:=H3 hm (show a+k<=128*m.length by omega);obtain⟨p,hp⟩:∃p,(a+k)/128=p:=⟨_,rfl⟩
  obtain⟨o,ho⟩:∃o,(a+k)%128=o:=⟨_,rfl⟩
  have hpo:a+k=128*p+o:=by omega
  have ho2:o<128:=by omega
  have DC:p<m.length:=by omega
  obtain⟨c,hc⟩:∃c,min (r+1) (128-o)=c:=⟨_,rfl⟩
  have hpg:=(mem_iff.1 hm).1 _ (aZ DC);have e1:Int.tdiv ((a+k:Nat):Int) 128=(p:Int):=by rw[<-hp];exact TM (a+k) 128
  have e2:tmod ((a+k:Nat):Int) 128=(o:Int):=by rw[<-ho];exact G3 (a+k) 128
  have key:=F9 hm K n (r+1-c) (k+c) a f (by omega) (by omega) (by omega);rw[ba];simp only[kO,Gi,hl,e1,e2];rw[ks,ah,lv,ak (n:=(p:Int)),bl DC,ab,lv];rw[ak (n:=(o:Int)+((k+(r+1):Nat):Int)),ak (n:=(o:Int)+((k+(r+1):Nat):Int)-(k:Int))];rw[show(if(o:Int)+((k+(r+1):Nat):Int)-(k:Int)<128 then(o:Int)+((k+(r+1):Nat):Int)-(k:Int) else 128)=((o+c:Nat):Int) by split<;>omega];rw[QA _ _ _ (by omega) (by omega),ab,show o+c-o=c by omega,E5 hm DC (show o+c<=128 by omega) hpo];have yn:=H3 hm (show a+k+c<=128*m.length by omega);rw[yn,aX,ak,<-adl,<-aaC];rw[show((a+k:Nat):Int)+(c:Int)=((a+(k+c):Nat):Int) by omega];rw[show k+c+(r+1-c)=k+(r+1) by omega,show a+(k+c)+(r+1-c)=a+k+(r+1) by omega]at key;exact key
theorem adf (m:bR)(a n:Int)(h:m.length<=10^9):oC m a n=some (bif gD m a n then(yS m a.toNat n.toNat,true) else([],false)):=by have B7:=eh;unfold oC;rw[CM m a n h,ab];cases hw:gD m a n with|false=>rfl|true=>simp only[gD,ae,aD]at hw;obtain⟨hm,h1,h2,h3⟩:=hw;have h64:=(mem_iff.1 hm).2;simp only[aj,af,ah];rw[zip,aX];obtain⟨a,rfl⟩:=aQ h2;obtain⟨n,rfl⟩:=aQ h1;have:=F9 hm (λ(y4:Int) (y5:cZ)=>some (aL y5,true)) n n 0 a fuel (by omega) (by omega) (by omega);rw[cr,dT]at this;refine Eq.trans this ?_;simp only[Kb,aA]
def B8 (d p:Int)(w:Bool)(x:aB):Bool:=kT d p x&&(x.2.2.2|| !w)
def nK (l:ax aB)(d p:Int)(w:Bool):Int:=match l.findIdx? (B8 d p w)with|some i=>(l.getD i B9).2.2.1|none=> -1
theorem aee (l:ax aB)(d p:Int)(w:Bool)(h:l.length<=10^9):xZ l d p w=some (nK l d p w):=by unfold xZ nK;refine Eq.trans (Du (p:=B8 d p w) (hit:=λi=>aa (idx l i) λx=>some x.2.2.1) (fin:=some (-1)) l (by omega) (λi hi nx=>?_) (λnx=>?_)) ?_;simp only[sV];rw[ks,bl hi,ak];simp only[ah,ab,B8,kT];cases l[i].1==d<;>cases l[i].2.1==p<;>cases l[i].2.2.2<;>cases w<;>rfl;simp only[sV];rw[cP];rfl;cases hf:l.findIdx? (B8 d p w)with|none=>rfl|some i=>obtain⟨hi,_⟩:=List.findIdx?_eq_some_iff_getElem.1 hf;simp only[bl hi,ab,ca hi]
theorem Gq (h:dj l=true)(hi:i<l.length):CR l[i]=true/\∀j (hj:j<i),kT l[i].1 l[i].2.1 (l[j]'(by omega))=false:=by simp only[dj,ae,aF,bK]at h;have:=h.2 i hi;simp only[Gp,ae,aF,bK,ca hi,aK]at this;exact⟨this.1,λj hj=>by have:=this.2 j hj;rwa[ca (by omega)]at this⟩
theorem HJ {d p:Int}{m:aB}:kT d p m=true↔m.1=d/\m.2.1=p:=by simp[kT]
theorem adu (h:dj l=true){d p:Int}{j:Nat}(hi:i<l.length)(hj:j<l.length)(h1:kT d p l[i]=true)(h2:kT d p l[j]=true):i=j:=by have a:=HJ.1 h1;have b:=HJ.1 h2;rcases Nat.lt_trichotomy i j with h3|h3|h3;have:=(Gq h hj).2 i h3;rw[b.1,b.2,h1]at this;cases this;exact h3;have:=(Gq h hi).2 j h3;rw[a.1,a.2,h2]at this;cases this
theorem Ls (h:dj l=true)(d p:Int)(w:Bool)(h1:0<=nK l d p w):nK l d p w<=63/\0<=p/\p<=1023:=by unfold nK at h1⊢;cases hf:l.findIdx? (B8 d p w)with|none=>rw[hf]at h1;simp at h1|some i=>obtain⟨hi,h2,_⟩:=List.findIdx?_eq_some_iff_getElem.1 hf;have h3:=(Gq h hi).1;simp only[B8,ae,HJ]at h2;simp only[CR,ae,bh]at h3;simp only[ca hi];omega
theorem Zz (l:ax aB)(d:Int)(a:Nat)(w:Bool)(h:l.length<=10^9)(hm:dj l=true)(ha:a<=9223372036854775807): Bo l d (a:Int) w=some (if 0<=nK l d ((a/128:Nat):Int) w then nK l d ((a/128:Nat):Int) w*128+((a%128:Nat):Int) else-1):=by
 have e1:Int.tdiv (a:Int) 128=((a/128:Nat):Int):=TM a 128;have e2:tmod (a:Int) 128=((a%128:Nat):Int):=G3 a 128;unfold Bo;rw[cP,af,lv,e1,e2,ak,K2 l _ _ h,ab];generalize ((a/128:Nat):Int)=p;have ta:=Ls hm d p w;unfold Oa;cases hf:l.findIdx? (kT d p)with
 |none=>
  have hn:nK l d p w= -1:=by unfold nK;rw[List.findIdx?_eq_none_iff]at hf;rw[List.findIdx?_eq_none_iff.2 (λx hx=>by rw[B8,hf x hx];rfl)]
  rw[hn];rfl
 |some i=>
  obtain⟨hi,h2,h3⟩:=List.findIdx?_eq_some_iff_getElem.1 hf;simp only;rw[cP,bl hi];simp only[af,ab];cases hq:l[i].2.2.2|| !w with
  |true=>
   have hF:nK l d p w=l[i].2.2.1:=by unfold nK;rw[List.findIdx?_eq_some_iff_getElem.2 ⟨hi,by rw[B8,h2,hq];rfl,λj hj=>by have:=h3 j hj;rw[B8,Bool.eq_false_iff.2 this];simp⟩];exact congrArg (λx:aB=>x.2.2.1) (ca hi B9)
   have h4:=(Gq hm hi).1;simp only[CR,ae,bh]at h4
   rw[hF,aH (show 0<=l[i].2.2.1 by omega),show(aa (cond w (some (!l[i].2.2.2)) (some false)) λq3=>cond q3 (some (-1:Int)) _)=_ from by
    have:(cond w (some (!l[i].2.2.2)) (some false))=some false:=by cases w<;>cases hz:l[i].2.2.2<;>rw[hz]at hq<;>first|rfl|cases hq
    rw[this,ab,af]]
   rw[aI (show¬(128:Nat)=0 by omega),ak (n:=l[i].2.2.1*128),ak]
  |false=>
   have hF:nK l d p w= -1:=by unfold nK;rw[List.findIdx?_eq_none_iff.2 (λx hx=>by obtain⟨j,hj,rfl⟩:=fb hx;cases XM:kT d p l[j]with|false=>rw[B8,XM];rfl|true=>have:=adu hm hi hj h2 XM;subst this;rw[B8,hq];simp)]
   rw[hF,aI (show¬(0:Int)<= -1 by omega)];cases w with|false=>simp at hq|true=>simp only[aj,Bool.or_false]at hq;simp only[ah,hq,ab,cg]
def iP (l:ax aB)(m:bR)(d:Int)(w:Bool):Nat->Nat->Nat->ay (ax (Int×Int))
 |0,_,_=>some []
 |n+1,a,r=>if r=0 then some [] else
  if 0<=nK l d ((a/128:Nat):Int) w/\nK l d ((a/128:Nat):Int) w<(m.length:Int) then
   (iP l m d w n (a+min (128-a%128) r) (r-min (128-a%128) r)).map (λq=>(nK l d ((a/128:Nat):Int) w*128+((a%128:Nat):Int),((min (128-a%128) r:Nat):Int))::q)
  else none
theorem yi (hm:cx m=true){f:Int}(h0:0<=f)(hc:0<c)(ho:o+c<=128):gD m (f*128+(o:Int)) (c:Int)=decide (f<(m.length:Int)):=by rw[gD,hm,bq];exact decide_eq_decide.2 (by omega)
theorem TV (hm:cx m=true){f:Int}(h0:0<=f):gD m (f*128) 128=decide (f<(m.length:Int)):=by rw[gD,hm,bq];exact decide_eq_decide.2 (by omega)
theorem Ga (hl:dj l=true)(hL:l.length<=10^9)(hm:cx m=true)(d:Int)(w:Bool):∀(n a r f:Nat)(acc:ax (Int×Int)),r<=n->n<f->acc.length+n<=1000000->a<=9223372036854775807->
 ba (qs (λ(y9:Int) (B5:Int) (Dj:ax (Int×Int))=>some (Dj,true)) (λ(He:Int) (Fq:Int) (DV:ax (Int×Int)) (DW:Bool) (Fj:ax (Int×Int))=>some (DV,DW)) l d w ([]:ax (Int×Int)) false m) f ((a:Int),(r:Int),acc)
  =match iP l m d w n a r with|some q=>some (acc++q,true)|none=>some ([],false)
 |n,a,r,0,acc,_,hf,_,_=>by omega
 |0,a,r,f+1,acc,hr,hf,hA,ha=>by rw[ba];simp only[qs];rw[cP];simp[iP]
 |n+1,a,r,f+1,acc,hr,hf,hA,ha=>by
  have h64:=(mem_iff.1 hm).2;rw[ba];simp only[qs,iP];by_cases h0:r=0;rw[cP,aH h0];simp;have e2:tmod (a:Int) 128=((a%128:Nat):Int):=G3 a 128;have ta:=Ls hl d ((a/128:Nat):Int) w;rw[ks,aI h0,Zz l d a w hL hl ha,ab,lv,e2,ak (n:=128-((a%128:Nat):Int))];obtain⟨c,hc⟩:∃c,min (128-a%128) r=c:=⟨_,rfl⟩
  rw[hc,show(if 128-((a%128:Nat):Int)<(r:Int) then 128-((a%128:Nat):Int) else(r:Int))=(c:Int) by split<;>omega];generalize hP:nK l d ((a/128:Nat):Int) w=P at ta⊢;by_cases hP0:0<=P;have ta:=ta hP0;simp only[aH hP0,ah];rw[au (show¬P*128+((a%128:Nat):Int)<0 by omega),CM m _ _ (by omega),yi hm hP0 (by omega) (by omega)];simp only[af,ab];by_cases hP1:P<(m.length:Int);rw[aw hP1,aH ⟨hP0,hP1⟩];simp only[aj,af];rw[aX (by simp;omega),ak (n:=(a:Int)+(c:Int)),ak (n:=(r:Int)-(c:Int)),au (show¬(a:Int)+(c:Int)<0 by omega)];simp only[af,ab];have key:=Ga hl hL hm d w n (a+c) (r-c) f (acc++[(P*128+((a%128:Nat):Int),(c:Int))]) (by omega) (by omega) (by simp;omega) (by omega);rw[show((a+c:Nat):Int)=(a:Int)+(c:Int) by omega,show((r-c:Nat):Int)=(r:Int)-(c:Int) by omega]at key;rw[key];cases iP l m d w n (a+c) (r-c)with|none=>rfl|some q=>simp
  rw[au hP1,lv];rfl;simp only[aI hP0,ah];rw[lv,ks];rfl
theorem GS (hl:dj l=true)(hL:l.length<=10^9)(hm:cx m=true)(d:Int)(w:Bool):∀(n a r f:Nat)(acc:ax (Int×Int)),r<=n->n<f->acc.length+n<=1000000->a<=9223372036854775807->
 ba (kH (λ(B5:Int) (Dj:Int) (He:cZ) (Fq:cZ)=>some (He,Fq,true)) (λ(DV:Int) (DW:Int) (Fj:cZ) (OC:cZ) (Jl:Bool) (TY:cZ) (Yv:cZ)=>some (Fj,OC,Jl)) l d w ([]:cZ) ([]:cZ) false m) f ((a:Int),(r:Int),acc.map (·.1),acc.map (·.2))
  =match iP l m d w n a r with|some q=>some ((acc++q).map (·.1),(acc++q).map (·.2),true)|none=>some ([],[],false)
 |n,a,r,0,acc,_,hf,_,_=>by omega
 |0,a,r,f+1,acc,hr,hf,hA,ha=>by rw[ba];simp only[kH];rw[cP];simp[iP]
 |n+1,a,r,f+1,acc,hr,hf,hA,ha=>by
  have h64:=(mem_iff.1 hm).2;rw[ba];simp only[kH,iP];by_cases h0:r=0;rw[cP,aH h0];simp;have e1:Int.tdiv (a:Int) 128=((a/128:Nat):Int):=TM a 128;have e2:tmod (a:Int) 128=((a%128:Nat):Int):=G3 a 128;have ta:=Ls hl d ((a/128:Nat):Int) w;rw[aw (show(r:Int)>0 by omega),aw (show(a:Int)>=0 by omega),aI h0];simp only[ah];rw[lv,e1,e2,ak (n:=((a/128:Nat):Int)),aee l _ _ w hL,ab,lv,ak (n:=128-((a%128:Nat):Int))];obtain⟨c,hc⟩:∃c,min (128-a%128) r=c:=⟨_,rfl⟩
  rw[hc,show(if 128-((a%128:Nat):Int)<(r:Int) then 128-((a%128:Nat):Int) else(r:Int))=(c:Int) by split<;>omega];generalize hP:nK l d ((a/128:Nat):Int) w=P at ta⊢;by_cases hP0:0<=P;have ta:=ta hP0;rw[au (show¬P<0 by omega),ak (n:=P*128),I4 m _ _ (by omega),TV hm hP0];simp only[af,ab];by_cases hP1:P<(m.length:Int);rw[aw hP1,aH ⟨hP0,hP1⟩];simp only[aj,af];rw[aX (by simp;omega),aX (by simp;omega),ak (n:=P*128+((a%128:Nat):Int)),ak (n:=(a:Int)+(c:Int)),ak (n:=(r:Int)-(c:Int))];have key:=GS hl hL hm d w n (a+c) (r-c) f (acc++[(P*128+((a%128:Nat):Int),(c:Int))]) (by omega) (by omega) (by simp;omega) (by omega);rw[show((a+c:Nat):Int)=(a:Int)+(c:Int) by omega,show((r-c:Nat):Int)=(r:Int)-(c:Int) by omega,dS,dS]at key;refine Eq.trans key ?_;cases iP l m d w n (a+c) (r-c)with|none=>rfl|some q=>simp
  rw[au hP1,lv];rfl;rw[lv,ks];rfl
def jU (l:ax aB)(m:bR)(d a n:Int)(w:Bool):ax (Int×Int)×Bool:=
 bif dj l&&(cx m&&di n 0 4096) then
  (bif n==0 then([],true) else bif decide (a<0) then([],false) else match iP l m d w n.toNat a.toNat n.toNat with|some q=>(q,true)|none=>([],false))
 else([],false)
theorem Sd (l:ax aB)(m:bR)(d a n:Int)(w:Bool)(hl:l.length<=10^9)(hm:m.length<=10^9)(ha:a<=9223372036854775807):wJ l m d a n w=some (jU l m d a n w):=by
 have B7:=eh;unfold wJ jU;simp only[F6 l hl,EX m hm,df,ab];cases hB:dj l;rfl;cases hM:cx m;rfl;cases hN:di n 0 4096;rfl;have hn:=bh.1 hN;simp only[aj,af,ab,dH,ah];cases h0:n==0;case true=>rfl
 by_cases hA:a<0;rw[aw hA];rfl;rw[au hA];simp only[af];obtain⟨a,rfl⟩:=aQ (show 0<=a by omega);obtain⟨n,rfl⟩:=aQ hn.1;rw[Ga hB hl hM d w n a n fuel [] (by omega) (by omega) (by simp;omega) (by omega)];simp only[aA];cases iP l m d w n a n<;>rfl
theorem aaY (l:ax aB)(m:bR)(d a n:Int)(w:Bool)(hl:l.length<=10^9)(hm:m.length<=10^9)(ha:a<=9223372036854775807):wv l m d a n w=some ((jU l m d a n w).1.map (·.1),(jU l m d a n w).1.map (·.2),(jU l m d a n w).2):=by
 have B7:=eh;unfold wv jU;simp only[Qn l hl,E7 m hm,ez,ab];cases hB:dj l;rfl;cases hM:cx m;rfl;cases hN:di n 0 4096;rfl;have hn:=bh.1 hN;simp only[aj,af,ab,dH,ah];obtain⟨n,rfl⟩:=aQ hn.1;cases h0:((n:Int)==0)with
 |true=>
  have:n=0:=by simpa using h0
  subst this;obtain⟨f,hf⟩:∃f,fuel=f+1:=⟨fuel-1,by omega⟩
  rw[hf,ba];rfl
 |false=>
  have hn0:n≠0:=by simpa using h0
  by_cases hA:a<0;obtain⟨f,hf⟩:∃f,fuel=f+1:=⟨fuel-1,by omega⟩
  rw[aw hA,hf,ba];simp only[kH];rw[ks,cP];rfl;rw[au hA];simp only[af];obtain⟨a,rfl⟩:=aQ (show 0<=a by omega);refine Eq.trans (GS hB hl hM d w n a n fuel [] (by omega) (by omega) (by simp;omega) (by omega)) ?_;simp only[aA];cases iP l m d w n a n<;>rfl
def B0 (x:Bytes)(o:Nat)(t:Bytes):Bytes:=x.take o++(t++x.drop (o+t.length))
theorem N8 (h:o+t.length<=x.length):(B0 x o t).length=x.length:=by simp only[B0,ai,aW,aM];omega
theorem aar (x:Bytes)(o:Nat)(t:Bytes):aL (AJ (dk x) o (dk t))=B0 x o t:=by
 have e:AJ (dk x) o (dk t)=dk (B0 x o t):=by simp only[AJ,B0,dk,dS,List.map_take,List.map_drop,cb]
 rw[e,Kb]
theorem adO (h:o+t.length<=x.length):vp x (o:Int) t=B0 x o t:=by unfold vp eX;rw[aw ⟨by omega,by omega⟩];simp only[ah,aA,B0,aR]
def uX:Nat->bR->Nat->Bytes->bR
 |0,m,_,_=>m
 |n+1,m,a,s=>if s.length=0 then m else
  uX n (m.set (a/128) (B0 (m.getD (a/128) []) (a%128) (s.take (128-a%128)))) (a+min (128-a%128) s.length) (s.drop (128-a%128))
def Bt (m:bR):Prop:=(∀x∈m,x.length=128)/\m.length<=64
theorem kF:cx m=true↔Bt m:=mem_iff
theorem HU {p:Nat}(h:Bt m)(hx:x.length=128):Bt (m.set p x):=by refine⟨λy hy=>?_,by rw[aC];exact h.2⟩;rcases dJ hy with g|g;exact h.1 y g;rw[g];exact hx
theorem Fi (h:Bt m)(hs:s.length≠0)(ha:a+s.length<=128*m.length): ∃(hp:a/128<m.length),(m[a/128]'hp).length=128/\(B0 (m[a/128]'hp) (a%128) (s.take (128-a%128))).length=128:=by
 have hp:a/128<m.length:=by omega
 have hl:=h.1 _ (aZ hp);refine⟨hp,hl,?_⟩;rw[N8 (by rw[aW,hl];omega),hl]
theorem yj:∀(n:Nat){m:bR}{a:Nat}{s:Bytes},Bt m->a+s.length<=128*m.length->Bt (uX n m a s)/\(uX n m a s).length=m.length
 |0,m,a,s,h,_=>⟨h,rfl⟩
 |n+1,m,a,s,h,ha=>by rw[uX];split;exact⟨h,rfl⟩;rename_i hs;obtain⟨hp,hl,ho⟩:=Fi h hs ha;rw[ca hp];have:=yj n (m:=m.set (a/128) (B0 m[a/128] (a%128) (s.take (128-a%128)))) (a:=a+min (128-a%128) s.length) (s:=s.drop (128-a%128)) (HU h ho) (by rw[aC,aM];omega);rw[aC]at this;exact this
theorem Ei (K:Int->Bytes->bR->ay R)(K':bR->ay R)(hK:∀a m,K a [] m=K' m):∀(n:Nat)(m:bR)(a:Nat)(s:Bytes)(f:Nat),s.length<=n->n<f->Bt m->a+s.length<=128*m.length->
 ba (mL K ([]:bR)) f ((a:Int),s,m)=K' (uX n m a s)
 |n,m,a,s,0,_,hf,_,_=>by omega
 |n,m,a,s,f+1,hs,hf,hm,ha=>by
  rw[ba];simp only[mL];by_cases h0:s.length=0;have:s=[]:=bV h0;subst this;rw[au (by simp),af,hK];cases n<;>simp[uX];cases n with
  |zero=>omega
  |succ n=>
   obtain⟨hp,hl,ho⟩:=Fi hm h0 ha;have h64:=hm.2;have e1:Int.tdiv (a:Int) 128=((a/128:Nat):Int):=TM a 128;have e2:tmod (a:Int) 128=((a%128:Nat):Int):=G3 a 128;rw[ks,ah,lv,e1,e2,ak (n:=((a/128:Nat):Int)),bl hp,ab,aX,lv];have pt:sub (dk m[a/128]) ((a%128:Nat):Int) ((dk m[a/128]).length:Int)=some ((dk m[a/128]).drop (a%128)):=by rw[QA _ _ _ (by rw[Gi];omega) (aS _),bI (by rw[aM];exact aS _)]
   rw[pt,ab,lv,ab,ab];have hd:((dk m[a/128]).drop (a%128)).length=128-a%128:=by rw[aM,Gi,hl]
   rw[hd];have hdr:s.drop (min (128-a%128) s.length)=s.drop (128-a%128):=by by_cases h3:128-a%128<=s.length;rw[gV h3];rw[Nat.min_eq_right (by omega),cC (aS _),cC (by omega)]
   have aj1:sub s (((min (128-a%128) s.length:Nat)):Int) ((s.length:Int))=some (s.drop (128-a%128)):=by rw[<-hdr];unfold sub;rw[zip];simp
   rw[aj1,ab,ak (n:=(a:Int)+((min (128-a%128) s.length:Nat):Int)),aA,aA,aar];rw[uX,aI h0,ca hp,show(a:Int)+((min (128-a%128) s.length:Nat):Int)=((a+min (128-a%128) s.length:Nat):Int) by omega];exact Ei K K' hK n _ _ _ f (by rw[aM];omega) (by omega) (HU hm ho) (by rw[aC,aM];omega)
theorem Et (K:Int->Bytes->bR->ay R)(K':bR->ay R)(hK:∀a m,K a [] m=K' m):∀(n:Nat)(m:bR)(a:Nat)(s:Bytes)(f:Nat),s.length<=n->n<f->Bt m->a+s.length<=128*m.length->
 ba (mU K ([]:bR)) f ((a:Int),s,m)=K' (uX n m a s)
 |n,m,a,s,0,_,hf,_,_=>by omega
 |n,m,a,s,f+1,hs,hf,hm,ha=>by
  rw[ba];simp only[mU];by_cases h0:s.length=0;have:s=[]:=bV h0;subst this;rw[au (by simp),af,hK];cases n<;>simp[uX];cases n with
  |zero=>omega
  |succ n=>
   obtain⟨hp,hl,ho⟩:=Fi hm h0 ha;have h64:=hm.2;have e1:Int.tdiv (a:Int) 128=((a/128:Nat):Int):=TM a 128;have e2:tmod (a:Int) 128=((a%128:Nat):Int):=G3 a 128;rw[ks,ah,lv,lv,lv,e1,e2,ak (n:=((a/128:Nat):Int)),ak (n:=128-((a%128:Nat):Int)),bl hp,ab];obtain⟨c,hc⟩:∃c,min (128-a%128) s.length=c:=⟨_,rfl⟩
   rw[show(if 128-((a%128:Nat):Int)<(s.length:Int) then 128-((a%128:Nat):Int) else(s.length:Int))=(c:Int) by split<;>omega];have ht:s.take c=s.take (128-a%128):=by by_cases h3:128-a%128<=s.length;rw[<-hc,gV h3];rw[<-hc,Nat.min_eq_right (by omega),bI (aS _),bI (by omega)]
   have hdr:s.drop c=s.drop (128-a%128):=by by_cases h3:128-a%128<=s.length;rw[<-hc,gV h3];rw[<-hc,Nat.min_eq_right (by omega),cC (aS _),cC (by omega)]
   have hs1:sub s 0 (c:Int)=some (s.take (128-a%128)):=by rw[<-ht];unfold sub;rw[zip];simp
   have hs2:sub s (c:Int) (s.length:Int)=some (s.drop (128-a%128)):=by rw[<-hdr];unfold sub;rw[zip];simp
   rw[hs1,ab,GR _ _ _,ab,ab,ab,hs2,ab,adO (by rw[aW,hl];omega),ak (n:=(a:Int)+(c:Int)),aA];rw[uX,aI h0,ca hp,hc,show(a:Int)+(c:Int)=((a+c:Nat):Int) by omega];exact Et K K' hK n _ _ _ f (by rw[aM];omega) (by omega) (HU hm ho) (by rw[aC,aM];omega)
def me (m:bR)(a:Int)(s:Bytes):bR×Bool:=bif gD m a (s.length:Int) then(uX s.length m a.toNat s,true) else(m,false)
theorem VP (m:bR)(a:Int)(s:Bytes)(h:m.length<=10^9)(hs:s.length<=10^9):qV m a s=some (me m a s):=by have B7:=eh;unfold qV me;rw[fP m,ab,CM m _ _ h,ab];cases hw:gD m a (s.length:Int);rfl;simp only[gD,ae,aD]at hw;obtain⟨a,rfl⟩:=aQ hw.2.2.1;simp only[aj,af,ah,aA];exact Ei _ (λm=>some (m,true)) (λ_ _=>rfl) s.length m a s fuel (aS _) (by omega) (kF.1 hw.1) (by omega)
theorem WZ (m:bR)(a:Int)(s:Bytes)(h:m.length<=10^9)(hs:s.length<=10^9):rk m a s=some (me m a s):=by have B7:=eh;unfold rk me;rw[Bs m,ab,I4 m _ _ h,ab];cases hw:gD m a (s.length:Int);rfl;simp only[gD,ae,aD]at hw;obtain⟨a,rfl⟩:=aQ hw.2.2.1;simp only[aj,af,ah,aA];exact Et _ (λm=>some (m,true)) (λ_ _=>rfl) s.length m a s fuel (aS _) (by omega) (kF.1 hw.1) (by omega)
end
end Go.Pu
