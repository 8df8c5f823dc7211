import Derived.Test.YtcmdhgbbpmnbpaaGreatDnData
import Derived.Test.YtcmdhgbbpmnbpaaGreatPure
section
/- Plain laws of the partial operations and of loops. -/
namespace Go.Pu
open Go.Dn
theorem wrap64 {n:Int}(h1: -9223372036854775808≤n)(h2:n≤9223372036854775807):IntKind.wrap .i64 n=n:=by
 simp only [IntKind.wrap,IntKind.bits,IntKind.signed]
 simp
 omega
@[simp] theorem ab {α R:Type}(a:α)(k:α→Option R):aa (some a) k=k a:=rfl
@[simp] theorem Yy {α R:Type}(k:α→Option R):aa none k=none:=rfl
@[simp] theorem xf {α R:Type}(c:Bool)(x y:α)(k:α→Option R):aa (cond c (some x) (some y)) k=k (cond c x y):=by cases c<;>rfl
theorem aH {α:Type}(c:Bool)(x y:α):cond c (some x) (some y)=some (cond c x y):=by cases c<;>rfl
theorem ao {R:Type}{n:Nat}{k:Option R}(h:n≤1073741824):room n k=k:=by simp [room,h]
theorem Di {α:Type}(xs:List α)(i:Nat):idx xs (i:Int)=xs[i]?:=rfl
theorem ax {α:Type}{xs:List α}{i:Nat}(h:i<xs.length):idx xs (i:Int)=some xs[i]:=by rw [Di];exact List.getElem?_eq_getElem h
def VU {σ R:Type}(step:Nat→σ→(σ→Option R)→Option R)(fin:σ→Option R)(N:Nat):Nat→Nat→σ→Option R
 |0,_,s=>fin s
 |n+1,i,s=>step i s (fun s'=>VU step fin N n (i+1) s')
theorem yE {X σ R:Type}{T:(X→Option R)→X→Option R}(N:Nat)(e:σ→Nat→X)(step:Nat→σ→(σ→Option R)→Option R)(fin:σ→Option R)
 (hs:∀i s nx,i<N→T nx (e s i)=step i s (fun s'=>nx (e s' (i+1)))) (hf:∀s nx,T nx (e s N)=fin s):
 ∀n i s,i≤N→N-i<n→aq T n (e s i)=VU step fin N (N-i) i s:=by
 intro n
 induction n with
 |zero=>intro i s _ h;omega
 |succ n ih=>
  intro i s hi hn
  rw [aq]
  rcases Nat.lt_or_ge i N with hlt|hge
  ·rw [hs i s _ hlt,show N-i=(N-(i+1))+1 by omega,VU]
   congr 1
   funext s'
   exact ih (i+1) s' (by omega) (by omega)
  ·have:i=N:=by omega
   subst this
   rw [hf,Nat.sub_self,VU]
def rh {α σ R:Type}(step:α→σ→(σ→Option R)→Option R)(fin:σ→Option R):List α→σ→Option R
 |[],s=>fin s
 |x::xs,s=>step x s (rh step fin xs)
theorem sZ {α X σ R:Type}{T:(X→Option R)→X→Option R}(xs:List α)(e:σ→Nat→X)(step:α→σ→(σ→Option R)→Option R)(fin:σ→Option R)
 (hs:∀i (h:i<xs.length) s nx,T nx (e s i)=step xs[i] s (fun s'=>nx (e s' (i+1)))) (hf:∀s nx,T nx (e s xs.length)=fin s):
 ∀n i s,i≤xs.length→xs.length-i<n→aq T n (e s i)=rh step fin (xs.drop i) s:=by
 intro n
 induction n with
 |zero=>intro i s _ h;omega
 |succ n ih=>
  intro i s hi hn
  rw [aq]
  rcases Nat.lt_or_ge i xs.length with hlt|hge
  ·rw [hs i hlt s _,List.drop_eq_getElem_cons hlt,rh]
   congr 1
   funext s'
   exact ih (i+1) s' (by omega) (by omega)
  ·have:i=xs.length:=by omega
   subst this
   rw [hf,List.drop_length,rh]
def kR:(t:CT)→t.D→Nat
 | .int _,_=>0
 | .bool,_=>0
 | .str,s=>s.length
 | .sl e,xs=>xs.length+(xs.map (kR e)).sum
 | .pair a b,x=>kR a x.1+kR b x.2
def aK (n:Nat):(t:CT)→t.D→Prop
 | .int _,_=>True
 | .bool,_=>True
 | .str,s=>s.length≤n
 | .sl e,xs=>xs.length≤n∧∀x∈xs,aK n e x
 | .pair a b,x=>aK n a x.1∧aK n b x.2
theorem Fc {α:Type}(f:α→Nat):∀(xs:List α)(x:α),x∈xs→f x≤(xs.map f).sum
 |y::ys,x,h=>by
  rcases List.mem_cons.1 h with rfl|h
  ·simp
  ·have:=Fc f ys x h;simp;omega
theorem Bm {n:Nat}:∀{t:CT}{x:t.D},kR t x≤n→aK n t x
 | .int _,_,_=>trivial
 | .bool,_,_=>trivial
 | .str,_,h=>h
 | .sl e,xs,h=>by
   simp only [kR] at h
   exact ⟨by omega,fun x hx=>Bm (by have:=Fc (kR e) xs x hx;omega)⟩
 | .pair a b,x,h=>by
   simp only [kR] at h
   exact ⟨Bm (by omega),Bm (by omega)⟩
theorem aK.mono {n m:Nat}(h:n≤m):∀{t:CT}{x:t.D},aK n t x→aK m t x
 | .int _,_,_=>trivial
 | .bool,_,_=>trivial
 | .str,_,k=>Nat.le_trans k h
 | .sl _,_,k=>⟨Nat.le_trans k.1 h,fun x hx=>aK.mono h (k.2 x hx)⟩
 | .pair _ _,_,k=>⟨aK.mono h k.1,aK.mono h k.2⟩
def mm:(t:CT)→t.D→Prop
 | .int k,n=>k.min≤n∧n≤k.max
 | .bool,_=>True
 | .str,s=>s.length≤9223372036854775807
 | .sl e,xs=>xs.length≤9223372036854775807∧∀x∈xs,mm e x
 | .pair a b,x=>mm a x.1∧mm b x.2
def fE (l n:Int):Int:=if n≤l then l-n else-1
def Du {α β R:Type}(f:α→Option β)(k0:List β→Int→Option R)(v0:List α)(nx:List β×Int→Option R)(x:List β×Int):Option R:=
 cond (decide (x.2<(List.length v0:Int))) (
  aa (idx v0 x.2) fun x1=>
  aa (f x1) fun r2=>
  aa (idx x.1 x.2) fun _=>
  aa (idx x.1 x.2) fun _=>
  nx (List.set x.1 (Int.toNat x.2) r2,IntKind.wrap .i64 (x.2+1))) (
  k0 x.1 x.2)
noncomputable def JW {α β:Type}(f:α→Option β)(z:β)(a0:List α):Option (List β):=
 if 0≤((List.length a0:Int))∧((List.length a0:Int))≤((List.length a0:Int)) then (
 room (Int.toNat ((List.length a0:Int))) (
 aq (Du f (fun y5 _=>some y5) a0) fuel (List.replicate (Int.toNat ((List.length a0:Int))) z,0))) else none
theorem jB {α:Type}{f:α→Option α}{z:α}{a:List α}(hn:a.length≤1073741824)(hf:∀x∈a,f x=some x):JW f z a=some a:=by
 unfold JW
 have hfu:=bl
 rw [if_pos (by omega),ao (by simp;omega)]
 have key:=yE (T:=Du f (fun y5 _=>some y5) a) a.length (fun (_:Unit) i=>(a.take i++List.replicate (a.length-i) z,(i:Int))) (fun _ s k=>k s) (fun _=>some a)
  (fun i s nx hi=>by
   have h1:(a.take i).length=i:=by simp;omega
   have hl:i<(a.take i++List.replicate (a.length-i) z).length:=by simp;omega
   simp only [Du]
   rw [decide_eq_true (by omega)]
   simp only [cond_true,ax hi,ab,hf _ (List.getElem_mem hi),ax hl]
   congr 1
   refine Prod.ext ?_ (wrap64 (by omega) (by omega))
   simp only [Int.toNat_natCast]
   rw [List.set_append_right _ _ (by omega),h1,Nat.sub_self,List.take_succ_eq_append_getElem hi,show a.length-i=(a.length-(i+1))+1 by omega,List.replicate_succ,List.set_cons_zero,List.append_assoc,List.singleton_append])
  (fun s nx=>by
   simp only [Du]
   rw [decide_eq_false (by omega)]
   simp)
  fuel 0 () (by omega) (by omega)
 simp only [List.take_zero,List.nil_append,Nat.sub_zero,Int.toNat_natCast] at key⊢
 have e:((0:Nat):Int)=0:=rfl
 rw [e] at key
 rw [key]
 have:∀n i,VU (R:=List α) (fun _ (s:Unit) k=>k s) (fun _=>some a) a.length n i ()=some a:=by
  intro n
  induction n with
  |zero=>intro i;rfl
  |succ n ih=>intro i;rw [VU];exact ih _
 exact this _ _
def Dt {α R:Type}(f:α→Int→Option Int)(k0:Int→Int→Option R)(k1:Int→Int→Int→Option R)(v0:List α)(nx:Int×Int→Option R)(x:Int×Int):Option R:=
 cond (decide (x.2<((List.length v0:Int)))) (
  aa (idx v0 x.2) fun x1=>
  aa (f x1 x.1) fun r2=>
  cond (decide (r2<0)) (
   k1 r2 (-1) x.2) (
   nx (r2,IntKind.wrap .i64 (x.2+1)))) (
  k0 x.1 x.2)
noncomputable def Ds {α:Type}(f:α→Int→Option Int)(a0:List α)(a1:Int):Option Int:=
 cond (decide ((IntKind.wrap .i64 (a1-((List.length a0:Int))))<0)) (
  some (-1)) (
  aq (Dt f (fun y3 _=>some y3) (fun _ y6 _=>some y6) a0) fuel (IntKind.wrap .i64 (a1-((List.length a0:Int))),0))
theorem FY {α:Type}{f:α→Int→Option Int}{s:α→Nat}{a:List α}{l:Int}(h0:0≤l)(h1:l≤1048576)(hm:a.length≤9223372036854775807)
 (hf:∀x∈a,∀l:Int,0≤l→l≤1048576→∃r,f x l=some r∧((s x:Int)≤l→r=l-s x)∧(¬(s x:Int)≤l→r<0)):Ds f a l=some (fE l ((a.length+(a.map s).sum:Nat):Int)):=by
 unfold Ds
 have hfu:=bl
 rw [wrap64 (by omega) (by omega)]
 rcases Int.lt_or_le (l-a.length) 0 with hneg|hpos
 ·rw [decide_eq_true hneg]
  simp only [cond_true,fE]
  rw [if_neg (by omega)]
 ·rw [decide_eq_false (by omega)]
  simp only [cond_false]
  have key:=sZ (T:=Dt f (fun y3 _=>some y3) (fun _ y6 _=>some y6) a) a (fun (q:Int) i=>(q,(i:Int)))
   (fun x q k=>aa (f x q) fun r=>cond (decide (r<0)) (some (-1)) (k r)) (fun q=>some q)
   (fun i hi q nx=>by
    simp only [Dt]
    rw [decide_eq_true (by omega)]
    simp only [cond_true,ax hi,ab]
    rw [wrap64 (by omega) (by omega)]
    rfl)
   (fun q nx=>by
    simp only [Dt]
    rw [decide_eq_false (by omega)]
    rfl)
   fuel 0 (l-a.length) (by omega) (by omega)
  have e:((0:Nat):Int)=0:=rfl
  rw [e,List.drop_zero] at key
  rw [key]
  have main:∀(b:List α)(q:Int),0≤q→q≤1048576→(∀x∈b,x∈a)→rh (fun x q k=>aa (f x q) fun r=>cond (decide (r<0)) (some (-1)) (k r)) (fun q=>some q) b q=some (fE q ((b.map s).sum:Nat)):=by
   intro b
   induction b with
   |nil=>intro q hq _ _;simp [rh,fE,hq]
   |cons x b ih=>
    intro q hq hq2 hb
    obtain ⟨r,hr,hr1,hr2⟩:=hf x (hb x (by simp)) q hq hq2
    rw [rh,hr,ab]
    by_cases hle:(s x:Int)≤q
    ·have:=hr1 hle
     subst this
     rw [decide_eq_false (by omega)]
     simp only [cond_false]
     rw [ih _ (by omega) (by omega) (fun y hy=>hb y (by simp [hy]))]
     simp only [fE,List.map_cons,List.sum_cons]
     congr 1
     split<;>split<;>omega
    ·rw [decide_eq_true (hr2 hle)]
     simp only [cond_true,fE,List.map_cons,List.sum_cons]
     rw [if_neg (by omega)]
  rw [main a _ (by omega) (by omega) (fun x h=>h)]
  simp only [fE]
  congr 1
  split<;>split<;>omega
def Dh {α R:Type}(f:α→α→Option Bool)(k0:Int→Option R)(k1:Bool→Int→Option R)(v0 v1:List α)(nx:Int→Option R)(x:Int):Option R:=
 cond (decide (x<((List.length v0:Int)))) (
  aa (idx v0 x) fun x1=>
  aa (idx v1 x) fun x2=>
  aa (f x1 x2) fun r3=>
  cond (!r3) (
   k1 false x) (
   nx (IntKind.wrap .i64 (x+1)))) (
  k0 x)
noncomputable def IU {α:Type}(f:α→α→Option Bool)(a0 a1:List α):Option Bool:=
 cond (((List.length a0:Int)) !=((List.length a1:Int))) (
  some false) (
  aq (Dh f (fun _=>some true) (fun y5 _=>some y5) a0 a1) fuel 0)
theorem eO {α:Type}{f:α→α→Option Bool}{a:List α}(hm:a.length≤1000000000000)(hf:∀x∈a,f x x=some true):IU f a a=some true:=by
 unfold IU
 have hfu:=bl
 simp only [bne_self_eq_false,cond_false]
 have key:=sZ (T:=Dh f (fun _=>some true) (fun y5 _=>some y5) a a) a (fun (_:Unit) i=>(i:Int)) (fun x s k=>aa (f x x) fun r=>cond (!r) (some false) (k s)) (fun _=>some true)
  (fun i hi s nx=>by
   simp only [Dh]
   rw [decide_eq_true (by omega)]
   simp only [cond_true,ax hi,ab]
   rw [wrap64 (by omega) (by omega)]
   rfl)
  (fun s nx=>by
   simp only [Dh]
   rw [decide_eq_false (by omega)]
   rfl)
  fuel 0 () (by omega) (by omega)
 have e:((0:Nat):Int)=0:=rfl
 rw [e,List.drop_zero] at key
 rw [key]
 have main:∀(b:List α),(∀x∈b,x∈a)→rh (fun x s k=>aa (f x x) fun r=>cond (!r) (some false) (k s)) (fun _=>some true) b ()=some true:=by
  intro b
  induction b with
  |nil=>intro _;rfl
  |cons x b ih=>intro hb;rw [rh,hf x (hb x (by simp))];simp only [ab,Bool.not_true,cond_false];exact ih (fun y hy=>hb y (by simp [hy]))
 exact main a (fun x h=>h)
theorem z9 {α:Type}{z:α}{a:List α}(hn:a.length≤1073741824):JW some z a=some a:=jB hn (fun _ _=>rfl)
theorem vP {α:Type}[BEq α][LawfulBEq α]{a:List α}(hm:a.length≤1000000000000):IU (fun x y:α=>some (x==y)) a a=some true:=eO hm (fun x _=>by simp)
theorem ud {α:Type}{f:α→Nat}:∀{xs:List α},(∀x∈xs,f x=0)→(xs.map f).sum=0
 |[],_=>rfl
 |x::xs,h=>by
  have:=ud (xs:=xs) (f:=f) (fun y hy=>h y (by simp [hy]))
  simp [h x (by simp),this]
def bq (f:Int→Option Int)(n:Nat):Prop:=∀l:Int,0≤l→l≤1048576→f l=some (fE l n)
theorem bq.nil:bq (fun l=>some l) 0:=fun l h0 _=>by simp [fE,h0]
theorem bq.len {n m:Nat}(hn:n≤9223372036854775807){k:Int→Option Int}(h:bq k m):
 bq (fun l=>cond (decide (IntKind.wrap .i64 (l-(n:Int))<0)) (some (-1)) (k (IntKind.wrap .i64 (l-(n:Int))))) (n+m):=by
 intro l h0 h1
 simp only
 rw [wrap64 (by omega) (by omega)]
 by_cases hl:l-(n:Int)<0
 ·rw [decide_eq_true hl];simp only [cond_true,fE];rw [if_neg (by omega)]
 ·rw [decide_eq_false hl]
  simp only [cond_false]
  rw [h _ (by omega) (by omega)]
  simp only [fE]
  congr 1
  split<;>split<;>omega
theorem bq.sub {f k:Int→Option Int}{n m:Nat}(hf:bq f n)(h:bq k m):bq (fun l=>aa (f l) fun r=>cond (decide (r<0)) (some (-1)) (k r)) (n+m):=by
 intro l h0 h1
 simp only
 rw [hf l h0 h1,ab]
 by_cases hl:(n:Int)≤l
 ·have e:fE l n=l-n:=by simp [fE,hl]
  rw [e,decide_eq_false (by omega)]
  simp only [cond_false]
  rw [h _ (by omega) (by omega)]
  simp only [fE]
  congr 1
  split<;>split<;>omega
 ·have e:fE l n= -1:=by simp [fE,hl]
  rw [e]
  simp only [fE]
  rw [if_neg (by omega)]
  rfl
theorem bq.cast {f:Int→Option Int}{n m:Nat}(h:bq f n)(e:n=m):bq f m:=e▸h
theorem bq.list {α:Type}{f:α→Int→Option Int}{s:α→Nat}{a:List α}(hm:a.length≤9223372036854775807)(hf:∀x∈a,bq (f x) (s x)):bq (Ds f a) (a.length+(a.map s).sum):=
 fun _ h0 h1=>FY h0 h1 hm (fun x hx l h0 h1=>⟨_,hf x hx l h0 h1,fun h=>by simp [fE,h],fun h=>by simp [fE,h]⟩)
theorem bq.flat {n:Nat}(hn:n≤9223372036854775807):bq (fun l=>cond (decide (IntKind.wrap .i64 (l-(n:Int))<0)) (some (-1)) (some (IntKind.wrap .i64 (l-(n:Int))))) n:=
 (bq.len (n:=n) hn bq.nil).cast (by omega)
theorem bq.strs {a:List (List UInt8)}(hm:mm (.sl .str) a):bq (Ds (fun x l=>some (IntKind.wrap .i64 (l-(x.length:Int)))) a) (kR (.sl .str) a):=
 fun _ h0 h1=>FY (s:=kR .str) h0 h1 hm.1 (fun x hx l h0 h1=>⟨l-x.length,by
  have:x.length≤9223372036854775807:=hm.2 x hx
  rw [wrap64 (by omega) (by omega)],fun _=>rfl,fun h=>by simp only [kR] at h;omega⟩)
theorem bq.use {f:Int→Option Int}{n:Nat}(hf:bq f n){l:Int}(h0:0≤l)(h1:l≤1048576){k:Int→Option Bool}(hk:(n:Int)≤l→k (l-n)=some true):
 (aa (f l) fun r=>cond (decide (r<0)) (some true) (k r))=some true:=by
 rw [hf l h0 h1,ab]
 by_cases hl:(n:Int)≤l
 ·have e:fE l n=l-n:=by simp [fE,hl]
  rw [e,decide_eq_false (by omega)]
  exact hk hl
 ·have e:fE l n= -1:=by simp [fE,hl]
  rw [e];rfl
theorem DE {α R:Type}{T:(Int→Option R)→Int→Option R}{fin hit:Option R}(p:α→Bool)(a:List α)(h:a.length≤1000000000000)
 (hs:∀i (hi:i<a.length) nx,T nx (i:Int)=cond (p a[i]) hit (nx ((i+1:Nat):Int))) (hf:∀nx,T nx (a.length:Int)=fin):
 aq T fuel 0=cond (a.any p) hit fin:=by
 have hfu:=bl
 have key:∀n i,i≤a.length→a.length-i<n→aq T n (i:Int)=cond ((a.drop i).any p) hit fin:=by
  intro n
  induction n with
  |zero=>intro i _ h;omega
  |succ n ih=>
   intro i hi hn
   rw [aq]
   rcases Nat.lt_or_ge i a.length with hlt|hge
   ·rw [hs i hlt,List.drop_eq_getElem_cons hlt,List.any_cons]
    cases hq:p a[i] with
    |true=>rfl
    |false=>exact ih (i+1) (by omega) (by omega)
   ·have:i=a.length:=by omega
    subst this
    rw [hf,List.drop_length];rfl
 exact key fuel 0 (by omega) (by omega)
theorem jU {R:Type}{T:(Int→Option R)→Int→Option R}{fin hit:Option R}(p:Nat→Bool)(N:Nat)(h:N≤1000000000000)
 (hs:∀i nx,i<N→T nx (i:Int)=cond (!(p i)) hit (nx ((i+1:Nat):Int))) (hf:∀nx,T nx (N:Int)=fin):
 aq T fuel 0=cond ((List.range N).all p) fin hit:=by
 have hfu:=bl
 have key:∀n i,i≤N→N-i<n→aq T n (i:Int)=cond ((List.range' i (N-i)).all p) fin hit:=by
  intro n
  induction n with
  |zero=>intro i _ h;omega
  |succ n ih=>
   intro i hi hn
   rw [aq]
   rcases Nat.lt_or_ge i N with hlt|hge
   ·rw [hs i _ hlt,show N-i=(N-(i+1))+1 by omega,List.range'_succ,List.all_cons]
    cases hq:p i with
    |false=>rfl
    |true=>exact ih (i+1) (by omega) (by omega)
   ·have:i=N:=by omega
    subst this
    rw [hf,Nat.sub_self];rfl
 have:=key fuel 0 (by omega) (by omega)
 rw [Nat.sub_zero,←List.range_eq_range'] at this
 exact this
theorem lF {α R:Type}{T:(Int→Option R)→Int→Option R}{fin hit:Option R}(p:α→Bool)(a:List α)(h:a.length≤1000000000000)
 (hs:∀i (hi:i<a.length) nx,T nx (i:Int)=cond (!(p a[i])) hit (nx ((i+1:Nat):Int))) (hf:∀nx,T nx (a.length:Int)=fin):
 aq T fuel 0=cond (a.all p) fin hit:=by
 have:=DE (T:=T) (fin:=fin) (hit:=hit) (fun x=> !(p x)) a h hs hf
 rw [this]
 have e:a.any (fun x=> !(p x))= !(a.all p):=by
  rw [Bool.eq_iff_iff];simp
 rw [e]
 cases a.all p<;>rfl
theorem Bx {X R:Type}{T:(X→Option R)→X→Option R}{fin hit:Option R}(e:Nat→X)(p:Nat→Bool)(N:Nat)(h:N≤1000000000000)
 (hs:∀i nx,i<N→(∀j,j<i→p j=true)→T nx (e i)=cond (!(p i)) hit (nx (e (i+1)))) (hf:(∀j,j<N→p j=true)→∀nx,T nx (e N)=fin):
 aq T fuel (e 0)=cond ((List.range N).all p) fin hit:=by
 have hfu:=bl
 have key:∀n i,i≤N→N-i<n→(∀j,j<i→p j=true)→aq T n (e i)=cond ((List.range' i (N-i)).all p) fin hit:=by
  intro n
  induction n with
  |zero=>intro i _ h;omega
  |succ n ih=>
   intro i hi hn hp
   rw [aq]
   rcases Nat.lt_or_ge i N with hlt|hge
   ·rw [hs i _ hlt hp,show N-i=(N-(i+1))+1 by omega,List.range'_succ,List.all_cons]
    cases hq:p i with
    |false=>rfl
    |true=>
     refine ih (i+1) (by omega) (by omega) fun j hj=> ?_
     by_cases hji:j=i
     ·rw [hji];exact hq
     ·exact hp j (by omega)
   ·have:i=N:=by omega
    subst this
    rw [hf hp,Nat.sub_self];rfl
 have:=key fuel 0 (by omega) (by omega) (fun j hj=>absurd hj (by omega))
 rw [Nat.sub_zero,←List.range_eq_range'] at this
 exact this
theorem yw {α R:Type}{T:(Int→Option R)→Int→Option R}{fin:Option R}{hit:Int→Option R}(p:α→Bool)(a:List α)(h:a.length≤1000000000000)
 (hs:∀i (hi:i<a.length) nx,T nx (i:Int)=cond (p a[i]) (hit (i:Int)) (nx ((i+1:Nat):Int))) (hf:∀nx,T nx (a.length:Int)=fin):
 aq T fuel 0=(match a.findIdx? p with|some i=>hit (i:Int)|none=>fin):=by
 have hfu:=bl
 have key:∀n i,i≤a.length→a.length-i<n→aq T n (i:Int)=(match (a.drop i).findIdx? p with|some j=>hit ((i+j:Nat):Int)|none=>fin):=by
  intro n
  induction n with
  |zero=>intro i _ h;omega
  |succ n ih=>
   intro i hi hn
   rw [aq]
   rcases Nat.lt_or_ge i a.length with hlt|hge
   ·rw [hs i hlt,List.drop_eq_getElem_cons hlt,List.findIdx?_cons]
    cases hq:p a[i] with
    |true=>rfl
    |false=>
     have:=ih (i+1) (by omega) (by omega)
     simp only [cond_false]
     refine this.trans ?_
     cases (a.drop (i+1)).findIdx? p with
     |none=>rfl
     |some j=>simp only [Option.map_some,Bool.false_eq_true,if_false];congr 2;omega
   ·have:i=a.length:=by omega
    subst this
    rw [hf,List.drop_length];rfl
 have:=key fuel 0 (by omega) (by omega)
 refine this.trans ?_
 rw [List.drop_zero]
 cases a.findIdx? p with
 |none=>rfl
 |some j=>simp only [Nat.zero_add]
theorem cF (a b:Bool):(bif a then b else false)=(a&&b):=by cases a<;>rfl
theorem cT (a b:Bool):(bif a then true else b)=(a||b):=by cases a<;>rfl
theorem cN (a b:Bool):(bif a then false else b)=(!a&&b):=by cases a<;>rfl
def JA {α σ R:Type}(g:α→σ→Except (Option R) σ)(fin:σ→Option R):List α→σ→Option R
 |[],s=>fin s
 |x::xs,s=>match g x s with| .error r=>r| .ok s'=>JA g fin xs s'
theorem vC {α X σ R:Type}{T:(X→Option R)→X→Option R}(xs:List α)(e:σ→Nat→X)(Inv:Nat→σ→Prop)(g:α→σ→Except (Option R) σ)(fin:σ→Option R)(h:xs.length≤1000000000000)
 (hs:∀i (hi:i<xs.length) s nx,Inv i s→T nx (e s i)=match g xs[i] s with| .error r=>r| .ok s'=>nx (e s' (i+1)))
 (hn:∀i (hi:i<xs.length) s s',Inv i s→g xs[i] s= .ok s'→Inv (i+1) s') (hf:∀s nx,Inv xs.length s→T nx (e s xs.length)=fin s) (s:σ) (h0:Inv 0 s):
 aq T fuel (e s 0)=JA g fin xs s:=by
 have key:∀n i s,i≤xs.length→xs.length-i<n→Inv i s→aq T n (e s i)=JA g fin (xs.drop i) s:=by
  intro n
  induction n with
  |zero=>intro i s _ h;omega
  |succ n ih=>
   intro i s hi hn' hI
   rw [aq]
   rcases Nat.lt_or_ge i xs.length with hlt|hge
   ·rw [hs i hlt s _ hI,List.drop_eq_getElem_cons hlt,JA]
    cases hg:g xs[i] s with
    |error r=>rfl
    |ok s'=>exact ih (i+1) s' (by omega) (by omega) (hn i hlt s s' hI hg)
   ·have:i=xs.length:=by omega
    subst this
    rw [hf s _ hI,List.drop_length,JA]
 have hfu:=bl
 have:=key fuel 0 s (by omega) (by omega) h0
 rwa [List.drop_zero] at this
theorem AW {α σ R:Type}(f:σ→α→σ)(fin:σ→Option R):∀(xs:List α)(s:σ),JA (fun x s=> .ok (f s x)) fin xs s=fin (xs.foldl f s)
 |[],_=>rfl
 |x::xs,s=>by rw [JA];exact AW f fin xs (f s x)
theorem bz {X R:Type}{T:(X→Option R)→X→Option R}{fin:Option R}(e:Nat→X)(N:Nat)(h:N≤1000000000000)
 (hs:∀i nx,i<N→T nx (e i)=nx (e (i+1))) (hf:∀nx,T nx (e N)=fin):aq T fuel (e 0)=fin:=by
 rw [Bx (hit:=fin) (fin:=fin) e (fun _=>true) N h (fun i nx hi _=>by rw [hs i nx hi];rfl) (fun _ nx=>hf nx)]
 cases (List.range N).all (fun _=>true)<;>rfl
theorem cz {α R:Type}{l:List α}{k:Option R}(h:l.length≤1000000000):room (List.length ([]:List α)+l.length) k=k:=ao (by simp only [List.length_nil];omega)
end Go.Pu
end
section
namespace Go.Pu
open Go.Dn
set_option linter.unusedVariables false
set_option linter.unusedSimpArgs false
theorem FZ (a:List Bytes)(hm:mm (.sl .str) a):bq (pe a) (kR (.sl .str) a):=
 bq.strs hm
theorem R2 (a:List Bytes)(hm:mm (.sl .str) a):bq (qF a) (kR (.sl .str) a):=
 bq.cast (f:=qF a) (bq.sub (FZ a hm) bq.nil) (by simp only [kR];try omega)
theorem Mm (a:List ae)(hm:mm (.sl au) a):bq (rX a) (kR (.sl au) a):=
 (bq.flat (n:=a.length) hm.1).cast (by simp only [kR];rw [ud (fun x _=>by simp only [kR])];rfl)
theorem yR (a:List Int)(hm:mm (.sl (.int .i64)) a):bq (iV a) (kR (.sl (.int .i64)) a):=
 (bq.flat (n:=a.length) hm.1).cast (by simp only [kR];rw [ud (fun x _=>by simp only [kR])];rfl)
theorem PU (a:aV)(hm:mm a9 a):bq (nY a) (kR a9 a):=
 bq.cast (f:=nY a) (bq.sub (yR a.2.2.2 hm.2.2.2) bq.nil) (by simp only [kR];try omega)
theorem Xe (a:cy)(hm:mm bJ a):bq (rA a) (kR bJ a):=
 bq.cast (f:=rA a) (bq.sub (yR a.2.2 hm.2.2) bq.nil) (by simp only [kR];try omega)
theorem Uj (a:List cy)(hm:mm (.sl bJ) a):bq (wA a) (kR (.sl bJ) a):=
 bq.list (f:=rA) (s:=kR bJ) hm.1 (fun x hx=>Xe x (hm.2 x hx))
theorem OD (a:aZ)(hm:mm bk a):bq (pg a) (kR bk a):=
 bq.cast (f:=pg a) (bq.sub (PU a.2.1 hm.2.1) (bq.sub (Uj a.2.2.1 hm.2.2.1) bq.nil)) (by simp only [kR];try omega)
theorem OB (a:bw)(hm:mm eF a):bq (pc a) (kR eF a):=
 bq.cast (f:=pc a) (bq.len (n:=a.2.2.2.2.2.2.2.length) hm.2.2.2.2.2.2.2 bq.nil) (by simp only [kR];try omega)
theorem R3 (a:aC)(hm:mm bM a):bq (qG a) (kR bM a):=
 bq.cast (f:=qG a) (bq.sub (OB a.2.2.2.2.2.2.2.2 hm.2.2.2.2.2.2.2.2) bq.nil) (by simp only [kR];try omega)
theorem Ul (a:xB)(hm:mm rM a):bq (sy a) (kR rM a):=
 bq.cast (f:=sy a) (bq.sub (R3 a.1 hm.1) bq.nil) (by simp only [kR];try omega)
theorem OA (a:aw)(hm:mm az a):bq (lh a) (kR az a):=
 bq.cast (f:=lh a) (bq.sub (Ul a.2.2.2.1 hm.2.2.2.1) bq.nil) (by simp only [kR];try omega)
theorem Mn (a:List aw)(hm:mm (.sl az) a):bq (rY a) (kR (.sl az) a):=
 bq.list (f:=lh) (s:=kR az) hm.1 (fun x hx=>OA x (hm.2 x hx))
theorem Uh (a:List aV)(hm:mm (.sl a9) a):bq (wy a) (kR (.sl a9) a):=
 bq.list (f:=nY) (s:=kR a9) hm.1 (fun x hx=>PU x (hm.2 x hx))
theorem OE (a:List Vector)(hm:mm (.sl aM) a):bq (tO a) (kR (.sl aM) a):=
 (bq.flat (n:=a.length) hm.1).cast (by simp only [kR];rw [ud (fun x _=>by simp only [kR])];rfl)
theorem Ug (a:List Bool)(hm:mm (.sl .bool) a):bq (wx a) (kR (.sl .bool) a):=
 (bq.flat (n:=a.length) hm.1).cast (by simp only [kR];rw [ud (fun x _=>by simp only [kR])];rfl)
theorem R1 (a:Filter)(hm:mm cq a):bq (qE a) (kR cq a):=
 bq.cast (f:=qE a) (bq.sub (yR a.2.2 hm.2.2) bq.nil) (by simp only [kR];try omega)
theorem Ui (a:List di)(hm:mm (.sl cj) a):bq (wz a) (kR (.sl cj) a):=
 (bq.flat (n:=a.length) hm.1).cast (by simp only [kR];rw [ud (fun x _=>by simp only [kR])];rfl)
theorem Uk (a:List Slot)(hm:mm (.sl br) a):bq (wB a) (kR (.sl br) a):=
 (bq.flat (n:=a.length) hm.1).cast (by simp only [kR];rw [ud (fun x _=>by simp only [kR])];rfl)
theorem JS (a:List Slot)(hm:mm (.sl br) a):bq (l0 a) (kR (.sl br) a):=
 bq.cast (f:=l0 a) (bq.sub (Uk a hm) bq.nil) (by simp only [kR];try omega)
theorem R4 (a:fU)(hm:mm dA a):bq (qH a) (kR dA a):=
 bq.cast (f:=qH a) (bq.len (n:=a.1.length) hm.1 (bq.sub (yR a.2 hm.2) bq.nil)) (by simp only [kR];try omega)
theorem Mo (a:cd)(hm:mm bt a):bq (nq a) (kR bt a):=
 bq.cast (f:=nq a) (bq.sub (Ui a.1 hm.1) (bq.sub (JS a.2.1 hm.2.1) (bq.sub (R4 a.2.2 hm.2.2) bq.nil))) (by simp only [kR];try omega)
theorem R5 (a:Stream)(hm:mm aE a):bq (mO a) (kR aE a):=
 bq.cast (f:=mO a) (bq.len (n:=a.2.2.1.length) hm.2.2.1 bq.nil) (by simp only [kR];try omega)
theorem OC (a:List Stream)(hm:mm (.sl aE) a):bq (tN a) (kR (.sl aE) a):=
 bq.list (f:=mO) (s:=kR aE) hm.1 (fun x hx=>R5 x (hm.2 x hx))
theorem Xd (a:Host)(hm:mm bf a):bq (uD a) (kR bf a):=
 bq.cast (f:=uD a) (bq.sub (R2 a.1 hm.1) (bq.sub (Mm a.2.1 hm.2.1) (bq.sub (OD a.2.2.1 hm.2.2.1) (bq.sub (Mn a.2.2.2.1 hm.2.2.2.1) (bq.sub (Uh a.2.2.2.2.1 hm.2.2.2.2.1) (bq.sub (OE a.2.2.2.2.2.1 hm.2.2.2.2.2.1) (bq.sub (Ug a.2.2.2.2.2.2.1 hm.2.2.2.2.2.2.1) (bq.sub (R1 a.2.2.2.2.2.2.2.1 hm.2.2.2.2.2.2.2.1) (bq.sub (Mo a.2.2.2.2.2.2.2.2.1 hm.2.2.2.2.2.2.2.2.1) (bq.sub (OC a.2.2.2.2.2.2.2.2.2.1 hm.2.2.2.2.2.2.2.2.2.1) (bq.sub (FZ a.2.2.2.2.2.2.2.2.2.2.2.1 hm.2.2.2.2.2.2.2.2.2.2.2.1) (bq.sub (yR a.2.2.2.2.2.2.2.2.2.2.2.2.1 hm.2.2.2.2.2.2.2.2.2.2.2.2.1) (bq.sub (yR a.2.2.2.2.2.2.2.2.2.2.2.2.2.1 hm.2.2.2.2.2.2.2.2.2.2.2.2.2.1) bq.nil))))))))))))) (by simp only [kR];try omega)
theorem xa (a:List Bytes)(h:aK 1048576 (.sl .str) a):pj a=some a:=
 z9 (z:=([]:Bytes)) (Nat.le_trans h.1 (by omega))
theorem HG (a:List Bytes)(h:aK 1048576 (.sl .str) a):mQ a=some a:=by
 first|(simp only [mQ,xa _ h,ab];done)|(simp only [mQ,xa _ h,ab];rfl)
theorem OF (a:ae)(h:aK 1048576 au a):ph a=some a:=rfl
theorem CR (a:List ae)(h:aK 1048576 (.sl au) a):sa a=some a:=
 jB (f:=ph) (z:=(0,0,0,false)) (Nat.le_trans h.1 (by omega)) (fun x hx=>OF x (h.2 x hx))
theorem Dw (a:Ring)(h:aK 1048576 fT a):uH a=some a:=rfl
theorem nI (a:List Int)(h:aK 1048576 (.sl (.int .i64)) a):iX a=some a:=
 z9 (z:=0) (Nat.le_trans h.1 (by omega))
theorem JX (a:aV)(h:aK 1048576 a9 a):lj a=some a:=by
 first|(simp only [lj,nI _ h.2.2.2,ab];done)|(simp only [lj,nI _ h.2.2.2,ab];rfl)
theorem Xj (a:cy)(h:aK 1048576 bJ a):nZ a=some a:=by
 first|(simp only [nZ,nI _ h.2.2,ab];done)|(simp only [nZ,nI _ h.2.2,ab];rfl)
theorem Mu (a:List cy)(h:aK 1048576 (.sl bJ) a):wF a=some a:=
 jB (f:=nZ) (z:=(0,0,([]:List Int))) (Nat.le_trans h.1 (by omega)) (fun x hx=>Xj x (h.2 x hx))
theorem F6 (a:aZ)(h:aK 1048576 bk a):ll a=some a:=by
 first|(simp only [ll,Dw _ h.1,JX _ h.2.1,Mu _ h.2.2.1,ab];done)|(simp only [ll,Dw _ h.1,JX _ h.2.1,Mu _ h.2.2.1,ab];rfl)
theorem jC (a:aS)(h:aK 1048576 aY a):eR a=some a:=rfl
theorem F4 (a:bw)(h:aK 1048576 eF a):tR a=some a:=rfl
theorem HH (a:aC)(h:aK 1048576 bM a):mR a=some a:=by
 first|(simp only [mR,F4 _ h.2.2.2.2.2.2.2.2,ab];done)|(simp only [mR,F4 _ h.2.2.2.2.2.2.2.2,ab];rfl)
theorem Mw (a:xB)(h:aK 1048576 rM a):pk a=some a:=by
 first|(simp only [pk,HH _ h.1,ab];done)|(simp only [pk,HH _ h.1,ab];rfl)
theorem OG (a:aw)(h:aK 1048576 az a):iA a=some a:=by
 first|(simp only [iA,Dw _ h.1,jC _ h.2.1,jC _ h.2.2.1,Mw _ h.2.2.2.1,ab];done)|(simp only [iA,Dw _ h.1,jC _ h.2.1,jC _ h.2.2.1,Mw _ h.2.2.2.1,ab];rfl)
theorem CS (a:List aw)(h:aK 1048576 (.sl az) a):sc a=some a:=
 jB (f:=iA) (z:=((0,0,0,0),(0,0,0),(0,0,0),((0,0,0,0,0,0,0,0,0,0,0,0,0,0,0,([]:Bytes)),0,0),false,0)) (Nat.le_trans h.1 (by omega)) (fun x hx=>OG x (h.2 x hx))
theorem Ms (a:List aV)(h:aK 1048576 (.sl a9) a):wD a=some a:=
 jB (f:=lj) (z:=(0,0,0,([]:List Int))) (Nat.le_trans h.1 (by omega)) (fun x hx=>JX x (h.2 x hx))
theorem R8 (a:Vector)(h:aK 1048576 aM a):qI a=some a:=rfl
theorem F7 (a:List Vector)(h:aK 1048576 (.sl aM) a):tT a=some a:=
 jB (f:=qI) (z:=(0,0,0,0,false,false)) (Nat.le_trans h.1 (by omega)) (fun x hx=>R8 x (h.2 x hx))
theorem Mr (a:List Bool)(h:aK 1048576 (.sl .bool) a):wC a=some a:=
 z9 (z:=false) (Nat.le_trans h.1 (by omega))
theorem HF (a:Filter)(h:aK 1048576 cq a):mP a=some a:=by
 first|(simp only [mP,nI _ h.2.2,ab];done)|(simp only [mP,nI _ h.2.2,ab];rfl)
theorem Xi (a:di)(h:aK 1048576 cj a):uI a=some a:=rfl
theorem Mt (a:List di)(h:aK 1048576 (.sl cj) a):wE a=some a:=
 jB (f:=uI) (z:=(0,0,0,0,0,0,0,0,0)) (Nat.le_trans h.1 (by omega)) (fun x hx=>Xi x (h.2 x hx))
theorem Dv (a:cS)(h:aK 1048576 dE a):uG a=some a:=rfl
theorem Xk (a:Slot)(h:aK 1048576 br a):n0 a=some a:=by
 first|(simp only [n0,Dv _ h.2.1,ab];done)|(simp only [n0,Dv _ h.2.1,ab];rfl)
theorem Mv (a:List Slot)(h:aK 1048576 (.sl br) a):wG a=some a:=
 jB (f:=n0) (z:=(0,(0,0,0,0,0),0)) (Nat.le_trans h.1 (by omega)) (fun x hx=>Xk x (h.2 x hx))
theorem Bp (a:List Slot)(h:aK 1048576 (.sl br) a):iz a=some a:=by
 first|(simp only [iz,Mv _ h,ab];done)|(simp only [iz,Mv _ h,ab];rfl)
theorem HI (a:fU)(h:aK 1048576 dA a):mS a=some a:=by
 first|(simp only [mS,nI _ h.2,ab];done)|(simp only [mS,nI _ h.2,ab];rfl)
theorem CU (a:cd)(h:aK 1048576 bt a):jK a=some a:=by
 first|(simp only [jK,Mt _ h.1,Bp _ h.2.1,HI _ h.2.2,ab];done)|(simp only [jK,Mt _ h.1,Bp _ h.2.1,HI _ h.2.2,ab];rfl)
theorem R7 (a:Stream)(h:aK 1048576 aE a):jZ a=some a:=by
 first|(simp only [jZ,Dv _ h.1,ab];done)|(simp only [jZ,Dv _ h.1,ab];rfl)
theorem F5 (a:List Stream)(h:aK 1048576 (.sl aE) a):tS a=some a:=
 jB (f:=jZ) (z:=((0,0,0,0,0),0,([]:Bytes),false)) (Nat.le_trans h.1 (by omega)) (fun x hx=>R7 x (h.2 x hx))
theorem CQ (a:cS)(h:aK 1048576 dE a):rZ a=some a:=rfl
theorem Xh (a:Host)(h:aK 1048576 bf a):iW a=some a:=by
 first|(simp only [iW,HG _ h.1,CR _ h.2.1,F6 _ h.2.2.1,CS _ h.2.2.2.1,Ms _ h.2.2.2.2.1,F7 _ h.2.2.2.2.2.1,Mr _ h.2.2.2.2.2.2.1,HF _ h.2.2.2.2.2.2.2.1,CU _ h.2.2.2.2.2.2.2.2.1,F5 _ h.2.2.2.2.2.2.2.2.2.1,xa _ h.2.2.2.2.2.2.2.2.2.2.2.1,nI _ h.2.2.2.2.2.2.2.2.2.2.2.2.1,nI _ h.2.2.2.2.2.2.2.2.2.2.2.2.2.1,CQ _ h.2.2.2.2.2.2.2.2.2.2.2.2.2.2,ab];done)|(simp only [iW,HG _ h.1,CR _ h.2.1,F6 _ h.2.2.1,CS _ h.2.2.2.1,Ms _ h.2.2.2.2.1,F7 _ h.2.2.2.2.2.1,Mr _ h.2.2.2.2.2.2.1,HF _ h.2.2.2.2.2.2.2.1,CU _ h.2.2.2.2.2.2.2.2.1,F5 _ h.2.2.2.2.2.2.2.2.2.1,xa _ h.2.2.2.2.2.2.2.2.2.2.2.1,nI _ h.2.2.2.2.2.2.2.2.2.2.2.2.1,nI _ h.2.2.2.2.2.2.2.2.2.2.2.2.2.1,CQ _ h.2.2.2.2.2.2.2.2.2.2.2.2.2.2,ab];rfl)
theorem EE (a:List Bytes)(h:aK 1000000000000 (.sl .str) a):oP a a=some true:=
 vP h.1
theorem Ql (a:List Bytes)(h:aK 1000000000000 (.sl .str) a):qz a a=some true:=by
 simp [qz,EE _ h]
theorem M6 (a:ae)(h:aK 1000000000000 au a):k9 a a=some true:=by
 simp [k9]
theorem KO (a:List ae)(h:aK 1000000000000 (.sl au) a):rU a a=some true:=
 eO (f:=k9) h.1 (fun x hx=>M6 x (h.2 x hx))
theorem Pj (a:Ring)(h:aK 1000000000000 fT a):rr a a=some true:=by
 simp [rr]
theorem yt (a:List Int)(h:aK 1000000000000 (.sl (.int .i64)) a):iU a a=some true:=
 vP h.1
theorem Ph (a:aV)(h:aK 1000000000000 a9 a):nX a a=some true:=by
 simp [nX,yt _ h.2.2.2]
theorem Wi (a:cy)(h:aK 1000000000000 bJ a):ry a a=some true:=by
 simp [ry,yt _ h.2.2]
theorem Sz (a:List cy)(h:aK 1000000000000 (.sl bJ) a):wu a a=some true:=
 eO (f:=ry) h.1 (fun x hx=>Wi x (h.2 x hx))
theorem Na (a:aZ)(h:aK 1000000000000 bk a):oQ a a=some true:=by
 simp [oQ,Pj _ h.1,Ph _ h.2.1,Sz _ h.2.2.1]
theorem td (a:aS)(h:aK 1000000000000 aY a):dq a a=some true:=by
 simp [dq]
theorem M8 (a:bw)(h:aK 1000000000000 eF a):oO a a=some true:=by
 simp [oO]
theorem Qm (a:aC)(h:aK 1000000000000 bM a):qA a a=some true:=by
 simp [qA,M8 _ h.2.2.2.2.2.2.2.2]
theorem SB (a:xB)(h:aK 1000000000000 rM a):sv a a=some true:=by
 simp [sv,Qm _ h.1]
theorem M7 (a:aw)(h:aK 1000000000000 az a):la a a=some true:=by
 simp [la,Pj _ h.1,td _ h.2.1,td _ h.2.2.1,SB _ h.2.2.2.1]
theorem KP (a:List aw)(h:aK 1000000000000 (.sl az) a):rV a a=some true:=
 eO (f:=la) h.1 (fun x hx=>M7 x (h.2 x hx))
theorem Sx (a:List aV)(h:aK 1000000000000 (.sl a9) a):wo a a=some true:=
 eO (f:=nX) h.1 (fun x hx=>Ph x (h.2 x hx))
theorem Qp (a:Vector)(h:aK 1000000000000 aM a):mM a a=some true:=by
 simp [mM]
theorem Nb (a:List Vector)(h:aK 1000000000000 (.sl aM) a):tB a a=some true:=
 eO (f:=mM) h.1 (fun x hx=>Qp x (h.2 x hx))
theorem Sw (a:List Bool)(h:aK 1000000000000 (.sl .bool) a):wk a a=some true:=
 vP h.1
theorem Qk (a:Filter)(h:aK 1000000000000 cq a):qy a a=some true:=by
 simp [qy,yt _ h.2.2]
theorem Wh (a:di)(h:aK 1000000000000 cj a):ru a a=some true:=by
 simp [ru]
theorem Sy (a:List di)(h:aK 1000000000000 (.sl cj) a):wq a a=some true:=
 eO (f:=ru) h.1 (fun x hx=>Wh x (h.2 x hx))
theorem Pf (a:cS)(h:aK 1000000000000 dE a):rq a a=some true:=by
 simp [rq]
theorem Wj (a:Slot)(h:aK 1000000000000 br a):rz a a=some true:=by
 simp [rz,Pf _ h.2.1]
theorem SA (a:List Slot)(h:aK 1000000000000 (.sl br) a):wv a a=some true:=
 eO (f:=rz) h.1 (fun x hx=>Wj x (h.2 x hx))
theorem IV (a:List Slot)(h:aK 1000000000000 (.sl br) a):lU a a=some true:=by
 simp [lU,SA _ h]
theorem Qn (a:fU)(h:aK 1000000000000 dA a):qB a a=some true:=by
 simp [qB,yt _ h.2]
theorem KQ (a:cd)(h:aK 1000000000000 bt a):nh a a=some true:=by
 simp [nh,Sy _ h.1,IV _ h.2.1,Qn _ h.2.2]
theorem Qo (a:Stream)(h:aK 1000000000000 aE a):mL a a=some true:=by
 simp [mL,Pf _ h.1]
theorem M9 (a:List Stream)(h:aK 1000000000000 (.sl aE) a):tA a a=some true:=
 eO (f:=mL) h.1 (fun x hx=>Qo x (h.2 x hx))
theorem KN (a:cS)(h:aK 1000000000000 dE a):ng a a=some true:=by
 simp [ng]
theorem Pg (a:Host)(h:aK 1000000000000 bf a):k8 a a=some true:=by
 simp [k8,Ql _ h.1,KO _ h.2.1,Na _ h.2.2.1,KP _ h.2.2.2.1,Sx _ h.2.2.2.2.1,Nb _ h.2.2.2.2.2.1,Sw _ h.2.2.2.2.2.2.1,Qk _ h.2.2.2.2.2.2.2.1,KQ _ h.2.2.2.2.2.2.2.2.1,M9 _ h.2.2.2.2.2.2.2.2.2.1,EE _ h.2.2.2.2.2.2.2.2.2.2.2.1,yt _ h.2.2.2.2.2.2.2.2.2.2.2.2.1,yt _ h.2.2.2.2.2.2.2.2.2.2.2.2.2.1,KN _ h.2.2.2.2.2.2.2.2.2.2.2.2.2.2]
end Go.Pu
end
section
namespace Go.Pu
open Go.Dn
set_option linter.unusedSimpArgs false
noncomputable section
def bp (a lo hi:Int):Bool:=decide (lo≤a)&&decide (a≤hi)
theorem aQ {a lo hi:Int}:bp a lo hi=true↔lo≤a∧a≤hi:=by simp [bp]
theorem bh (a b c:Int):al a b c=some (bp a b c):=by
 simp only [al,aH,ab,bp]
 cases h:decide (a≥b)<;>rfl
theorem bm (a b c:Int):ah a b c=some (bp a b c):=bh a b c
theorem bB {α:Type}{l:List α}{i:Nat}(h:i<l.length)(d:α):l.getD i d=l[i]:=by rw [List.getD_eq_getElem?_getD,List.getElem?_eq_getElem h];rfl
def Gc (l:List Int)(i:Nat):Bool:=bp (l.getD i 0) 0 4095&& !(decide (0<i)&&decide (l.getD i 0≤l.getD (i-1) 0))
def vQ (f:Filter):Bool:=(List.range f.2.2.length).all (Gc f.2.2)&&(bp f.1 0 281474976710654&&decide ((f.2.2.length:Int)≤8))
theorem Oh (f:Filter)(h:f.2.2.length≤1000000000):qO f=some (vQ f):=by
 unfold qO
 rw [jU (hit:=some false) (fin:=some (bp f.1 0 281474976710654&&decide ((f.2.2.length:Int)≤8))) (Gc f.2.2) f.2.2.length (by omega) (fun i nx hi=> ?hs) (fun nx=> ?hf)]
 case hs=>
  simp only [l5]
  rw [decide_eq_true (by omega),ax hi,wrap64 (n:=(i:Int)+1) (by omega) (by omega)]
  simp only [cond_true,ab,bh,Gc,bB hi]
  by_cases h0:0<i
  ·have e:IntKind.wrap .i64 ((i:Int)-1)=((i-1:Nat):Int):=by rw [wrap64 (by omega) (by omega)];omega
   have hp:i-1<f.2.2.length:=by omega
   rw [e,ax hp,decide_eq_true (show (i:Int)>0 by omega),decide_eq_true h0,bB hp]
   simp only [cond_true,ab,Bool.true_and]
   cases bp f.2.2[i] 0 4095<;>cases decide (f.2.2[i]≤f.2.2[i-1])<;>rfl
  ·rw [decide_eq_false (show¬(i:Int)>0 by omega),decide_eq_false h0]
   simp only [cond_false,Bool.false_and]
   cases bp f.2.2[i] 0 4095<;>rfl
 case hf=>
  simp only [l5]
  rw [decide_eq_false (by omega)]
  simp only [cond_false,bh,ab,xf,aH]
  cases bp f.1 0 281474976710654<;>rfl
 unfold vQ
 cases (List.range f.2.2.length).all (Gc f.2.2)<;>rfl
theorem Np (f:Filter)(h:f.2.2.length≤1000000000):qm f=some (vQ f):=by
 unfold qm
 rw [jU (hit:=some false) (fin:=some (bp f.1 0 281474976710654&&decide ((f.2.2.length:Int)≤8))) (Gc f.2.2) f.2.2.length (by omega) (fun i nx hi=> ?hs) (fun nx=> ?hf)]
 case hs=>
  simp only [lJ]
  rw [decide_eq_true (by omega),ax hi,wrap64 (n:=(i:Int)+1) (by omega) (by omega)]
  simp only [cond_true,ab,bm,Gc,bB hi]
  by_cases h0:0<i
  ·have e:IntKind.wrap .i64 ((i:Int)-1)=((i-1:Nat):Int):=by rw [wrap64 (by omega) (by omega)];omega
   have hp:i-1<f.2.2.length:=by omega
   rw [e,ax hp,decide_eq_true (show (i:Int)>0 by omega),decide_eq_true h0,bB hp]
   simp only [cond_true,ab,Bool.true_and,ge_iff_le]
   cases bp f.2.2[i] 0 4095<;>cases decide (f.2.2[i]≤f.2.2[i-1])<;>rfl
  ·rw [decide_eq_false (show¬(i:Int)>0 by omega),decide_eq_false h0]
   simp only [cond_false,Bool.false_and]
   cases bp f.2.2[i] 0 4095<;>rfl
 case hf=>
  simp only [lJ]
  rw [decide_eq_false (by omega)]
  simp only [cond_false,bm,ab,xf,aH]
  cases bp f.1 0 281474976710654<;>rfl
 unfold vQ
 cases (List.range f.2.2.length).all (Gc f.2.2)<;>rfl
def FA (r:di):Bool:=(lz r).getD false
theorem T9 (r:di):lz r=some (FA r):=by
 have:∃b,lz r=some b:=by
  simp only [lz,bh,ab,aH]
  exact ⟨_,rfl⟩
 obtain ⟨b,hb⟩:=this
 simp [FA,hb]
theorem L1 {r:di}(h:FA r=true):r.2.2.2.2.2.2.2.1=0∨r.2.2.2.2.2.2.2.2=0:=by
 by_cases h0:r.2.2.2.2.2.2.2.1=0
 ·exact .inl h0
 ·by_cases h1:r.2.2.2.2.2.2.2.2=0
  ·exact .inr h1
  ·exfalso
   have e0:(r.2.2.2.2.2.2.2.1==0)=false:=by simp [h0]
   have e1:(r.2.2.2.2.2.2.2.2==0)=false:=by simp [h1]
   revert h
   unfold FA
   simp only [lz,bh,ab,aH,e0,e1,cond_false,Option.getD_some]
   have z:∀c:Bool,(bif c then false else false)=false:=by intro c;cases c<;>rfl
   simp only [z]
   intro h
   cases h
def zX (l:List di):Bool:=l.all FA&&decide ((l.length:Int)≤12)
theorem Hz (l:List di)(h:l.length≤1000000000):sG l=some (zX l):=by
 unfold sG
 rw [lF (hit:=some false) (fin:=some (decide ((l.length:Int)≤12))) FA l (by omega) (fun i hi nx=> ?hs) (fun nx=> ?hf)]
 case hs=>
  simp only [nw]
  rw [decide_eq_true (by omega),ax hi,wrap64 (by omega) (by omega)]
  simp only [cond_true,ab,T9];rfl
 case hf=>
  simp only [nw]
  rw [decide_eq_false (by omega)];rfl
 unfold zX
 cases l.all FA<;>rfl
theorem QK (l:List di)(h:l.length≤1000000000):wa l=some (zX l):=by
 rw [←Hz l h];rfl
theorem ajJ (x:Int):((BitVec.ofInt 64 x&&&BitVec.ofInt 64 7).toNat:Int)=x%8:=by
 have h7:(BitVec.ofInt 64 7).toNat=2^3-1:=by decide
 rw [BitVec.toNat_and,h7,Nat.and_two_pow_sub_one_eq_mod]
 simp only [BitVec.toNat_ofInt]
 omega
theorem adT (x:Int):((BitVec.ofInt (IntKind.bits .i64) x&&&BitVec.ofInt (IntKind.bits .i64) 7).toNat:Int)=x%8:=ajJ x
theorem WM (x:Int):dx x 8=some (x%8):=by
 unfold dx
 rw [if_neg (by omega),Int.tmod_eq_emod]
 split
 ·rw [decide_eq_false (by omega)];simp
 ·rw [decide_eq_true (by simp;omega),wrap64 (by simp;omega) (by simp;omega)];simp
def za (f:cS):Int:=(f.1%8+f.2.1%8+f.2.2.1%8+f.2.2.2.1%8+f.2.2.2.2%8)%8
theorem K8 (f:cS):0≤za f∧za f<8:=by unfold za;omega
theorem VO {n:Int}(h:0≤n):Int.tmod n 8=n%8:=Int.tmod_eq_emod_of_nonneg h
theorem T0 (f:cS):qR f=some (za f):=by
 unfold qR
 generalize hL:[f.1,f.2.1,f.2.2.1,f.2.2.2.1,f.2.2.2.2]=L
 have hlen:L.length=5:=by rw [←hL];rfl
 have hfu:=bl
 have key:=sZ (R:=Int) (T:=iM (fun (y2:Int) (y3:Int)=>if 8=0 then none else (some (Int.tmod y2 8))) L) L (fun (s:Int) i=>(s,(i:Int)))
  (fun x s k=>k (IntKind.wrap .i64 (s+IntKind.wrap .i64 (x%8)))) (fun s=>some (Int.tmod s 8))
  (fun i hi s nx=>by
   simp only [iM]
   rw [decide_eq_true (by omega),ax hi,wrap64 (n:=(i:Int)+1) (by omega) (by omega)]
   simp only [cond_true,ab]
   rw [adT L[i]];rfl)
  (fun s nx=>by
   simp only [iM]
   rw [decide_eq_false (by omega)];rfl)
  fuel 0 0 (by omega) (by omega)
 refine key.trans ?_
 rw [←hL]
 simp only [List.drop_zero,rh]
 rw [wrap64 (n:=f.1%8) (by omega) (by omega),wrap64 (n:=f.2.1%8) (by omega) (by omega),wrap64 (n:=f.2.2.1%8) (by omega) (by omega),wrap64 (n:=f.2.2.2.1%8) (by omega) (by omega),wrap64 (n:=f.2.2.2.2%8) (by omega) (by omega)]
 rw [wrap64 (n:=0+f.1%8) (by omega) (by omega),wrap64 (n:=0+f.1%8+_) (by omega) (by omega),wrap64 (n:=0+f.1%8+_+_) (by omega) (by omega),wrap64 (n:=0+f.1%8+_+_+_) (by omega) (by omega),wrap64 (n:=0+f.1%8+_+_+_+_) (by omega) (by omega)]
 rw [VO (by omega),za,Int.zero_add]
theorem S0 (f:cS):qp f=some (za f):=by
 unfold qp
 generalize hL:[f.1,f.2.1,f.2.2.1,f.2.2.2.1,f.2.2.2.2]=L
 have hlen:L.length=5:=by rw [←hL];rfl
 have hfu:=bl
 have key:=sZ (R:=Int) (T:=ir (fun (y2:Int) (y3:Int)=>if 8=0 then none else (some (Int.tmod y2 8))) L (L.length:Int)) L (fun (s:Int) i=>(s,(i:Int)))
  (fun x s k=>k (IntKind.wrap .i64 (s+(x%8)))) (fun s=>some (Int.tmod s 8))
  (fun i hi s nx=>by
   simp only [ir]
   rw [decide_eq_true (by omega),ax hi,wrap64 (n:=(i:Int)+1) (by omega) (by omega)]
   simp only [cond_true,ab,WM]
   rfl)
  (fun s nx=>by
   simp only [ir]
   rw [decide_eq_false (by omega)];rfl)
  fuel 0 0 (by omega) (by omega)
 refine key.trans ?_
 rw [←hL]
 simp only [List.drop_zero,rh]
 rw [wrap64 (n:=0+f.1%8) (by omega) (by omega),wrap64 (n:=0+f.1%8+_) (by omega) (by omega),wrap64 (n:=0+f.1%8+_+_) (by omega) (by omega),wrap64 (n:=0+f.1%8+_+_+_) (by omega) (by omega),wrap64 (n:=0+f.1%8+_+_+_+_) (by omega) (by omega)]
 rw [VO (by omega),za,Int.zero_add]
def cM (t:List Slot)(i:Nat):Slot:=t.getD i (0,(0,0,0,0,0),0)
theorem vE {t:List Slot}{i:Nat}(h:i<t.length):cM t i=t[i]:=bB h _
def fR (f:cS)(k:Nat):Nat:=((za f).toNat+k)%8
theorem JZ (f:cS)(k:Nat):fR f k<8:=Nat.mod_lt _ (by omega)
theorem My (f:cS)(k:Nat)(h:k<8):Int.tmod (IntKind.wrap .i64 (za f+(k:Int))) 8=(fR f k:Int):=by
 have:=K8 f
 rw [wrap64 (by omega) (by omega),VO (by omega),fR];omega
def oa (s:Slot)(f:cS):Bool:=(s.1==1)&&decide (s.2.1=f)
theorem Av (p q:cS):((p.1==q.1)&&((p.2.1==q.2.1)&&((p.2.2.1==q.2.2.1)&&((p.2.2.2.1==q.2.2.2.1)&&((p.2.2.2.2==q.2.2.2.2)&&true)))))=decide (p=q):=by
 obtain ⟨a,b,c,d,e⟩:=p
 obtain ⟨a',b',c',d',e'⟩:=q
 rw [Bool.eq_iff_iff];simp
def walk (t:List Slot)(f:cS):Nat→Nat→Int
 |0,_=> -1
 |n+1,k=>if (cM t (fR f k)).1=0 then-1 else if oa (cM t (fR f k)) f then (fR f k:Int) else walk t f n (k+1)
theorem TY (t:List Slot)(f:cS)(ht:t.length=8):sM t f=some (walk t f 8 0):=by
 unfold sM
 have hfu:=bl
 have key:=yE (R:=Int) (T:=jR (fun (y6:Int)=>some (-1)) (fun (y7:Int) (y8:Int)=>some y7) 0 t f) 8 (fun (_:Unit) i=>(i:Int))
  (fun i s k=>if (cM t (fR f i)).1=0 then some (-1) else if oa (cM t (fR f i)) f then some (fR f i:Int) else k s) (fun _=>some (-1))
  (fun i s nx hi=>by
   have hw:fR f i<t.length:=by have:=JZ f i;omega
   simp only [jR,T0]
   rw [decide_eq_true (by omega),wrap64 (n:=(i:Int)+1) (by omega) (by omega)]
   simp only [cond_true,ab,My f i hi,ax hw,vE hw,Av,oa,aH,ab]
   rw [if_neg (by omega)]
   by_cases h0:t[fR f i].1=0
   ·simp [h0]
   ·have e0:(t[fR f i].1==0)=false:=by simp [h0]
    rw [e0,if_neg h0]
    cases (t[fR f i].1==1)<;>cases decide (t[fR f i].2.1=f)<;>rfl)
  (fun s nx=>by simp only [jR];rfl)
  fuel 0 () (by omega) (by omega)
 refine key.trans ?_
 have main:∀n i,VU (R:=Int) (fun i (s:Unit) k=>if (cM t (fR f i)).1=0 then some (-1) else if oa (cM t (fR f i)) f then some (fR f i:Int) else k s) (fun _=>some (-1)) 8 n i ()=some (walk t f n i):=by
  intro n
  induction n with
  |zero=>intro i;rfl
  |succ n ih=>
   intro i
   rw [VU,walk]
   split
   ·rfl
   ·split
    ·rfl
    ·exact ih (i+1)
 exact main 8 0
def vR (f:cS):List Slot→Int→Int
 |[],_=> -1
 |s::r,i=>if oa s f then i else vR f r (i+1)
theorem S9 (t:List Slot)(f:cS)(h:t.length≤1000000000):uz t f=some (vR f t 0):=by
 unfold uz
 have hfu:=bl
 have key:∀n i,i≤t.length→t.length-i<n→aq (oL (fun (y3:Int)=>some (-1)) (fun (y4:Int) (y5:Int)=>some y4) 0 t ((List.length t:Int)) f) n (i:Int)=some (vR f (t.drop i) i):=by
  intro n
  induction n with
  |zero=>intro i _ h;omega
  |succ n ih=>
   intro i hi hn
   rw [aq]
   simp only [oL]
   rcases Nat.lt_or_ge i t.length with hlt|hge
   ·rw [decide_eq_true (by omega),ax hlt,List.drop_eq_getElem_cons hlt,vR,wrap64 (by omega) (by omega)]
    simp only [cond_true,ab,Av,aH]
    have e:(bif t[i].1==1 then decide (t[i].2.1=f) else false)=oa t[i] f:=by unfold oa;cases (t[i].1==1)<;>rfl
    rw [e]
    cases oa t[i] f with
    |true=>rfl
    |false=>exact ih (i+1) (by omega) (by omega)
   ·have:i=t.length:=by omega
    subst this
    rw [decide_eq_false (by omega),List.drop_length];rfl
 exact key fuel 0 (by omega) (by omega)
theorem WA (f:cS):wh f=some ((List.range 8).map fun k=>(fR f k:Int)):=by
 unfold wh
 have hfu:=bl
 have key:=yE (R:=List Int) (T:=mK (fun (y2:List Int) (y3:Int)=>some y2) f) 8 (fun (_:Unit) i=>((List.range i).map (fun k=>(fR f k:Int)),(i:Int)))
  (fun _ s k=>k s) (fun _=>some ((List.range 8).map fun k=>(fR f k:Int)))
  (fun i s nx hi=>by
   simp only [mK,S0]
   rw [decide_eq_true (by omega),wrap64 (n:=(i:Int)+1) (by omega) (by omega)]
   simp only [cond_true,ab,My f i hi]
   rw [if_neg (by omega),ao (by simp;omega),List.range_succ,List.map_append]
   rfl)
  (fun s nx=>by simp only [mK];rfl)
  fuel 0 () (by omega) (by omega)
 exact key
def clear (t:List Slot)(f:cS)(i:Nat):Nat→Nat→Bool
 |0,_=>true
 |n+1,k=>if fR f k=i then true else if (cM t (fR f k)).1=0 then false else clear t f i n (k+1)
theorem QD {R:Type}(k0:Int→Option R)(k1:Bool→Int→Option R)(hit fin:Option R)(h0:∀x,k0 x=fin)(h1:∀x,k1 false x=hit)(v2:Bool)(i:Nat)(v12:List Slot)(v13 v14:Int)(t:List Slot)(f:cS)(ht:t.length=8):
 aq (ft k0 k1 v2 (i:Int) v12 v13 v14 ((List.range 8).map fun k=>(fR f k:Int)) (((List.range 8).map fun k=>(fR f k:Int)).length:Int) t) fuel 0=cond (clear t f i 8 0) fin hit:=by
 have hfu:=bl
 have hl:((List.range 8).map fun k=>(fR f k:Int)).length=8:=by simp
 have key:=yE (R:=R) (T:=ft k0 k1 v2 (i:Int) v12 v13 v14 ((List.range 8).map fun k=>(fR f k:Int)) (((List.range 8).map fun k=>(fR f k:Int)).length:Int) t) 8 (fun (_:Unit) i=>(i:Int))
  (fun k s c=>if fR f k=i then fin else if (cM t (fR f k)).1=0 then hit else c s) (fun _=>fin)
  (fun k s nx hk=>by
   have hw:fR f k<t.length:=by have:=JZ f k;omega
   simp only [ft]
   rw [decide_eq_true (by omega),ax (show k<((List.range 8).map fun k=>(fR f k:Int)).length by omega),wrap64 (n:=(k:Int)+1) (by omega) (by omega)]
   simp only [cond_true,ab,List.getElem_map,List.getElem_range,ax hw,vE hw,h0,h1]
   by_cases e1:fR f k=i
   ·subst e1;simp
   ·have:((fR f k:Int)==(i:Int))=false:=by simp;omega
    rw [this,if_neg e1]
    by_cases e2:t[fR f k].1=0
    ·simp [e2]
    ·have:(t[fR f k].1==0)=false:=by simp [e2]
     rw [this,if_neg e2];rfl)
  (fun s nx=>by
   simp only [ft]
   rw [decide_eq_false (by omega)];exact h0 _)
  fuel 0 () (by omega) (by omega)
 refine key.trans ?_
 have main:∀n k,VU (R:=R) (fun k (s:Unit) c=>if fR f k=i then fin else if (cM t (fR f k)).1=0 then hit else c s) (fun _=>fin) 8 n k ()=cond (clear t f i n k) fin hit:=by
  intro n
  induction n with
  |zero=>intro k;rfl
  |succ n ih=>
   intro k
   rw [VU,clear]
   split
   ·rfl
   ·split
    ·rfl
    ·exact ih (k+1)
 exact main 8 0
def KZ:cS:=(0,0,0,0,0)
theorem K0 (p:cS):((p.1==0)&&((p.2.1==0)&&((p.2.2.1==0)&&((p.2.2.2.1==0)&&((p.2.2.2.2==0)&&true)))))=decide (p=KZ):=Av p KZ
def Mb (s:Slot):Bool:=bp s.1 0 2&&bp s.2.2 0 3&&((s.1==1)||(s.2.2==0)&&decide (s.2.1=KZ))
def l4 (t:List Slot)(i:Nat):Bool:=Mb (cM t i)&&(!((cM t i).1==1)||(walk t (cM t i).2.1 8 0==(i:Int)))
def nV (t:List Slot)(i:Nat):Bool:=Mb (cM t i)&&(!((cM t i).1==1)||(vR (cM t i).2.1 t 0==(i:Int))&&clear t (cM t i).2.1 i 8 0)
def yh (t:List Slot):Bool:=(t.length==8)&&(List.range 8).all (l4 t)
theorem RR (t:List Slot):sH t=some (yh t):=by
 unfold sH yh
 by_cases ht:t.length=8
 ·have e:((t.length:Int) !=8)=false:=by rw [ht];rfl
  have e2:(t.length==8)=true:=by rw [ht];rfl
  rw [e,e2]
  simp only [cond_false,Bool.true_and]
  rw [jU (hit:=some false) (fin:=some true) (l4 t) 8 (by omega) (fun i nx hi=> ?hs) (fun nx=> ?hf)]
  case hs=>
   have hl:i<t.length:=by omega
   simp only [nA]
   rw [decide_eq_true (by omega),ax hl,wrap64 (by omega) (by omega)]
   simp only [cond_true,ab,bh,aH,K0,TY t _ ht,l4,vE hl,Mb,bne]
   cases bp t[i].1 0 2<;>cases bp t[i].2.2 0 3<;>cases (t[i].1==1)<;>cases (t[i].2.2==0)<;>cases decide (t[i].2.1=KZ)<;>first|rfl|(cases (walk t t[i].2.1 8 0==(i:Int))<;>rfl)
  case hf=>
   simp only [nA]
   rw [decide_eq_false (by omega)];rfl
  cases (List.range 8).all (l4 t)<;>rfl
 ·have e:((t.length:Int) !=8)=true:=by simp;omega
  have e2:(t.length==8)=false:=by simp [ht]
  rw [e,e2];rfl
theorem Nz (t:List Slot):oE t=some ((t.length==8)&&(List.range 8).all (nV t)):=by
 unfold oE
 by_cases ht:t.length=8
 ·have e:((t.length:Int) !=8)=false:=by rw [ht];rfl
  have e2:(t.length==8)=true:=by rw [ht];rfl
  rw [e,e2]
  simp only [cond_false,Bool.true_and]
  rw [jU (hit:=some false) (fin:=some true) (nV t) 8 (by omega) (fun i nx hi=> ?hs) (fun nx=> ?hf)]
  case hs=>
   have hl:i<t.length:=by omega
   simp only [na]
   rw [decide_eq_true (by omega),ax hl,wrap64 (by omega) (by omega)]
   simp only [cond_true,ab,bm,aH,K0,S9 t _ (show t.length≤1000000000 by omega),WA,nV,vE hl,Mb,bne]
   rw [QD (fun _=>nx ((i:Int)+1)) (fun (y:Bool) (_:Int)=>some y) (some false) (nx ((i:Int)+1)) (fun _=>rfl) (fun _=>rfl) _ _ _ _ _ _ _ ht]
   cases bp t[i].1 0 2<;>cases bp t[i].2.2 0 3<;>cases (t[i].1==1)<;>cases (t[i].2.2==0)<;>cases decide (t[i].2.1=KZ)<;>first|rfl|(cases (vR t[i].2.1 t 0==(i:Int))<;>first|rfl|(cases clear t t[i].2.1 i 8 0<;>rfl))
  case hf=>
   simp only [na]
   rw [decide_eq_false (by omega)];rfl
  cases (List.range 8).all (nV t)<;>rfl
 ·have e:((t.length:Int) !=8)=true:=by simp;omega
  have e2:(t.length==8)=false:=by simp [ht]
  rw [e,e2];rfl
theorem HK (t:List Slot)(f:cS)(i:Nat):∀n k,walk t f n k=(i:Int)→oa (cM t i) f=true∧clear t f i n k=true∧∃j,j<n∧fR f (k+j)=i
 |0,k,h=>by unfold walk at h;omega
 |n+1,k,h=>by
  unfold walk at h
  unfold clear
  by_cases h0:(cM t (fR f k)).1=0
  ·rw [if_pos h0] at h;omega
  ·rw [if_neg h0] at h
   by_cases h1:oa (cM t (fR f k)) f=true
   ·rw [if_pos h1] at h
    have:fR f k=i:=by omega
    subst this
    exact ⟨h1,by simp,0,by omega,rfl⟩
   ·rw [if_neg h1] at h
    obtain ⟨a,b,j,hj,e⟩:=HK t f i n (k+1) h
    refine ⟨a, ?_,j+1,by omega,by rw [←e];congr 1;omega⟩
    rw [if_neg h0,b];split<;>rfl
theorem P2 (t:List Slot)(f:cS)(i:Nat)(hu:oa (cM t i) f=true)(huniq:∀j,j<8→oa (cM t j) f=true→j=i):∀n k,clear t f i n k=true→(∃j,j<n∧fR f (k+j)=i)→walk t f n k=(i:Int)
 |0,k,_,h=>by obtain ⟨j,hj,_⟩:=h;omega
 |n+1,k,hc,⟨j,hj,e⟩=>by
  unfold walk
  unfold clear at hc
  by_cases h1:fR f k=i
  ·rw [h1,if_neg,if_pos hu]
   intro h0
   unfold oa at hu
   rw [h0] at hu
   simp at hu
  ·rw [if_neg h1] at hc
   by_cases h0:(cM t (fR f k)).1=0
   ·rw [if_pos h0] at hc;cases hc
   ·rw [if_neg h0] at hc
    rw [if_neg h0,if_neg (fun hu'=>h1 (huniq _ (JZ f k) hu'))]
    refine P2 t f i hu huniq n (k+1) hc ?_
    cases j with
    |zero=>exact absurd e h1
    |succ j=>exact ⟨j,by omega,by rw [←e];congr 1;omega⟩
theorem Xn (f:cS)(i:Nat)(hi:i<8):∃j,j<8∧fR f (0+j)=i:=by
 have:=K8 f
 refine ⟨(i+8-(za f).toNat)%8,by omega, ?_⟩
 unfold fR;omega
theorem Cv (f:cS):∀(t:List Slot)(m:Nat),(∃j,j<t.length∧oa (cM t j) f=true)→∃j,j<t.length∧oa (cM t j) f=true∧vR f t m=((m+j:Nat):Int)
 |[],_,h=>by obtain ⟨j,hj,_⟩:=h;simp at hj
 |s::r,m,⟨j,hj,e⟩=>by
  unfold vR
  by_cases hs:oa s f=true
  ·rw [if_pos hs];exact ⟨0,by simp,by simpa [cM] using hs,by simp⟩
  ·rw [if_neg hs]
   cases j with
   |zero=>exact absurd (by simpa [cM] using e) hs
   |succ j=>
    obtain ⟨j',h1,h2,h3⟩:=Cv f r (m+1) ⟨j,by simpa using hj,by simpa [cM] using e⟩
    refine ⟨j'+1,by simpa using h1,by simpa [cM] using h2, ?_⟩
    have:((m:Int)+1)=((m+1:Nat):Int):=by omega
    rw [this,h3];congr 1;omega
theorem Oe (t:List Slot)(ht:t.length=8):(List.range 8).all (nV t)=(List.range 8).all (l4 t):=by
 rw [Bool.eq_iff_iff,List.all_eq_true,List.all_eq_true]
 simp only [List.mem_range]
 constructor
 ·intro h i hi
  have hI:=h i hi
  unfold nV at hI
  unfold l4
  simp only [Bool.and_eq_true,Bool.or_eq_true,Bool.not_eq_true',beq_iff_eq] at hI⊢
  refine ⟨hI.1, ?_⟩
  rcases hI.2 with h1|⟨h1,h2⟩
  ·exact .inl h1
  ·by_cases hu:((cM t i).1==1)=true
   ·right
    have hu':oa (cM t i) (cM t i).2.1=true:=by unfold oa;rw [hu];simp
    refine P2 t _ i hu' (fun j hj huj=> ?_) 8 0 h2 (Xn _ i hi)
    have hJ:=h j hj
    unfold nV at hJ
    unfold oa at huj
    simp only [Bool.and_eq_true,decide_eq_true_eq] at huj
    simp only [Bool.and_eq_true,Bool.or_eq_true,Bool.not_eq_true',beq_iff_eq] at hJ
    rcases hJ.2 with h3|⟨h3,_⟩
    ·rw [huj.1] at h3;cases h3
    ·rw [huj.2] at h3;omega
   ·exact .inl (by simpa using hu)
 ·intro h i hi
  have hI:=h i hi
  unfold l4 at hI
  unfold nV
  simp only [Bool.and_eq_true,Bool.or_eq_true,Bool.not_eq_true',beq_iff_eq] at hI⊢
  refine ⟨hI.1, ?_⟩
  rcases hI.2 with h1|h1
  ·exact .inl h1
  ·right
   obtain ⟨hu,hc,_⟩:=HK t _ i 8 0 h1
   refine ⟨?_,hc⟩
   obtain ⟨j,hj,huj,e⟩:=Cv (cM t i).2.1 t 0 ⟨i,by omega,hu⟩
   have hJ:=h j (by omega)
   unfold l4 at hJ
   unfold oa at huj
   simp only [Bool.and_eq_true,decide_eq_true_eq] at huj
   simp only [Bool.and_eq_true,Bool.or_eq_true,Bool.not_eq_true',beq_iff_eq] at hJ
   rcases hJ.2 with h3|h3
   ·rw [huj.1] at h3;cases h3
   ·rw [huj.2,h1] at h3
    have e':vR (cM t i).2.1 t 0=((0+j:Nat):Int):=e
    rw [e'];omega
theorem QN (t:List Slot):oE t=some (yh t):=by
 rw [Nz,yh]
 by_cases ht:t.length=8
 ·rw [Oe t ht]
 ·have e2:(t.length==8)=false:=by simp [ht]
  rw [e2];rfl
def PL (n:Int):Bool:=(n==1)||(n==2)||(n==4)||(n==8)||(n==16)
theorem NJ (n:Int):sK n=some (PL n):=by
 simp only [sK,aH,ab,PL]
 cases (n==1)<;>cases (n==2)<;>cases (n==4)<;>cases (n==8)<;>rfl
def wY (s:fU)(q:Int):Bool:=bp q 1 4&&((s.1.length:Int)==16)&&PL s.2.length&&s.2.all fun x=>bp x 0 (q-1)
theorem FP (s:fU)(q:Int)(h:s.2.length≤1000000000):qX s q=some (wY s q):=by
 unfold qX wY
 simp only [bh,NJ,ab,aH,bne]
 by_cases hq:bp q 1 4=true
 ·rw [lF (hit:=some false) (fin:=some true) (fun x=>bp x 0 (q-1)) s.2 (by omega) (fun i hi nx=> ?hs) (fun nx=> ?hf)]
  case hs=>
   rw [aQ] at hq
   simp only [l9]
   rw [decide_eq_true (by omega),ax hi,wrap64 (n:=(i:Int)+1) (by omega) (by omega),wrap64 (n:=q-1) (by omega) (by omega)]
   simp only [cond_true,ab,bh];rfl
  case hf=>
   simp only [l9]
   rw [decide_eq_false (by omega)];rfl
  rw [hq]
  cases ((s.1.length:Int)==16)<;>cases PL s.2.length<;>cases s.2.all (fun x=>bp x 0 (q-1))<;>rfl
 ·have hq':bp q 1 4=false:=by simpa using hq
  rw [hq'];rfl
theorem Ny (s:fU)(q:Int)(h:s.2.length≤1000000000):uU s q=some (wY s q):=by
 rw [←FP s q h];rfl
def iR (s:cd)(q:Int):Bool:=zX s.1&&yh s.2.1&&wY s.2.2 q&&s.1.all (fun r=> !(decide (r.2.2.2.2.2.2.2.2≥q)))&&s.2.1.all (fun x=> !(decide (x.2.2≥q)))
theorem JN (s:cd)(q:Int)(h1:s.1.length≤1000000000)(h2:s.2.1.length≤1000000000)(h3:s.2.2.2.length≤1000000000):nz s q=some (iR s q):=by
 unfold nz iR
 simp only [Hz _ h1,RR,FP _ _ h3,ab,aH]
 rw [lF (hit:=some false) (fin:=cond (s.2.1.all (fun x=> !(decide (x.2.2≥q)))) (some true) (some false)) (fun r:di=> !(decide (r.2.2.2.2.2.2.2.2≥q))) s.1 (by omega) (fun i hi nx=> ?hs) (fun nx=> ?hf)]
 case hs=>
  simp only [jy]
  rw [decide_eq_true (by omega),ax hi,wrap64 (by omega) (by omega)]
  simp only [cond_true,ab,Bool.not_not];rfl
 case hf=>
  simp only [jy]
  rw [decide_eq_false (by omega)]
  simp only [cond_false]
  rw [lF (hit:=some false) (fin:=some true) (fun x:Slot=> !(decide (x.2.2≥q))) s.2.1 (by omega) (fun i hi nx=> ?hs) (fun nx=> ?hf)]
  case hs=>
   simp only [jz]
   rw [decide_eq_true (by omega),ax hi,wrap64 (by omega) (by omega)]
   simp only [cond_true,ab,Bool.not_not];rfl
  case hf=>
   simp only [jz]
   rw [decide_eq_false (by omega)];rfl
 cases zX s.1<;>cases yh s.2.1<;>cases wY s.2.2 q<;>cases s.1.all (fun r=> !(decide (r.2.2.2.2.2.2.2.2≥q)))<;>cases s.2.1.all (fun x=> !(decide (x.2.2≥q)))<;>rfl
theorem I8 (s:cd)(q:Int)(h1:s.1.length≤1000000000)(h2:s.2.1.length≤1000000000)(h3:s.2.2.2.length≤1000000000):m9 s q=some (iR s q):=by
 unfold m9 iR
 simp only [QK _ h1,QN,Ny _ _ h3,ab,aH]
 rw [lF (hit:=some false) (fin:=cond (s.2.1.all (fun x=> !((x.1==1)&&decide (x.2.2≥q)))) (some true) (some false)) (fun r:di=> !((r.2.2.2.2.2.2.2.1==0)&&decide (r.2.2.2.2.2.2.2.2≥q))) s.1 (by omega) (fun i hi nx=> ?hs) (fun nx=> ?hf)]
 case hs=>
  simp only [jj]
  rw [decide_eq_true (by omega),ax hi,wrap64 (by omega) (by omega)]
  simp only [cond_true,ab,Bool.not_not,aH]
  cases (s.1[i].2.2.2.2.2.2.2.1==0)<;>rfl
 case hf=>
  simp only [jj]
  rw [decide_eq_false (by omega)]
  simp only [cond_false]
  rw [lF (hit:=some false) (fin:=some true) (fun x:Slot=> !((x.1==1)&&decide (x.2.2≥q))) s.2.1 (by omega) (fun i hi nx=> ?hs) (fun nx=> ?hf)]
  case hs=>
   simp only [g8]
   rw [decide_eq_true (by omega),ax hi,wrap64 (by omega) (by omega)]
   simp only [cond_true,ab,Bool.not_not,aH]
   cases (s.2.1[i].1==1)<;>rfl
  case hf=>
   simp only [g8]
   rw [decide_eq_false (by omega)];rfl
 cases hr:zX s.1 with
 |false=>rfl
 |true=>
  cases ht:yh s.2.1 with
  |false=>rfl
  |true=>
   cases hs:wY s.2.2 q with
   |false=>rfl
   |true=>
    have hq:1≤q:=by
     unfold wY at hs
     simp only [Bool.and_eq_true,aQ] at hs
     exact hs.1.1.1.1
    have e1:s.1.all (fun r=> !((r.2.2.2.2.2.2.2.1==0)&&decide (r.2.2.2.2.2.2.2.2≥q)))=s.1.all (fun r=> !(decide (r.2.2.2.2.2.2.2.2≥q))):=by
     unfold zX at hr
     simp only [Bool.and_eq_true,List.all_eq_true] at hr
     rw [Bool.eq_iff_iff,List.all_eq_true,List.all_eq_true]
     refine forall_congr' fun r=>forall_congr' fun hm=> ?_
     rcases L1 (hr.1 r hm) with h0|h0
     ·rw [h0];simp
     ·rw [h0]
      simp only [decide_eq_false (show¬(0:Int)≥q by omega),Bool.and_false]
    have e2:s.2.1.all (fun x=> !((x.1==1)&&decide (x.2.2≥q)))=s.2.1.all (fun x=> !(decide (x.2.2≥q))):=by
     unfold yh at ht
     simp only [Bool.and_eq_true,List.all_eq_true,List.mem_range,beq_iff_eq] at ht
     rw [Bool.eq_iff_iff,List.all_eq_true,List.all_eq_true]
     refine forall_congr' fun x=>forall_congr' fun hm=> ?_
     obtain ⟨i,hi,rfl⟩:=List.mem_iff_getElem.1 hm
     have hsl:=ht.2 i (by omega)
     unfold l4 Mb at hsl
     rw [vE hi] at hsl
     simp only [Bool.and_eq_true,Bool.or_eq_true,beq_iff_eq] at hsl
     rcases hsl.1.2 with h0|⟨h0,_⟩
     ·rw [h0];simp
     ·rw [h0]
      simp only [decide_eq_false (show¬(0:Int)≥q by omega),Bool.and_false]
    rw [e1,e2]
    cases s.1.all (fun r=> !(decide (r.2.2.2.2.2.2.2.2≥q)))<;>cases s.2.1.all (fun x=> !(decide (x.2.2≥q)))<;>rfl
end
end Go.Pu
end
section
namespace Go.Pu
open Go.Dn
set_option linter.unusedSimpArgs false
set_option linter.unusedVariables false
noncomputable section
def cR (m:List Bytes):Bool:=m.all (fun x=>(x.length:Int)==128)&&decide ((m.length:Int)≤64)
theorem wT (m:List Bytes)(h:m.length≤1000000000):kg m=some (cR m):=by
 unfold kg cR
 rw [lF (hit:=some false) (fin:=some (decide ((m.length:Int)≤64))) (fun x:Bytes=>(x.length:Int)==128) m (by omega) (fun i hi nx=> ?hs) (fun nx=> ?hf)]
 case hs=>
  simp only [l7]
  rw [decide_eq_true (by omega),ax hi,wrap64 (by omega) (by omega)];rfl
 case hf=>
  simp only [l7]
  rw [decide_eq_false (by omega)];rfl
 cases m.all (fun x=>(x.length:Int)==128)<;>rfl
theorem zP (m:List Bytes)(h:m.length≤1000000000):mD m=some (cR m):=wT m h
def Gv:ae:=(0,0,0,false)
def BU (m:ae):Bool:=bp m.1 0 7&&(bp m.2.1 0 1023&&bp m.2.2.1 0 63)
def ml (d p:Int)(m:ae):Bool:=(m.1==d)&&(m.2.1==p)
def Lv (l:List ae)(i:Nat):Bool:=BU (l.getD i Gv)&&(List.range i).all (fun j=> !(ml (l.getD i Gv).1 (l.getD i Gv).2.1 (l.getD j Gv)))
def cD (l:List ae):Bool:=decide ((l.length:Int)≤96)&&(List.range l.length).all (Lv l)
theorem Bf (l:List ae)(h:l.length≤1000000000):jP l=some (cD l):=by
 unfold jP cD
 rw [jU (hit:=some false) (fin:=some true) (Lv l) l.length (by omega) (fun i nx hi=> ?hs) (fun nx=> ?hf)]
 case hs=>
  simp only [ju]
  rw [decide_eq_true (by omega),ax hi,wrap64 (by omega) (by omega)]
  simp only [cond_true,ab,bh,aH]
  rw [jU (hit:=some false) (fin:=nx ((i:Int)+1)) (fun j=> !(ml l[i].1 l[i].2.1 (l.getD j Gv))) i (by omega) (fun j nx hj=> ?hs2) (fun nx=> ?hf2)]
  case hs2=>
   have hjl:j<l.length:=by omega
   simp only [ib]
   rw [decide_eq_true (by omega),ax hjl,wrap64 (by omega) (by omega)]
   simp only [cond_true,ab,aH,bB hjl,ml,cF,Bool.not_not];rfl
  case hf2=>
   simp only [ib]
   rw [decide_eq_false (by omega)];rfl
  simp only [Lv,BU,bB hi,cT]
  cases bp l[i].1 0 7<;>cases bp l[i].2.1 0 1023<;>cases bp l[i].2.2.1 0 63<;>cases (List.range i).all (fun j=> !(ml l[i].1 l[i].2.1 (l.getD j Gv)))<;>rfl
 case hf=>
  simp only [ju]
  rw [decide_eq_false (by omega)];rfl
 have e:decide ((l.length:Int)>96)= !decide ((l.length:Int)≤96):=by rw [Bool.eq_iff_iff];simp
 rw [e]
 cases decide ((l.length:Int)≤96)<;>cases (List.range l.length).all (Lv l)<;>rfl
def LP (l:List ae)(d p:Int):Int:=match l.findIdx? (ml d p) with|some i=>(i:Int)|none=> -1
theorem Lj (l:List ae)(d p:Int)(h:l.length≤1000000000):iv l d p=some (LP l d p):=by
 unfold iv LP
 rw [yw (hit:=fun i=>some i) (fin:=some (-1)) (ml d p) l (by omega) (fun i hi nx=> ?hs) (fun nx=> ?hf)]
 case hs=>
  simp only [hU]
  rw [decide_eq_true (by omega),ax hi,wrap64 (by omega) (by omega)]
  simp only [cond_true,ab,aH,cF,ml];rfl
 case hf=>
  simp only [hU]
  rw [decide_eq_false (by omega)];rfl
 cases l.findIdx? (ml d p)<;>rfl
theorem N6 (l:List ae)(i:Nat)(hi:i<l.length):(LP l l[i].1 l[i].2.1==(i:Int))=(List.range i).all (fun j=> !(ml l[i].1 l[i].2.1 (l.getD j Gv))):=by
 have hself:ml l[i].1 l[i].2.1 l[i]=true:=by simp [ml]
 unfold LP
 cases hq:l.findIdx? (ml l[i].1 l[i].2.1) with
 |none=>
  rw [List.findIdx?_eq_none_iff] at hq
  rw [hq l[i] (List.getElem_mem hi)] at hself;cases hself
 |some k=>
  rw [List.findIdx?_eq_some_iff_getElem] at hq
  obtain ⟨hk,hpk,hlt⟩:=hq
  rw [Bool.eq_iff_iff,List.all_eq_true]
  simp only [List.mem_range,beq_iff_eq,Bool.not_eq_true']
  constructor
  ·intro e j hj
   have hjl:j<l.length:=by omega
   rw [bB hjl]
   have:=hlt j (by omega)
   simpa using this
  ·intro hall
   rcases Nat.lt_trichotomy k i with hki|hki|hki
   ·have:=hall k hki
    rw [bB hk,hpk] at this;cases this
   ·omega
   ·have:=hlt i hki
    rw [hself] at this;simp at this
theorem Az (l:List ae)(h:l.length≤1000000000):jI l=some (cD l):=by
 unfold jI cD
 rw [jU (hit:=some false) (fin:=some (decide ((l.length:Int)≤96))) (Lv l) l.length (by omega) (fun i nx hi=> ?hs) (fun nx=> ?hf)]
 case hs=>
  simp only [jf]
  rw [decide_eq_true (by omega),ax hi,wrap64 (by omega) (by omega)]
  simp only [cond_true,ab,bm,aH,Lj _ _ _ h,bne,N6 l i hi,Lv,BU,bB hi]
  cases bp l[i].1 0 7<;>cases bp l[i].2.1 0 1023<;>cases bp l[i].2.2.1 0 63<;>cases (List.range i).all (fun j=> !(ml l[i].1 l[i].2.1 (l.getD j Gv)))<;>rfl
 case hf=>
  simp only [jf]
  rw [decide_eq_false (by omega)];rfl
 cases decide ((l.length:Int)≤96)<;>cases (List.range l.length).all (Lv l)<;>rfl
def K1 (n:Int)(l:List Int)(i:Nat):Bool:=bp (l.getD i 0) 0 (n-1)&& !((l.take i).contains (l.getD i 0))
def du (p:aV):Bool:=bp p.1 0 130944&&(bp p.2.1 1 512&&(bp p.2.2.1 0 16&&(List.range p.2.2.2.length).all (K1 p.2.2.1 p.2.2.2)))
def xy (n:Int)(l:List Int):List Bool:=(List.range n.toNat).map fun k:Nat=>l.contains (k:Int)
theorem Ht (n:Int)(l:List Int):(xy n l).length=n.toNat:=by simp [xy]
theorem yL (n:Int)(l:List Int)(k:Nat)(h:k<(xy n l).length):(xy n l)[k]=l.contains (k:Int):=by simp [xy]
theorem RE (n:Int)(l:List Int)(k:Nat)(h:k<n.toNat):(xy n l).set k true=xy n (l++[(k:Int)]):=by
 apply List.ext_getElem
 ·simp [xy]
 ·intro j h1 h2
  rw [List.getElem_set]
  split
  ·rename_i e;subst e;rw [yL];simp
  ·rename_i e
   rw [yL,yL]
   simp only [List.contains_append]
   have:([(k:Int)].contains (j:Int))=false:=by simp;omega
   rw [this];simp
theorem LR {T:(List Bool×Int→Option Bool)→List Bool×Int→Option Bool}(n:Int)(l:List Int)(hl:l.length≤1000000000)
 (hs:∀i (hi:i<l.length)(s:List Bool) nx,T nx (s,(i:Int))=aa (cond (!(bp l[i] 0 (n-1))) (some true) (aa (idx s l[i]) fun x=>some x)) fun q=>
  cond q (some false) (aa (idx s l[i]) fun _=>aa (idx s l[i]) fun _=>nx (s.set l[i].toNat true,((i+1:Nat):Int)))) (hf:∀s nx,T nx (s,(l.length:Int))=some true):
 aq T fuel (List.replicate n.toNat false,0)=some ((List.range l.length).all (K1 n l)):=by
 have e0:(List.replicate n.toNat false,(0:Int))=(xy n (l.take 0),((0:Nat):Int)):=by
  congr 1
  simp only [xy,List.take_zero,List.contains_nil,List.map_const',List.length_range]
 rw [e0,Bx (hit:=some false) (fin:=some true) (fun i=>(xy n (l.take i),(i:Int))) (K1 n l) l.length (by omega) (fun i nx hi hp=> ?hs) (fun _ nx=>hf _ nx)]
 case hs=>
  rw [hs i hi]
  unfold K1
  rw [bB hi]
  by_cases hin:bp l[i] 0 (n-1)=true
  ·have hb:=hin
   rw [aQ] at hb
   obtain ⟨k,hk⟩:∃k:Nat,l[i]=(k:Int):=⟨l[i].toNat,by omega⟩
   have hkn:k<(xy n (l.take i)).length:=by rw [Ht];omega
   rw [hin,hk,ax hkn,yL]
   simp only [Bool.not_true,cond_false,ab,Bool.true_and,Bool.not_not,Int.toNat_natCast]
   rw [RE _ _ _ (by rw [Ht] at hkn;exact hkn),←hk,←List.take_succ_eq_append_getElem hi]
  ·have hin':bp l[i] 0 (n-1)=false:=by simpa using hin
   rw [hin'];rfl
 cases (List.range l.length).all (K1 n l)<;>rfl
theorem ua (p:aV)(h:p.2.2.2.length≤1000000000):fj p=some (du p):=by
 unfold fj du
 simp only [bh,ab,aH]
 by_cases hn:bp p.2.2.1 0 16=true
 ·have hb:=hn
  rw [aQ] at hb
  rw [if_pos (by omega),ao (by omega),LR p.2.2.1 p.2.2.2 h (fun i hi s nx=> ?hs) (fun s nx=> ?hf)]
  case hs=>
   simp only [pM]
   rw [decide_eq_true (by omega),ax hi,wrap64 (n:=(i:Int)+1) (by omega) (by omega),wrap64 (n:=p.2.2.1-1) (by omega) (by omega)]
   simp only [cond_true,ab,bh];rfl
  case hf=>
   simp only [pM]
   rw [decide_eq_false (by omega)];rfl
  rw [hn]
  cases bp p.1 0 130944<;>cases bp p.2.1 1 512<;>rfl
 ·have hn':bp p.2.2.1 0 16=false:=by simpa using hn
  rw [hn']
  cases bp p.1 0 130944<;>cases bp p.2.1 1 512<;>rfl
theorem tj (p:aV)(h:p.2.2.2.length≤1000000000):fe p=some (du p):=by
 unfold fe du
 simp only [bm,ab,aH]
 by_cases hn:bp p.2.2.1 0 16=true
 ·have hb:=hn
  rw [aQ] at hb
  rw [if_pos (by omega),ao (by omega),LR p.2.2.1 p.2.2.2 h (fun i hi s nx=> ?hs) (fun s nx=> ?hf)]
  case hs=>
   simp only [oD]
   rw [decide_eq_true (by omega),ax hi,wrap64 (n:=(i:Int)+1) (by omega) (by omega),wrap64 (n:=p.2.2.1-1) (by omega) (by omega)]
   simp only [cond_true,ab,bm];rfl
  case hf=>
   simp only [oD]
   rw [decide_eq_false (by omega)];rfl
  rw [hn]
  cases bp p.1 0 130944<;>cases bp p.2.1 1 512<;>rfl
 ·have hn':bp p.2.2.1 0 16=false:=by simpa using hn
  rw [hn']
  cases bp p.1 0 130944<;>cases bp p.2.1 1 512<;>rfl
def fy (n:Int):Bool:=(n==2)||((n==4)||((n==8)||(n==16)))
theorem wj (n:Int):mf n=some (fy n):=by
 simp only [mf,aH,ab,fy,cT]
theorem xW (n:Int):mJ n=some (fy n):=wj n
theorem gQ {n:Int}:fy n=true↔n=2∨n=4∨n=8∨n=16:=by simp [fy]
theorem vJ (x:Int)(k:Nat)(hk:k≤64):IntKind.wrap .i64 x%(2^k:Int)=x%(2^k:Int):=by
 obtain ⟨c,hc⟩:∃c:Int,(18446744073709551616:Int)=2^k*c:=⟨2^(64-k),by rw [←Int.pow_add,show k+(64-k)=64 by omega];rfl⟩
 have:IntKind.wrap .i64 x=x∨∃q:Int,IntKind.wrap .i64 x=x+18446744073709551616*q:=by
  right
  simp only [IntKind.wrap,IntKind.bits,IntKind.signed]
  simp
  have h1:x=x%18446744073709551616+18446744073709551616*(x/18446744073709551616):=by omega
  split
  ·exact ⟨-(x/18446744073709551616)-1,by omega⟩
  ·exact ⟨-(x/18446744073709551616),by omega⟩
 rcases this with h|⟨q,h⟩
 ·rw [h]
 ·rw [h,hc,Int.mul_assoc,Int.add_mul_emod_self_left]
theorem u6 (x:Int)(k:Nat)(hk:k<63):((BitVec.ofInt (IntKind.bits .i64) x&&&BitVec.ofInt (IntKind.bits .i64) (2^k-1)).toNat:Int)=x%2^k:=by
 have h2:(2:Int)^k≤2^62:=by
  have:(2:Nat)^k≤2^62:=Nat.pow_le_pow_right (by omega) (by omega)
  exact_mod_cast this
 have h0:(1:Int)≤2^k:=by
  have:1≤(2:Nat)^k:=Nat.one_le_two_pow
  exact_mod_cast this
 have hm:(BitVec.ofInt (IntKind.bits .i64) (2^k-1)).toNat=2^k-1:=by
  show (BitVec.ofInt 64 (2^k-1)).toNat=2^k-1
  rw [BitVec.toNat_ofInt,Int.emod_eq_of_lt (by omega) (by omega)]
  have:((2:Int)^k-1)=((2^k-1:Nat):Int):=by
   have:1≤(2:Nat)^k:=Nat.one_le_two_pow
   push_cast [this];rfl
  rw [this];rfl
 rw [BitVec.toNat_and,hm,Nat.and_two_pow_sub_one_eq_mod]
 show (((BitVec.ofInt 64 x).toNat%2^k:Nat):Int)=x%2^k
 rw [BitVec.toNat_ofInt]
 have hx:0≤x%18446744073709551616:=by omega
 have e:(((x%18446744073709551616).toNat%2^k:Nat):Int)=(x%18446744073709551616)%2^k:=by
  push_cast
  rw [Int.toNat_of_nonneg hx]
 refine e.trans ?_
 exact Int.emod_emod_of_dvd x ⟨2^(64-k),by rw [←Int.pow_add,show k+(64-k)=64 by omega];rfl⟩
theorem BZ (x n:Int)(h0:0<n)(h1:n≤4611686018427387904):dx x n=some (x%n):=by
 unfold dx
 have:=Int.emod_nonneg x (show n≠0 by omega)
 have:=Int.emod_lt_of_pos x h0
 have hn:(n.natAbs:Int)=n:=by omega
 rw [if_neg (by omega),Int.tmod_eq_emod]
 split
 ·rw [decide_eq_false (by omega)];simp
 ·rw [decide_eq_true (by omega),wrap64 (by omega) (by omega)];simp only [cond_true,hn];congr 1;omega
def aN (r:(Int×Int×Int×Int)):Int:=if fy r.2.1 then (r.2.2.2-r.2.2.1)%(2*r.2.1) else 0
theorem rJ (r:(Int×Int×Int×Int)):dL r=some (aN r):=by
 unfold dL aN
 rw [wj,ab]
 cases hs:fy r.2.1 with
 |false=>rfl
 |true=>
  simp only [Bool.not_true,cond_false,if_true]
  congr 1
  rcases gQ.1 hs with h|h|h|h<;>rw [h]
  ·have e:IntKind.wrap .i64 (IntKind.wrap .i64 (2*2)-1)=2^2-1:=by decide
   rw [e,u6 _ 2 (by omega),vJ _ 2 (by omega),wrap64 (by omega) (by omega)];rfl
  ·have e:IntKind.wrap .i64 (IntKind.wrap .i64 (2*4)-1)=2^3-1:=by decide
   rw [e,u6 _ 3 (by omega),vJ _ 3 (by omega),wrap64 (by omega) (by omega)];rfl
  ·have e:IntKind.wrap .i64 (IntKind.wrap .i64 (2*8)-1)=2^4-1:=by decide
   rw [e,u6 _ 4 (by omega),vJ _ 4 (by omega),wrap64 (by omega) (by omega)];rfl
  ·have e:IntKind.wrap .i64 (IntKind.wrap .i64 (2*16)-1)=2^5-1:=by decide
   rw [e,u6 _ 5 (by omega),vJ _ 5 (by omega),wrap64 (by omega) (by omega)];rfl
theorem tk (r:(Int×Int×Int×Int)):dH r=some (aN r):=by
 unfold dH aN
 rw [xW,ab]
 cases hs:fy r.2.1 with
 |false=>rfl
 |true=>
  simp only [Bool.not_true,cond_false,if_true]
  have hb:=gQ.1 hs
  rw [wrap64 (n:=2*r.2.1) (by omega) (by omega)]
  have a1:=Int.emod_nonneg r.2.2.2 (show 2*r.2.1≠0 by omega)
  have a2:=Int.emod_lt_of_pos r.2.2.2 (show 0<2*r.2.1 by omega)
  have a3:=Int.emod_nonneg r.2.2.1 (show 2*r.2.1≠0 by omega)
  have a4:=Int.emod_lt_of_pos r.2.2.1 (show 0<2*r.2.1 by omega)
  simp only [BZ _ (2*r.2.1) (show 0<2*r.2.1 by omega) (by omega),ab]
  rw [wrap64 (by omega) (by omega),←Int.sub_emod]
def bR (r:(Int×Int×Int×Int)):Bool:=bp r.1 0 130944&&(fy r.2.1&&(bp r.2.2.1 0 (2*r.2.1-1)&&(bp r.2.2.2 0 (2*r.2.1-1)&&decide (aN r≤r.2.1))))
theorem yM {n:Int}(h:fy n=true):IntKind.wrap .i64 (IntKind.wrap .i64 (2*n)-1)=2*n-1:=by
 have:=gQ.1 h
 rw [wrap64 (n:=2*n) (by omega) (by omega),wrap64 (by omega) (by omega)]
theorem pC (r:(Int×Int×Int×Int)):dU r=some (bR r):=by
 unfold dU bR
 simp only [bh,wj,rJ,ab,aH,cF]
 cases hs:fy r.2.1 with
 |false=>rfl
 |true=>rw [yM hs]
theorem ri (r:(Int×Int×Int×Int)):dR r=some (bR r):=by
 unfold dR bR
 simp only [bm,xW,tk,ab,aH,cF]
 cases hs:fy r.2.1 with
 |false=>rfl
 |true=>rw [yM hs]
theorem tt (p:aV)(h:p.2.2.2.length≤1000000000):eY p=some p:=by
 unfold eY
 rw [ao (by simp;omega)];rfl
theorem kV (l:List Int)(h:l.length≤1000000000):cW l=some l:=by
 unfold cW
 rw [ao (by simp;omega)];rfl
theorem re (p:aV)(h:p.2.2.2.length≤1000000000):dI p=some p:=by
 unfold dI
 rw [kV _ h];rfl
def Jq (p:aV)(l:List Int):aV:=(p.1,p.2.1,p.2.2.1,p.2.2.2++l)
def xJ (p:aV)(l:List Int):Bool:=du p&&du (Jq p l)
def BJ (p:aV)(l:List Int):aV×Bool:=bif xJ p l then (Jq p l,true) else (p,false)
theorem FL (p:aV)(l:List Int)(h:p.2.2.2.length+l.length≤1000000000):cO p l=some (BJ p l):=by
 unfold cO
 rw [tt p (by omega),ab,ao (by omega),ua p (by omega)]
 rw [ua (p.1,p.2.1,p.2.2.1,p.2.2.2++l) (by simp;omega)]
 simp only [ab,aH,BJ,xJ]
 show _=some (bif du p&&du (p.1,p.2.1,p.2.2.1,p.2.2.2++l) then _ else _)
 cases du p<;>cases du (p.1,p.2.1,p.2.2.1,p.2.2.2++l)<;>rfl
theorem EX (p:aV)(l:List Int)(h:p.2.2.2.length+l.length≤1000000000):cx p l=some (BJ p l):=by
 unfold cx
 rw [re p (by omega),ab,ao (by omega),tj p (by omega)]
 rw [tj (p.1,p.2.1,p.2.2.1,p.2.2.2++l) (by simp;omega)]
 simp only [ab,aH,BJ,xJ]
 show _=some (bif du p&&du (p.1,p.2.1,p.2.2.1,p.2.2.2++l) then _ else _)
 cases du p<;>cases du (p.1,p.2.1,p.2.2.1,p.2.2.2++l)<;>rfl
theorem SO (p:aV)(l:List Int):(BJ p l).2=xJ p l:=by unfold BJ;cases xJ p l<;>rfl
def gE (n:Int)(s:cy):Bool:=bp s.2.1 1 n&&bp s.1 0 65535
def aP (l:List cy):List Int:=l.flatMap (·.2.2)
def ec (l:List cy):Int:=(l.map (·.2.1)).sum
def P0 (t:aZ):Bool:=bR t.1&&(du t.2.1&&(bp t.2.2.2 0 65535&&(t.2.2.1.all (gE t.1.2.1)&&(xJ t.2.1 (aP t.2.2.1)&&decide (ec t.2.2.1≤t.1.2.1)))))
theorem Aj (n:Int):∀l:List cy,l.all (gE n)=true→0≤ec l
 |[],_=>by simp [ec]
 |x::l,h=>by
  simp only [List.all_cons,Bool.and_eq_true] at h
  have:=Aj n l h.2
  have hx:=h.1
  unfold gE at hx
  simp only [Bool.and_eq_true,aQ] at hx
  simp only [ec,List.map_cons,List.sum_cons] at this⊢
  omega
theorem HA (p:aV)(n:Int)(hn:0≤n∧n≤16)(fin:Int×List Int→Option Bool)(hfin:∀s:Int×List Int,p.2.2.2.length+s.2.length≤1000000000→fin s=some (xJ p s.2&&decide (s.1≤n))):
 ∀(l:List cy)(sum:Int)(acc:List Int),0≤sum→sum+16*l.length≤100000000000→p.2.2.2.length+(acc.length+(aP l).length)≤1000000000→
 rh (fun x (s:Int×List Int) k=>cond (!(gE n x)) (some false) (room (s.2.length+x.2.2.length) (k (IntKind.wrap .i64 (s.1+x.2.1),s.2++x.2.2)))) fin l (sum,acc)
  =some (l.all (gE n)&&(xJ p (acc++aP l)&&decide (sum+ec l≤n)))
 |[],sum,acc,h0,h1,h2=>by
  rw [rh,hfin _ (by simp [aP] at h2;exact h2)]
  simp [aP,ec]
 |x::l,sum,acc,h0,h1,h2=>by
  have hb:aP (x::l)=x.2.2++aP l:=by simp [aP]
  rw [hb,List.length_append] at h2
  rw [rh,List.all_cons]
  cases hx:gE n x with
  |false=>rfl
  |true=>
   have hx':=hx
   unfold gE at hx'
   simp only [Bool.and_eq_true,aQ] at hx'
   simp only [List.length_cons,Int.natCast_add,Int.natCast_one] at h1
   simp only [Bool.not_true,cond_false,Bool.true_and]
   rw [ao (by omega),wrap64 (by omega) (by omega),HA p n hn fin hfin l _ _ (by omega) (by omega) (by rw [List.length_append];omega)]
   rw [hb,List.append_assoc]
   have e:sum+x.2.1+ec l=sum+ec (x::l):=by simp only [ec,List.map_cons,List.sum_cons];omega
   rw [e]
theorem G7 (p:aV)(n:Int)(hn:n≤16)(fin:Int×List Int→Option Bool)(hfin:∀s:Int×List Int,p.2.2.2.length+s.2.length≤1000000000→fin s=some (xJ p s.2)):
 ∀(l:List cy)(left:Int)(acc:List Int),0≤left→left≤n→p.2.2.2.length+(acc.length+(aP l).length)≤1000000000→
 rh (fun x (s:Int×List Int) k=>cond (decide (x.2.1<1)||(decide (x.2.1>s.1)|| !(bp x.1 0 65535))) (some false) (room (s.2.length+x.2.2.length) (k (IntKind.wrap .i64 (s.1-x.2.1),s.2++x.2.2)))) fin l (left,acc)
  =some (l.all (gE n)&&(xJ p (acc++aP l)&&decide (ec l≤left)))
 |[],left,acc,h0,h1,h2=>by
  rw [rh,hfin _ (by simp [aP] at h2;exact h2)]
  simp [aP,ec,h0]
 |x::l,left,acc,h0,h1,h2=>by
  have hb:aP (x::l)=x.2.2++aP l:=by simp [aP]
  have hc:ec (x::l)=x.2.1+ec l:=by simp only [ec,List.map_cons,List.sum_cons]
  rw [hb,List.length_append] at h2
  rw [rh,List.all_cons,hb,hc]
  by_cases c1:x.2.1<1
  ·have e:gE n x=false:=by unfold gE bp;rw [decide_eq_false (show¬1≤x.2.1 by omega)];rfl
   rw [e,decide_eq_true c1];rfl
  ·rw [decide_eq_false c1]
   by_cases c2:x.2.1>left
   ·rw [decide_eq_true c2]
    simp only [Bool.or_true,Bool.false_or,Bool.true_or,cond_true]
    cases ha:l.all (gE n) with
    |false=>simp
    |true=>
     have:=Aj n l ha
     rw [decide_eq_false (show¬x.2.1+ec l≤left by omega)];simp
   ·rw [decide_eq_false c2]
    have e:gE n x=bp x.1 0 65535:=by
     have:bp x.2.1 1 n=true:=aQ.2 ⟨by omega,by omega⟩
     unfold gE;rw [this];rfl
    rw [e]
    cases bp x.1 0 65535 with
    |false=>rfl
    |true=>
     simp only [Bool.false_or,Bool.not_true,cond_false,Bool.true_and]
     rw [ao (by omega),wrap64 (by omega) (by omega),G7 p n hn fin hfin l _ _ (by omega) (by omega) (by rw [List.length_append];omega),List.append_assoc]
     have e:decide (ec l≤left-x.2.1)=decide (x.2.1+ec l≤left):=by rw [Bool.eq_iff_iff];simp;omega
     rw [e]
theorem Ud (t:aZ)(h1:t.2.2.1.length≤1000000000)(h2:t.2.1.2.2.2.length+(aP t.2.2.1).length≤1000000000):vF t=some (P0 t):=by
 unfold vF P0
 simp only [pC,ua _ (show t.2.1.2.2.2.length≤1000000000 by omega),bh,ab,aH]
 cases hr:bR t.1 with
 |false=>rfl
 |true=>
  have hn:0≤t.1.2.1∧t.1.2.1≤16:=by
   unfold bR at hr
   simp only [Bool.and_eq_true] at hr
   have:=gQ.1 hr.2.1
   omega
  have hfu:=bl
  have key:=sZ (R:=Bool) (T:=pO (fun (y9:Int) (y10:List Int) (_:Int)=>aa (cO t.2.1 y10) fun r12=>some (bif r12.2 then decide (y9≤t.1.2.1) else false))
   (fun (y14:Bool) (_:Int) (_:List Int) (_:Int)=>some y14) false t) t.2.2.1 (fun (s:Int×List Int) i=>(s.1,s.2,(i:Int)))
   (fun x (s:Int×List Int) k=>cond (!(gE t.1.2.1 x)) (some false) (room (s.2.length+x.2.2.length) (k (IntKind.wrap .i64 (s.1+x.2.1),s.2++x.2.2))))
   (fun s=>aa (cO t.2.1 s.2) fun r12=>some (r12.2&&decide (s.1≤t.1.2.1)))
   (fun i hi s nx=>by
    simp only [pO]
    rw [decide_eq_true (by omega),ax hi,wrap64 (n:=(i:Int)+1) (by omega) (by omega)]
    simp only [cond_true,ab,bh,aH,gE]
    cases bp t.2.2.1[i].2.1 1 t.1.2.1<;>cases bp t.2.2.1[i].1 0 65535<;>rfl)
   (fun s nx=>by
    simp only [pO]
    rw [decide_eq_false (by omega)]
    simp only [cond_false,aH,ab,cF])
   fuel 0 (0,([]:List Int)) (by omega) (by omega)
  rw [List.drop_zero,HA t.2.1 t.1.2.1 hn _ (fun s hs=>by rw [FL _ _ hs,ab,SO]) _ _ _ (by omega) (by omega) (by simpa using h2)] at key
  cases du t.2.1 with
  |false=>rfl
  |true=>
   cases bp t.2.2.2 0 65535 with
   |false=>rfl
   |true=>
    refine key.trans ?_
    simp
theorem Tc (t:aZ)(h1:t.2.2.1.length≤1000000000)(h2:t.2.1.2.2.2.length+(aP t.2.2.1).length≤1000000000):vm t=some (P0 t):=by
 unfold vm P0
 simp only [ri,tj _ (show t.2.1.2.2.2.length≤1000000000 by omega),bm,ab,aH]
 cases hr:bR t.1 with
 |false=>rfl
 |true=>
  have hn:0≤t.1.2.1∧t.1.2.1≤16:=by
   unfold bR at hr
   simp only [Bool.and_eq_true] at hr
   have:=gQ.1 hr.2.1
   omega
  have hfu:=bl
  have key:=sZ (R:=Bool) (T:=oG (fun (_:Int) (y9:List Int) (_:Int)=>aa (cx t.2.1 y9) fun r11=>some r11.2)
   (fun (y12:Bool) (_:Int) (_:List Int) (_:Int)=>some y12) false t.2.2.1 ((List.length t.2.2.1:Int)) t) t.2.2.1 (fun (s:Int×List Int) i=>(s.1,s.2,(i:Int)))
   (fun x (s:Int×List Int) k=>cond (decide (x.2.1<1)||(decide (x.2.1>s.1)|| !(bp x.1 0 65535))) (some false) (room (s.2.length+x.2.2.length) (k (IntKind.wrap .i64 (s.1-x.2.1),s.2++x.2.2))))
   (fun s=>aa (cx t.2.1 s.2) fun r12=>some r12.2)
   (fun i hi s nx=>by
    simp only [oG]
    rw [decide_eq_true (by omega),ax hi,wrap64 (n:=(i:Int)+1) (by omega) (by omega)]
    simp only [cond_true,ab,bm,aH,cT]
    rfl)
   (fun s nx=>by
    simp only [oG]
    rw [decide_eq_false (by omega)];rfl)
   fuel 0 (t.1.2.1,([]:List Int)) (by omega) (by omega)
  rw [List.drop_zero,G7 t.2.1 t.1.2.1 (by omega) _ (fun s hs=>by rw [EX _ _ hs,ab,SO]) _ _ _ (by omega) (by omega) (by simpa using h2)] at key
  cases du t.2.1 with
  |false=>rfl
  |true=>
   cases bp t.2.2.2 0 65535 with
   |false=>rfl
   |true=>
    refine key.trans ?_
    simp
end
end Go.Pu
end
section
namespace Go.Pu
open Go.Dn
noncomputable section
def zY (s:bw):Bool:=bp s.2.1 0 65535&&(bp s.2.2.1 0 65535&&(!decide ((List.length s.2.2.2.2.2.2.2:Int)>320)&&
 (bif s.1==17 then (s.2.2.2.1==0)&&((s.2.2.2.2.1==0)&&((s.2.2.2.2.2.1==0)&&(s.2.2.2.2.2.2.1==0)))
  else (s.1==6)&&(bp s.2.2.2.1 0 4294967295&&(bp s.2.2.2.2.1 0 4294967295&&(bp s.2.2.2.2.2.1 0 31&&bp s.2.2.2.2.2.2.1 0 65535))))))
theorem PN (s:bw):lA s=some (zY s):=by
 simp only [lA,bh,ab,aH,cF,cT,cN,Bool.not_or,Bool.not_not,Bool.and_assoc,zY]
theorem Pt (s:bw):kZ s=some (zY s):=by
 simp only [kZ,bm,ab,aH,cF,cT,cN,Bool.not_or,Bool.not_not,Bool.and_assoc,zY]
 by_cases h:s.1=17
 ·rw [h];rfl
 ·rw [show (s.1==17)=false from by simpa using h]
  cases s.1==6<;>rfl
def EI (f:Int):Bool:=(f==16)||(f==17)||(f==24)||(f==25)
theorem Nh (f:Int)(h:bp f 0 31=true):(IntKind.wrap .i64 (BitVec.toNat (BitVec.ofInt (IntKind.bits .i64) f&&&~~~ BitVec.ofInt (IntKind.bits .i64) 9))==16)=EI f:=by
 have key:∀k:Fin 32,(IntKind.wrap .i64 (BitVec.toNat (BitVec.ofInt (IntKind.bits .i64) (k.val:Int)&&&~~~ BitVec.ofInt (IntKind.bits .i64) 9))==16)=EI (k.val:Int):=by decide
 rw [aQ] at h
 have:=key ⟨f.toNat,by omega⟩
 rwa [show ((f.toNat:Nat):Int)=f by omega] at this
theorem Ng (f:Int)(h:bp f 0 31=true):oN f=some (EI f):=by
 have key:∀k:Fin 32,((IntKind.wrap .i64 (BitVec.toNat (BitVec.ofInt (IntKind.bits .i64) (k.val:Int)&&&BitVec.ofInt (IntKind.bits .i64) 16)) !=0)&&(IntKind.wrap .i64 (BitVec.toNat (BitVec.ofInt (IntKind.bits .i64) (k.val:Int)&&&~~~ BitVec.ofInt (IntKind.bits .i64) 25))==0))=EI (k.val:Int):=by decide
 rw [aQ] at h
 have:=key ⟨f.toNat,by omega⟩
 rw [show ((f.toNat:Nat):Int)=f by omega] at this
 simp only [oN,aH,ab,cF]
 rw [this]
theorem Hu {s:bw}(h:zY s=true)(h6:(s.1==6)=true):bp s.2.2.2.2.2.1 0 31=true:=by
 have:s.1=6:=by simpa using h6
 unfold zY at h
 rw [this] at h
 simp only [Bool.and_eq_true] at h
 have h:=h.2.2.2
 simp at h
 exact h.2.2.1
def vi (p:aC):Bool:=bp p.1 0 281474976710655&&(bp p.2.1 0 281474976710655&&(bp p.2.2.1 (-1) 4095&&(bp p.2.2.2.1 0 255&&(bp p.2.2.2.2.2.1 0 255&&(bp p.2.2.2.2.1 0 65535&&(bp p.2.2.2.2.2.2.1 0 4294967295&&(bp p.2.2.2.2.2.2.2.1 0 4294967295&&zY p.2.2.2.2.2.2.2.2)))))))
def cu (p:aC):Bool:=vi p&&(decide ((List.length p.2.2.2.2.2.2.2.2.2.2.2.2.2.2.2:Int)≤128)||(p.2.2.2.2.2.2.2.2.1==6)&&EI p.2.2.2.2.2.2.2.2.2.2.2.2.2.1)
theorem ER {p:aC}(h:vi p=true):zY p.2.2.2.2.2.2.2.2=true:=by
 unfold vi at h
 simp only [Bool.and_eq_true] at h
 exact h.2.2.2.2.2.2.2.2
theorem s6 (p:aC):eX p=some (cu p):=by
 unfold eX cu
 simp only [bh,PN,ab,aH,cF,cT,cN,Bool.not_or,Bool.not_not]
 rw [show (bp p.1 0 281474976710655&&(bp p.2.1 0 281474976710655&&(bp p.2.2.1 (-1) 4095&&(bp p.2.2.2.1 0 255&&(bp p.2.2.2.2.2.1 0 255&&(bp p.2.2.2.2.1 0 65535&&(bp p.2.2.2.2.2.2.1 0 4294967295&&(bp p.2.2.2.2.2.2.2.1 0 4294967295&&zY p.2.2.2.2.2.2.2.2))))))))=vi p from rfl]
 cases hh:vi p with
 |false=>rfl
 |true=>
  cases h6:p.2.2.2.2.2.2.2.2.1==6 with
  |false=>simp
  |true=>
   rw [Nh _ (Hu (ER hh) h6)]
   simp [Bool.or_comm]
theorem sX (p:aC):eQ p=some (cu p):=by
 unfold eQ cu
 simp only [bm,Pt,ab]
 have e:∀X:Option Bool,(cond (bp p.1 0 281474976710655) (cond (bp p.2.1 0 281474976710655) (cond (bp p.2.2.1 (-1) 4095) (cond (bp p.2.2.2.1 0 255) (cond (bp p.2.2.2.2.2.1 0 255) (cond (bp p.2.2.2.2.1 0 65535) (cond (bp p.2.2.2.2.2.2.1 0 4294967295) (cond (bp p.2.2.2.2.2.2.2.1 0 4294967295) (cond (zY p.2.2.2.2.2.2.2.2) X (some false)) (some false)) (some false)) (some false)) (some false)) (some false)) (some false)) (some false)) (some false))=cond (vi p) X (some false):=by
  intro X
  unfold vi
  cases bp p.1 0 281474976710655 with|false=>rfl|true=> ?_
  cases bp p.2.1 0 281474976710655 with|false=>rfl|true=> ?_
  cases bp p.2.2.1 (-1) 4095 with|false=>rfl|true=> ?_
  cases bp p.2.2.2.1 0 255 with|false=>rfl|true=> ?_
  cases bp p.2.2.2.2.2.1 0 255 with|false=>rfl|true=> ?_
  cases bp p.2.2.2.2.1 0 65535 with|false=>rfl|true=> ?_
  cases bp p.2.2.2.2.2.2.1 0 4294967295 with|false=>rfl|true=> ?_
  cases bp p.2.2.2.2.2.2.2.1 0 4294967295<;>rfl
 rw [e]
 cases hh:vi p with
 |false=>rfl
 |true=>
  cases h6:p.2.2.2.2.2.2.2.2.1==6 with
  |false=>simp [aH]
  |true=>
   rw [Ng _ (Hu (ER hh) h6)]
   simp only [cond_true,ab,aH,cT,Bool.true_and]
def dj (q:(Int×Int×Int)):Bool:=bp q.1 0 130944&&(fy q.2.1&&bp q.2.2 0 (IntKind.wrap .i64 ((IntKind.wrap .i64 (2*q.2.1))-1)))
theorem Cl (q:(Int×Int×Int)):jx q=some (dj q):=by
 simp only [jx,bh,wj,ab,aH,cF,dj]
theorem BN (q:(Int×Int×Int)):ji q=some (dj q):=by
 simp only [ji,bm,xW,ab,aH,cF,dj]
def acw:xB:=((0,0,0,0,0,0,0,0,0,0,0,0,0,0,0,([]:Bytes)),0,0)
def Ue (p:xB):Bool:=(p.1.1==0)&&((p.1.2.1==0)&&((p.1.2.2.1==0)&&((p.1.2.2.2.1==0)&&((p.1.2.2.2.2.1==0)&&((p.1.2.2.2.2.2.1==0)&&((p.1.2.2.2.2.2.2.1==0)&&((p.1.2.2.2.2.2.2.2.1==0)&&((p.1.2.2.2.2.2.2.2.2.1==0)&&((p.1.2.2.2.2.2.2.2.2.2.1==0)&&((p.1.2.2.2.2.2.2.2.2.2.2.1==0)&&((p.1.2.2.2.2.2.2.2.2.2.2.2.1==0)&&((p.1.2.2.2.2.2.2.2.2.2.2.2.2.1==0)&&((p.1.2.2.2.2.2.2.2.2.2.2.2.2.2.1==0)&&((p.1.2.2.2.2.2.2.2.2.2.2.2.2.2.2.1==0)&&((p.1.2.2.2.2.2.2.2.2.2.2.2.2.2.2.2==([]:Bytes))&&((p.2.1==0)&&((p.2.2==0)&&true)))))))))))))))))
def GD (r:aw):Bool:=(bR r.1&&(dj r.2.1&&(dj r.2.2.1&&((r.2.1.1==r.2.2.1.1)&&((r.2.1.2.1==r.2.2.1.2.1)&&bp r.2.2.2.2.2 0 1000000000000)))))&&
 (bif r.2.2.2.2.1 then cu r.2.2.2.1.1&&(bp r.2.2.2.1.2.1 0 320&&bp r.2.2.2.1.2.2 1 320) else Ue r.2.2.2.1)
theorem Oq (r:aw):s7 r=some (GD r):=by
 unfold s7 GD Ue
 simp only [pC,Cl,bh,s6,ab,aH,cF,cT,cN,Bool.not_or,Bool.not_not,bne]
 cases r.2.2.2.2.1<;>rfl
theorem Nx (r:aw):sY r=some (GD r):=by
 unfold sY GD Ue
 simp only [ri,BN,bm,sX,ab,aH,cF,cT,cN,Bool.not_or,Bool.not_not,bne]
 cases r.2.2.2.2.1<;>rfl
def fa (v:Vector):Bool:=(dm v).getD false
theorem qc (v:Vector):dm v=some (fa v):=by
 have:∃b,dm v=some b:=by
  simp only [dm,n9,bh,ab,aH]
  exact ⟨_,rfl⟩
 obtain ⟨b,hb⟩:=this
 rw [fa,hb];rfl
theorem tn (v:Vector):gO v=some (fa v):=qc v
theorem Ce {α:Type}(l:List α)(p:α→Bool):(List.range l.length).all (fun i=>l[i]?.all p)=l.all p:=by
 rw [Bool.eq_iff_iff,List.all_eq_true,List.all_eq_true]
 constructor
 ·intro h x hx
  obtain ⟨i,hi,rfl⟩:=List.getElem_of_mem hx
  have:=h i (List.mem_range.2 hi)
  rwa [List.getElem?_eq_getElem hi] at this
 ·intro h i hi
  rw [List.getElem?_eq_getElem (List.mem_range.1 hi)]
  exact h _ (List.getElem_mem _)
theorem OK {α:Type}(l:List α)(p q:α→Bool):l.all (fun x=>p x&&q x)=(l.all p&&l.all q):=by
 induction l with
 |nil=>rfl
 |cons x l ih=>simp only [List.all_cons,ih];cases p x<;>cases q x<;>cases l.all p<;>rfl
def eG (h:Host):List Int:=[h.2.2.2.2.2.2.2.2.2.2.2.2.2.2.1,h.2.2.2.2.2.2.2.2.2.2.2.2.2.2.2.1,h.2.2.2.2.2.2.2.2.2.2.2.2.2.2.2.2.1,h.2.2.2.2.2.2.2.2.2.2.2.2.2.2.2.2.2.1,h.2.2.2.2.2.2.2.2.2.2.2.2.2.2.2.2.2.2]
def se (h:Host):Bool:=bp (h.2.2.2.1.length:Int) 1 2&&(((h.2.2.2.2.1.length:Int)==(h.2.2.2.1.length:Int))&&(((h.2.2.2.2.2.1.length:Int)==(h.2.2.2.1.length:Int))&&((h.2.2.2.2.2.2.1.length:Int)==(h.2.2.2.1.length:Int))))
def LZ (h:Host):Bool:=h.2.2.2.1.all GD&&(h.2.2.2.2.1.all du&&h.2.2.2.2.2.1.all fa)
def dk (h:Host):Bool:=cR h.1&&(cD h.2.1&&(P0 h.2.2.1&&(vQ h.2.2.2.2.2.2.2.1&&(se h&&(iR h.2.2.2.2.2.2.2.2.1 (h.2.2.2.1.length:Int)&&(LZ h&&(eG h).all (fun x=>bp x 0 1000000000000)))))))
structure DA (h:Host):Prop where
 a1:h.1.length≤1000000000
 a2:h.2.1.length≤1000000000
 t1:h.2.2.1.2.2.1.length≤1000000000
 t2:h.2.2.1.2.1.2.2.2.length+(aP h.2.2.1.2.2.1).length≤1000000000
 f1:h.2.2.2.2.2.2.2.1.2.2.length≤1000000000
 s1:h.2.2.2.2.2.2.2.2.1.1.length≤1000000000
 s2:h.2.2.2.2.2.2.2.2.1.2.1.length≤1000000000
 s3:h.2.2.2.2.2.2.2.2.1.2.2.2.length≤1000000000
 p1:∀p∈h.2.2.2.2.1,p.2.2.2.length≤1000000000
theorem pn {h:Host}(l:se h=true):h.2.2.2.1.length≤2∧h.2.2.2.2.1.length=h.2.2.2.1.length∧h.2.2.2.2.2.1.length=h.2.2.2.1.length∧h.2.2.2.2.2.2.1.length=h.2.2.2.1.length:=by
 unfold se at l
 simp only [Bool.and_eq_true,aQ,beq_iff_eq] at l
 omega
theorem Hr {R:Type}{T:(Int→Option R)→Int→Option R}{fin hit:Option R}{h:Host}(l:se h=true)
 (hs:∀i (hi:i<h.2.2.2.1.length) nx,T nx (i:Int)=cond (!(GD h.2.2.2.1[i]&&(du (h.2.2.2.2.1[i]'((pn l).2.1▸hi))&&fa (h.2.2.2.2.2.1[i]'((pn l).2.2.1▸hi))))) hit (nx ((i+1:Nat):Int)))
 (hf:∀nx,T nx (h.2.2.2.1.length:Int)=fin):aq T fuel 0=cond (LZ h) fin hit:=by
 have hl:=pn l
 rw [jU (fin:=fin) (hit:=hit) (fun i=>h.2.2.2.1[i]?.all GD&&(h.2.2.2.2.1[i]?.all du&&h.2.2.2.2.2.1[i]?.all fa)) h.2.2.2.1.length (by omega) ?hs hf]
 case hs=>
  intro i nx hi
  rw [hs i hi,List.getElem?_eq_getElem hi,List.getElem?_eq_getElem (hl.2.1▸hi),List.getElem?_eq_getElem (hl.2.2.1▸hi)]
  rfl
 rw [OK,OK,Ce]
 have e1:=Ce h.2.2.2.2.1 du
 have e2:=Ce h.2.2.2.2.2.1 fa
 rw [hl.2.1] at e1
 rw [hl.2.2.1] at e2
 rw [e1,e2];rfl
theorem Cu {R:Type}{T:(Int→Option R)→Int→Option R}{fin hit:Option R}(h:Host)
 (hs:∀i (hi:i<(eG h).length) nx,T nx (i:Int)=cond (!(bp (eG h)[i] 0 1000000000000)) hit (nx ((i+1:Nat):Int)))
 (hf:∀nx,T nx ((eG h).length:Int)=fin):aq T fuel 0=cond ((eG h).all (fun x=>bp x 0 1000000000000)) fin hit:=
 lF (fun x=>bp x 0 1000000000000) (eG h) (by simp [eG]) hs hf
theorem tZ (h:Host)(z:DA h):iZ h=some (dk h):=by
 unfold iZ dk
 simp only [wT _ z.a1,Bf _ z.a2,Ud _ z.t1 z.t2,Oh _ z.f1,JN _ _ z.s1 z.s2 z.s3,bh,ab,aH]
 cases cR h.1 with|false=>rfl|true=> ?_
 cases cD h.2.1 with|false=>rfl|true=> ?_
 cases P0 h.2.2.1 with|false=>rfl|true=> ?_
 cases vQ h.2.2.2.2.2.2.2.1 with|false=>rfl|true=> ?_
 simp only [Bool.not_true,cond_false,cT,bne]
 rw [show (!bp (h.2.2.2.1.length:Int) 1 2||(!((h.2.2.2.2.1.length:Int)==(h.2.2.2.1.length:Int))||(!((h.2.2.2.2.2.1.length:Int)==(h.2.2.2.1.length:Int))||(!((h.2.2.2.2.2.2.1.length:Int)==(h.2.2.2.1.length:Int))|| !iR h.2.2.2.2.2.2.2.2.1 (h.2.2.2.1.length:Int)))))= !(se h&&iR h.2.2.2.2.2.2.2.2.1 (h.2.2.2.1.length:Int)) by unfold se;simp only [Bool.not_and,Bool.or_assoc]]
 cases hl:se h with|false=>rfl|true=> ?_
 cases iR h.2.2.2.2.2.2.2.2.1 (h.2.2.2.1.length:Int) with|false=>rfl|true=> ?_
 have hL:=pn hl
 simp only [Bool.and_true,Bool.not_true,cond_false,Bool.true_and]
 rw [Hr (h:=h) (hit:=some false) (fin:=some ((eG h).all (fun x=>bp x 0 1000000000000))) hl ?hs ?hf]
 case hs=>
  intro i hi nx
  simp only [pK]
  rw [decide_eq_true (by omega),ax hi,ax (hL.2.1▸hi),ax (hL.2.2.1▸hi),wrap64 (n:=(i:Int)+1) (by omega) (by omega)]
  simp only [cond_true,ab,Oq,qc,ua _ (z.p1 _ (List.getElem_mem _)),aH,cT,Bool.not_and]
  rfl
 case hf=>
  intro nx
  simp only [pK]
  rw [decide_eq_false (by omega)]
  simp only [cond_false]
  refine (Cu (fin:=some true) (hit:=some false) h ?_ ?_).trans ?_
  ·intro i hi nx
   simp only [nv]
   have hi':i<5:=hi
   change (bif decide ((i:Int)<5) then aa (idx (eG h) (i:Int)) _ else _)=_
   rw [decide_eq_true (by omega),ax hi,wrap64 (n:=(i:Int)+1) (by omega) (by omega),ab,bh]
   rfl
  ·intro nx
   simp only [nv]
   rw [decide_eq_false (by simp [eG])];rfl
  ·cases (eG h).all (fun x=>bp x 0 1000000000000)<;>rfl
 cases LZ h<;>rfl
theorem xM (h:Host)(z:DA h):iT h=some (dk h):=by
 unfold iT dk
 simp only [zP _ z.a1,Az _ z.a2,Tc _ z.t1 z.t2,Np _ z.f1,I8 _ _ z.s1 z.s2 z.s3,bm,ab,aH]
 cases cR h.1 with|false=>rfl|true=> ?_
 cases cD h.2.1 with|false=>rfl|true=> ?_
 cases P0 h.2.2.1 with|false=>rfl|true=> ?_
 cases vQ h.2.2.2.2.2.2.2.1 with|false=>rfl|true=> ?_
 simp only [Bool.not_true,cond_false,cT,bne]
 rw [show (!bp (h.2.2.2.1.length:Int) 1 2||(!((h.2.2.2.2.1.length:Int)==(h.2.2.2.1.length:Int))||(!((h.2.2.2.2.2.1.length:Int)==(h.2.2.2.1.length:Int))|| !((h.2.2.2.2.2.2.1.length:Int)==(h.2.2.2.1.length:Int)))))= !(se h) by unfold se;simp only [Bool.not_and]]
 cases hl:se h with|false=>rfl|true=> ?_
 have hL:=pn hl
 simp only [Bool.not_true,cond_false,Bool.true_and]
 rw [Hr (h:=h) (hit:=some false) (fin:=some ((eG h).all (fun x=>bp x 0 1000000000000)&&iR h.2.2.2.2.2.2.2.2.1 (h.2.2.2.1.length:Int))) hl ?hs ?hf]
 case hs=>
  intro i hi nx
  simp only [oA]
  rw [decide_eq_true (by omega),ax hi,ax (hL.2.1▸hi),ax (hL.2.2.1▸hi),wrap64 (n:=(i:Int)+1) (by omega) (by omega)]
  simp only [cond_true,ab,Nx,tn,tj _ (z.p1 _ (List.getElem_mem _)),aH,cT,Bool.not_and]
  rfl
 case hf=>
  intro nx
  simp only [oA]
  rw [decide_eq_false (by omega)]
  simp only [cond_false]
  refine (Cu (fin:=some (iR h.2.2.2.2.2.2.2.2.1 (h.2.2.2.1.length:Int))) (hit:=some false) h ?_ ?_).trans ?_
  ·intro i hi nx
   simp only [m7]
   have hi':i<5:=hi
   change (bif decide ((i:Int)<5) then aa (idx (eG h) (i:Int)) _ else _)=_
   rw [decide_eq_true (by omega),ax hi,wrap64 (n:=(i:Int)+1) (by omega) (by omega),ab,bm]
   rfl
  ·intro nx
   simp only [m7]
   rw [decide_eq_false (by simp [eG])];rfl
  ·cases (eG h).all (fun x=>bp x 0 1000000000000)<;>rfl
 cases LZ h<;>cases iR h.2.2.2.2.2.2.2.2.1 (h.2.2.2.1.length:Int)<;>cases (eG h).all (fun x=>bp x 0 1000000000000)<;>rfl
end
end Go.Pu
end
section
namespace Go.Pu
open Go.Dn
set_option linter.unusedSimpArgs false
set_option linter.unusedVariables false
noncomputable section
theorem cA {n:Nat}(h:n<9223372036854775808):IntKind.wrap .i64 (n:Int)=(n:Int):=wrap64 (by omega) (by omega)
theorem Bv {n:Nat}(h:n<4294967296):IntKind.wrap .u32 (n:Int)=(n:Int):=by
 simp only [IntKind.wrap,IntKind.bits,IntKind.signed]
 simp
 omega
theorem gk (b:UInt8):b.toNat<256:=b.toNat_lt
def aF (v:Int):Bytes:=(aG v).getD []
theorem dw (v:Int):aG v=some (aF v):=by
 unfold aF
 have:∃x,aG v=some x:=by
  simp only [aG,bh,ab]
  cases bp v 0 65535<;>exact ⟨_,rfl⟩
 obtain ⟨x,hx⟩:=this
 rw [hx];rfl
theorem fB (v:Int):aJ v=some (aF v):=dw v
theorem Ac (v:Int):(aF v).length=bif bp v 0 65535 then 2 else 0:=by
 have h:=dw v
 simp only [aG,bh,ab] at h
 cases hb:bp v 0 65535<;>rw [hb] at h<;>(rw [←Option.some.inj h];rfl)
theorem aA (v:Int):(aF v).length≤2:=by rw [Ac];cases bp v 0 65535<;>simp
def dF (v:Int):Bytes:=(bT v).getD []
theorem js (v:Int):bT v=some (dF v):=by
 unfold dF
 have:∃x,bT v=some x:=by
  simp only [bT,bh,ab]
  cases bp v 0 4294967295<;>exact ⟨_,rfl⟩
 obtain ⟨x,hx⟩:=this
 rw [hx];rfl
theorem tp (v:Int):cI v=some (dF v):=js v
theorem Gf (v:Int):(dF v).length=bif bp v 0 4294967295 then 4 else 0:=by
 have h:=js v
 simp only [bT,bh,ab] at h
 cases hb:bp v 0 4294967295<;>rw [hb] at h<;>(rw [←Option.some.inj h];rfl)
theorem bD (v:Int):(dF v).length≤4:=by rw [Gf];cases bp v 0 4294967295<;>simp
def aD (s:Bytes)(i:Nat):Nat:=(s.getD i 0).toNat
theorem bG (s:Bytes)(i:Nat):aD s i<256:=gk _
theorem eI {s:Bytes}{i:Nat}(h:i<s.length):∃x,idx s (i:Int)=some x∧x.toNat=aD s i:=⟨s[i],ax h,by rw [aD,bB h]⟩
def bU (s:Bytes)(a n:Int):Bool:=decide (0≤a∧a+n≤(s.length:Int))
theorem yd (s:Bytes)(a n:Int)(h:s.length≤1000000000)(hn:0≤n):iQ s a n=some (bU s a n):=by
 unfold iQ bU
 by_cases h0:0≤a
 ·by_cases h1:a≤(s.length:Int)
  ·rw [decide_eq_true (show a≥0 from h0),decide_eq_true h1,wrap64 (by omega) (by omega)]
   simp only [cond_true,ab]
   congr 1
   rw [decide_eq_decide];omega
  ·rw [decide_eq_true (show a≥0 from h0),decide_eq_false h1,decide_eq_false (show¬(0≤a∧a+n≤(s.length:Int)) by omega)];rfl
 ·rw [decide_eq_false (show¬a≥0 from h0),decide_eq_false (show¬(0≤a∧a+n≤(s.length:Int)) by omega)];rfl
def aL (s:Bytes)(a:Int):Int:=bif bU s a 2 then ((aD s a.toNat*256+aD s (a.toNat+1):Nat):Int) else-1
def bW (s:Bytes)(a:Int):Int:=bif bU s a 4 then (((aD s a.toNat*256+aD s (a.toNat+1))*65536+(aD s (a.toNat+2)*256+aD s (a.toNat+3)):Nat):Int) else-1
theorem kb (s:Bytes)(a:Int)(h:s.length≤1000000000):bF s a=some (aL s a):=by
 unfold bF aL
 rw [yd s a 2 h (by omega),ab]
 cases hw:bU s a 2 with
 |false=>rfl
 |true=>
  simp only [bU,decide_eq_true_eq] at hw
  obtain ⟨n,rfl⟩:=Int.eq_ofNat_of_zero_le hw.1
  obtain ⟨x,hx,ex⟩:=eI (s:=s) (i:=n) (by omega)
  obtain ⟨y,hy,ey⟩:=eI (s:=s) (i:=n+1) (by omega)
  have hxl:=bG s n
  have hyl:=bG s (n+1)
  rw [wrap64 (n:=(n:Int)+1) (by omega) (by omega),hx,show (n:Int)+1=((n+1:Nat):Int) by omega,hy]
  simp only [Bool.not_true,cond_false,ab,Int.toNat_natCast,cond_true]
  rw [if_neg (by omega),ex,ey,cA (by omega),cA (by omega)]
  have e8:min (Int.toNat 8) (IntKind.bits .i64)=8:=rfl
  rw [e8,wrap64 (n:=((aD s n:Nat):Int)*2^8) (by omega) (by omega),wrap64 (by omega) (by omega)]
  congr 1
  all_goals omega
theorem qb (s:Bytes)(a:Int)(h:s.length≤1000000000):df s a=some (bW s a):=by
 unfold df bW
 rw [yd s a 4 h (by omega),ab]
 cases hw:bU s a 4 with
 |false=>rfl
 |true=>
  simp only [bU,decide_eq_true_eq] at hw
  obtain ⟨n,rfl⟩:=Int.eq_ofNat_of_zero_le hw.1
  have w1:bU s (n:Int) 2=true:=by simp only [bU,decide_eq_true_eq];omega
  have w2:bU s ((n:Int)+2) 2=true:=by simp only [bU,decide_eq_true_eq];omega
  have b0:=bG s n
  have b1:=bG s (n+1)
  have b2:=bG s (n+2)
  have b3:=bG s (n+3)
  rw [wrap64 (n:=(n:Int)+2) (by omega) (by omega),kb s _ h,kb s _ h]
  simp only [Bool.not_true,cond_false,ab,cond_true,aL,w1,w2,Int.toNat_natCast]
  rw [if_neg (by omega),show ((n:Int)+2).toNat=n+2 by omega,show n+2+1=n+3 by omega]
  have e8:min (Int.toNat 16) (IntKind.bits .i64)=16:=rfl
  rw [e8,wrap64 (n:=((aD s n*256+aD s (n+1):Nat):Int)*2^16) (by omega) (by omega),wrap64 (by omega) (by omega)]
  congr 1
  all_goals omega
theorem aqq (a b:Nat)(ha:a<9223372036854775808)(hb:b<9223372036854775808):BitVec.toNat (BitVec.ofInt (IntKind.bits .i64) (a:Int)|||BitVec.ofInt (IntKind.bits .i64) (b:Int))=a|||b:=by
 show (BitVec.ofInt 64 (a:Int)|||BitVec.ofInt 64 (b:Int)).toNat=_
 rw [BitVec.ofInt_natCast,BitVec.ofInt_natCast,BitVec.toNat_or,BitVec.toNat_ofNat,BitVec.toNat_ofNat,Nat.mod_eq_of_lt (by omega),Nat.mod_eq_of_lt (by omega)]
theorem Xs (a b:Nat)(ha:a<9223372036854775808)(hb:b<9223372036854775808):BitVec.toNat (BitVec.ofInt (IntKind.bits .i64) (a:Int)&&&BitVec.ofInt (IntKind.bits .i64) (b:Int))=a&&&b:=by
 show (BitVec.ofInt 64 (a:Int)&&&BitVec.ofInt 64 (b:Int)).toNat=_
 rw [BitVec.ofInt_natCast,BitVec.ofInt_natCast,BitVec.toNat_and,BitVec.toNat_ofNat,BitVec.toNat_ofNat,Nat.mod_eq_of_lt (by omega),Nat.mod_eq_of_lt (by omega)]
theorem P3 (a b:Nat)(ha:a<9223372036854775808)(hb:b<9223372036854775808):BitVec.toNat (BitVec.ofInt (IntKind.bits .i64) (a:Int)^^^BitVec.ofInt (IntKind.bits .i64) (b:Int))=a^^^b:=by
 show (BitVec.ofInt 64 (a:Int)^^^BitVec.ofInt 64 (b:Int)).toNat=_
 rw [BitVec.ofInt_natCast,BitVec.ofInt_natCast,BitVec.toNat_xor,BitVec.toNat_ofNat,BitVec.toNat_ofNat,Nat.mod_eq_of_lt (by omega),Nat.mod_eq_of_lt (by omega)]
theorem adS (a b:Nat)(ha:a<4294967296)(hb:b<4294967296):BitVec.toNat (BitVec.ofInt (IntKind.bits .u32) (a:Int)&&&BitVec.ofInt (IntKind.bits .u32) (b:Int))=a&&&b:=by
 show (BitVec.ofInt 32 (a:Int)&&&BitVec.ofInt 32 (b:Int)).toNat=_
 rw [BitVec.ofInt_natCast,BitVec.ofInt_natCast,BitVec.toNat_and,BitVec.toNat_ofNat,BitVec.toNat_ofNat,Nat.mod_eq_of_lt (by omega),Nat.mod_eq_of_lt (by omega)]
theorem Yp (a b:Nat)(ha:a<4294967296)(hb:b<4294967296):BitVec.toNat (BitVec.ofInt (IntKind.bits .u32) (a:Int)^^^BitVec.ofInt (IntKind.bits .u32) (b:Int))=a^^^b:=by
 show (BitVec.ofInt 32 (a:Int)^^^BitVec.ofInt 32 (b:Int)).toNat=_
 rw [BitVec.ofInt_natCast,BitVec.ofInt_natCast,BitVec.toNat_xor,BitVec.toNat_ofNat,BitVec.toNat_ofNat,Nat.mod_eq_of_lt (by omega),Nat.mod_eq_of_lt (by omega)]
theorem zV (x k y:Nat)(hy:y<2^k)(h:2^k*x+y<9223372036854775808):IntKind.wrap .i64 (BitVec.toNat (BitVec.ofInt (IntKind.bits .i64) ((2^k*x:Nat):Int)|||BitVec.ofInt (IntKind.bits .i64) (y:Int)):Int)=((2^k*x+y:Nat):Int):=by
 rw [aqq _ _ (by omega) (by omega),←Nat.two_pow_add_eq_or_of_lt hy]
 exact cA h
theorem CP (s:Bytes)(a n:Int):(cond (decide (a<0)) (some true) (some (decide (a>(s.length:Int)-n))))=some (!bU s a n):=by
 cases hw:bU s a n with
 |true=>
  simp only [bU,decide_eq_true_eq] at hw
  rw [decide_eq_false (show¬a<0 by omega),decide_eq_false (show¬a>(s.length:Int)-n by omega)]
  rfl
 |false=>
  simp only [bU,decide_eq_false_iff_not] at hw
  by_cases h0:a<0
  ·rw [decide_eq_true h0];rfl
  ·rw [decide_eq_false h0,decide_eq_true (show a>(s.length:Int)-n by omega)];rfl
theorem pZ (s:Bytes)(a:Int)(h:s.length≤1000000000):bV s a=some (aL s a):=by
 unfold bV aL
 rw [wrap64 (n:=(s.length:Int)-2) (by omega) (by omega)]
 rw [CP,ab]
 cases hw:bU s a 2 with
 |false=>rfl
 |true=>
  simp only [bU,decide_eq_true_eq] at hw
  obtain ⟨n,rfl⟩:=Int.eq_ofNat_of_zero_le hw.1
  obtain ⟨x,hx,ex⟩:=eI (s:=s) (i:=n) (by omega)
  obtain ⟨y,hy,ey⟩:=eI (s:=s) (i:=n+1) (by omega)
  have hxl:=bG s n
  have hyl:=bG s (n+1)
  rw [wrap64 (n:=(n:Int)+1) (by omega) (by omega),hx,show (n:Int)+1=((n+1:Nat):Int) by omega,hy]
  simp only [Bool.not_true,cond_false,cond_true,ab,Int.toNat_natCast]
  rw [if_neg (by omega),ex,ey,cA (n:=aD s n) (by omega),cA (n:=aD s (n+1)) (by omega)]
  have e8:min (Int.toNat 8) (IntKind.bits .i64)=8:=rfl
  rw [e8,show ((aD s n:Nat):Int)*2^8=((2^8*aD s n:Nat):Int) by omega,cA (n:=2^8*aD s n) (by omega),zV (aD s n) 8 (aD s (n+1)) (by omega) (by omega)]
  congr 1
  all_goals omega
theorem sW (s:Bytes)(a:Int)(h:s.length≤1000000000):dp s a=some (bW s a):=by
 unfold dp bW
 rw [wrap64 (n:=(s.length:Int)-4) (by omega) (by omega)]
 rw [CP,ab]
 cases hw:bU s a 4 with
 |false=>rfl
 |true=>
  simp only [bU,decide_eq_true_eq] at hw
  obtain ⟨n,rfl⟩:=Int.eq_ofNat_of_zero_le hw.1
  obtain ⟨x0,h0,e0⟩:=eI (s:=s) (i:=n) (by omega)
  obtain ⟨x1,h1,e1⟩:=eI (s:=s) (i:=n+1) (by omega)
  obtain ⟨x2,h2,e2⟩:=eI (s:=s) (i:=n+2) (by omega)
  obtain ⟨x3,h3,e3⟩:=eI (s:=s) (i:=n+3) (by omega)
  have b0:=bG s n
  have b1:=bG s (n+1)
  have b2:=bG s (n+2)
  have b3:=bG s (n+3)
  rw [wrap64 (n:=(n:Int)+1) (by omega) (by omega),wrap64 (n:=(n:Int)+2) (by omega) (by omega),wrap64 (n:=(n:Int)+3) (by omega) (by omega),h0,show (n:Int)+1=((n+1:Nat):Int) by omega,h1,
   show (n:Int)+2=((n+2:Nat):Int) by omega,h2,show (n:Int)+3=((n+3:Nat):Int) by omega,h3]
  simp only [Bool.not_true,cond_false,cond_true,ab,Int.toNat_natCast]
  rw [if_neg (by omega),if_neg (by omega),if_neg (by omega),e0,e1,e2,e3]
  generalize aD s n=p0 at*
  generalize aD s (n+1)=p1 at*
  generalize aD s (n+2)=p2 at*
  generalize aD s (n+3)=p3 at*
  have f24:min (Int.toNat 24) (IntKind.bits .i64)=24:=rfl
  have f16:min (Int.toNat 16) (IntKind.bits .i64)=16:=rfl
  have f8:min (Int.toNat 8) (IntKind.bits .i64)=8:=rfl
  rw [cA (n:=p0) (by omega),cA (n:=p1) (by omega),cA (n:=p2) (by omega),cA (n:=p3) (by omega),f24,f16,f8,
   show ((p0:Nat):Int)*2^24=((2^24*p0:Nat):Int) by omega,show ((p1:Nat):Int)*2^16=((2^16*p1:Nat):Int) by omega,show ((p2:Nat):Int)*2^8=((2^8*p2:Nat):Int) by omega,
   cA (n:=2^24*p0) (by omega),cA (n:=2^16*p1) (by omega),cA (n:=2^8*p2) (by omega),zV p0 24 (2^16*p1) (by omega) (by omega),
   show 2^24*p0+2^16*p1=2^16*(2^8*p0+p1) by omega,zV _ 16 (2^8*p2) (by omega) (by omega),
   show 2^16*(2^8*p0+p1)+2^8*p2=2^8*(2^8*(2^8*p0+p1)+p2) by omega,zV _ 8 p3 (by omega) (by omega)]
  congr 1
  all_goals omega
def zE (c:Nat):Nat:=if c%2=1 then (c/2)^^^3988292384 else c/2
def oc:Nat→Nat→Nat
 |0,c=>c
 |n+1,c=>zE (oc n c)
def ajK (c:Nat)(s:Bytes):Nat:=s.foldl (fun c b=>oc 8 (c^^^b.toNat)) c
def Sp (s:Bytes):Int:=4294967295-(ajK 4294967295 s:Int)
theorem u5 {a b:Nat}(ha:a<4294967296)(hb:b<4294967296):a^^^b<4294967296:=Nat.xor_lt_two_pow (n:=32) ha hb
theorem Qd {c:Nat}(h:c<4294967296):zE c<4294967296:=by
 unfold zE
 split
 ·exact u5 (by omega) (by omega)
 ·omega
theorem Ak {c:Nat}(h:c<4294967296):∀n,oc n c<4294967296
 |0=>h
 |n+1=>Qd (Ak h n)
theorem TV {R:Type}(k0:Int→Int→Option R)(k:Int→Option R)(hk:∀x y,k0 x y=k x)(v0:Bytes)(v4:Int)(c:Nat)(h:c<4294967296):aq (kc k0 v0 v4) fuel ((c:Int),0)=k (oc 8 c:Int):=by
 have hfu:=bl
 have key:=yE (T:=kc k0 v0 v4) 8 (fun (_:Unit) i=>((oc i c:Int),(i:Int))) (fun _ s nx=>nx s) (fun _=>k (oc 8 c:Int))
  (fun i s nx hi=>by
   have hc:=Ak h i
   simp only [kc]
   have a1:=Xs (oc i c) 1 (by omega) (by omega)
   have x1:=P3 (oc i c/2) 3988292384 (by omega) (by omega)
   simp only [Int.natCast_one] at a1
   rw [decide_eq_true (by omega),cond_true,a1,Nat.and_one_is_mod,
    show min (Int.toNat 1) (IntKind.bits .i64)=1 from rfl,show Int.fdiv ((oc i c:Nat):Int) (2^1)=((oc i c/2:Nat):Int) from by rw [Int.fdiv_eq_ediv_of_nonneg _ (by omega)];rfl,
    show (3988292384:Int)=((3988292384:Nat):Int) from rfl,x1,
    cA (n:=oc i c%2) (by omega),cA (n:=(oc i c/2)^^^3988292384) (by have:=u5 (a:=oc i c/2) (b:=3988292384) (by omega) (by omega);omega),if_neg (by omega),if_neg (by omega),wrap64 (n:=(i:Int)+1) (by omega) (by omega)]
   show _=nx ((zE (oc i c):Int),((i+1:Nat):Int))
   unfold zE
   by_cases hp:oc i c%2=1
   ·rw [hp,if_pos rfl];rfl
   ·have h0:oc i c%2=0:=by omega
    rw [h0,if_neg (by omega)];rfl)
  (fun s nx=>by
   simp only [kc]
   rw [decide_eq_false (by omega),cond_false,hk])
  fuel 0 () (by omega) (by omega)
 refine key.trans ?_
 rfl
theorem SX {R:Type}(k0:Int→Int→Option R)(k:Int→Option R)(hk:∀x y,k0 x y=k x)(v0:Bytes)(v4:Int)(c:Nat)(h:c<4294967296):aq (jV k0 v0 v4) fuel ((c:Int),0)=k (oc 8 c:Int):=by
 have hfu:=bl
 have key:=yE (T:=jV k0 v0 v4) 8 (fun (_:Unit) i=>((oc i c:Int),(i:Int))) (fun _ s nx=>nx s) (fun _=>k (oc 8 c:Int))
  (fun i s nx hi=>by
   have hc:=Ak h i
   simp only [jV]
   have a1:=adS (oc i c) 1 (by omega) (by omega)
   have x1:=Yp (oc i c/2) 3988292384 (by omega) (by omega)
   simp only [Int.natCast_one] at a1
   rw [decide_eq_true (by omega),cond_true,a1,Nat.and_one_is_mod,
    show min (Int.toNat 1) (IntKind.bits .u32)=1 from rfl,show Int.fdiv ((oc i c:Nat):Int) (2^1)=((oc i c/2:Nat):Int) from by rw [Int.fdiv_eq_ediv_of_nonneg _ (by omega)];rfl,
    show (3988292384:Int)=((3988292384:Nat):Int) from rfl,x1,
    Bv (n:=oc i c%2) (by omega),Bv (n:=(oc i c/2)^^^3988292384) (u5 (by omega) (by omega)),if_neg (by omega),wrap64 (n:=(i:Int)+1) (by omega) (by omega)]
   show _=nx ((zE (oc i c):Int),((i+1:Nat):Int))
   unfold zE
   by_cases hp:oc i c%2=1
   ·rw [hp,if_pos rfl];rfl
   ·have h0:oc i c%2=0:=by omega
    rw [h0,if_neg (by omega)];rfl)
  (fun s nx=>by
   simp only [jV]
   rw [decide_eq_false (by omega),cond_false,hk])
  fuel 0 () (by omega) (by omega)
 refine key.trans ?_
 rfl
theorem W4 (s:Bytes)(h:s.length≤1000000000):wW s=some (Sp s):=by
 unfold wW
 have:=vC (T:=mV (fun (y4:Int) (_:Int)=>some (IntKind.wrap .i64 (4294967295-y4))) s) s (fun (c:Nat) i=>((c:Int),(i:Int))) (fun _ c=>c<4294967296) (fun b c=> .ok (oc 8 (c^^^b.toNat))) (fun c=>some (4294967295-(c:Int))) (by omega)
  (fun i hi c nx hI=> ?hs) (fun i hi c c' hI hg=> ?hn) (fun c nx hI=> ?hf) 4294967295 (by omega)
 case hs=>
  have hb:=gk s[i]
  simp only [mV]
  rw [decide_eq_true (by omega),ax hi,cond_true,ab,cA (n:=s[i].toNat) (by omega),P3 c s[i].toNat (by omega) (by omega)]
  have hx:=u5 hI (show s[i].toNat<4294967296 by omega)
  rw [cA (by omega),TV _ (fun y=>nx (y,(i:Int)+1)) (fun x y=>by rw [wrap64 (by omega) (by omega)]) _ _ _ hx];rfl
 case hn=>
  cases hg
  exact Ak (u5 hI (by have:=gk s[i];omega)) 8
 case hf=>
  simp only [mV]
  rw [decide_eq_false (by omega),cond_false,wrap64 (by omega) (by omega)]
 rw [AW] at this
 exact this
theorem not_xor (c:Nat)(h:c<4294967296):BitVec.toNat (BitVec.ofInt (IntKind.bits .u32) (IntKind.max .u32)^^^BitVec.ofInt (IntKind.bits .u32) (c:Int))=4294967295-c:=by
 show (BitVec.ofInt 32 4294967295^^^BitVec.ofInt 32 (c:Int)).toNat=_
 rw [show BitVec.ofInt 32 4294967295=BitVec.allOnes 32 by decide,BitVec.ofInt_natCast,BitVec.allOnes_xor,BitVec.toNat_not,BitVec.toNat_ofNat,Nat.mod_eq_of_lt (show c<2^32 by omega)]
theorem Wt (s:Bytes)(h:s.length≤1000000000):vZ s=some (Sp s):=by
 unfold vZ
 have:=vC (T:=mC (fun (y4:Int) (_:Int)=>some (IntKind.wrap .i64 (IntKind.wrap .u32 (BitVec.toNat (BitVec.ofInt (IntKind.bits .u32) (IntKind.max .u32)^^^BitVec.ofInt (IntKind.bits .u32) y4))))) s) s (fun (c:Nat) i=>((c:Int),(i:Int))) (fun _ c=>c<4294967296) (fun b c=> .ok (oc 8 (c^^^b.toNat))) (fun c=>some (4294967295-(c:Int))) (by omega)
  (fun i hi c nx hI=> ?hs) (fun i hi c c' hI hg=> ?hn) (fun c nx hI=> ?hf) 4294967295 (by omega)
 case hs=>
  have hb:=gk s[i]
  simp only [mC]
  rw [decide_eq_true (by omega),ax hi,cond_true,ab,Bv (n:=s[i].toNat) (by omega),Yp c s[i].toNat (by omega) (by omega)]
  have hx:=u5 hI (show s[i].toNat<4294967296 by omega)
  rw [Bv hx,SX _ (fun y=>nx (y,(i:Int)+1)) (fun x y=>by rw [wrap64 (by omega) (by omega)]) _ _ _ hx];rfl
 case hn=>
  cases hg
  exact Ak (u5 hI (by have:=gk s[i];omega)) 8
 case hf=>
  simp only [mC]
  rw [decide_eq_false (by omega),cond_false,not_xor c hI,Bv (by omega),cA (by omega)]
  congr 1
  all_goals omega
 rw [AW] at this
 exact this
end
end Go.Pu
end
section
namespace Go.Pu
open Go.Dn
set_option linter.unusedSimpArgs false
set_option linter.unusedVariables false
noncomputable section
theorem DR (s:Bytes):bytesOf (bc s)=s:=by
 unfold bytesOf bc
 rw [List.map_map]
 conv=>rhs;rw [←List.map_id s]
 refine List.map_congr_left fun b _=> ?_
 simp
theorem Td (s t:Bytes):bc (s++t)=bc s++bc t:=List.map_append
theorem AL (s:Bytes):(bc s).length=s.length:=List.length_map ..
theorem Dq {α:Type}(l:List α)(i j:Nat)(h:i≤j)(h2:j≤l.length):sub l (i:Int) (j:Int)=some ((l.drop i).take (j-i)):=by
 unfold sub
 rw [if_pos (by omega)]
 simp [List.take_drop,Nat.add_sub_cancel' h]
theorem HE (a k:Nat):Int.tdiv (a:Int) (k:Int)=((a/k:Nat):Int):=(Int.ofNat_tdiv a k).symm
theorem F3 (a k:Nat):Int.tmod (a:Int) (k:Int)=((a%k:Nat):Int):=(Int.ofNat_tmod a k).symm
theorem mem_iff {m:List Bytes}:cR m=true↔(∀x∈m,x.length=128)∧m.length≤64:=by
 simp only [cR,Bool.and_eq_true,List.all_eq_true,beq_iff_eq,decide_eq_true_eq]
 constructor
 ·rintro ⟨h1,h2⟩;exact ⟨fun x hx=>by have:=h1 x hx;omega,by omega⟩
 ·rintro ⟨h1,h2⟩;exact ⟨fun x hx=>by have:=h1 x hx;omega,by omega⟩
theorem KX:∀{m:List Bytes},(∀x∈m,x.length=128)→m.flatten.length=128*m.length
 |[],_=>rfl
 |x::m,h=>by
  have:=KX (m:=m) (fun y hy=>h y (by simp [hy]))
  have:=h x (by simp)
  simp only [List.flatten_cons,List.length_append,List.length_cons];omega
theorem G2:∀{m:List Bytes}(_:∀x∈m,x.length=128)(p:Nat)(hp:p<m.length)(o c:Nat),o+c≤128→(m.flatten.drop (128*p+o)).take c=(m[p].drop o).take c
 |x::m,h,0,hp,o,c,ho=>by
  have:=h x (by simp)
  simp only [List.flatten_cons,List.getElem_cons_zero]
  rw [List.drop_append_of_le_length (by omega),List.take_append_of_le_length (by simp;omega)]
  simp
 |x::m,h,p+1,hp,o,c,ho=>by
  have hx:=h x (by simp)
  simp only [List.flatten_cons,List.getElem_cons_succ]
  rw [show 128*(p+1)+o=x.length+(128*p+o) by omega,List.drop_length_add_append]
  exact G2 (m:=m) (fun y hy=>h y (by simp [hy])) p (by simpa using hp) o c ho
def sf (m:List Bytes)(a n:Nat):Bytes:=(m.flatten.drop a).take n
theorem vA {m:List Bytes}{a n:Nat}(h:cR m=true)(hn:a+n≤128*m.length):(sf m a n).length=n:=by
 have:=KX (mem_iff.1 h).1
 simp only [sf,List.length_take,List.length_drop];omega
theorem TR (m:List Bytes)(a n:Nat):(sf m a n).length≤n:=by simp [sf];omega
theorem Hq (m:List Bytes)(a k c:Nat):sf m a (k+c)=sf m a k++sf m (a+k) c:=by
 unfold sf;rw [List.take_add,List.drop_drop]
theorem Fy {m:List Bytes}(h:cR m=true){p:Nat}(hp:p<m.length){o c:Nat}(ho:o+c≤128){a:Nat}(ha:a=128*p+o):(m[p].drop o).take c=sf m a c:=by
 subst ha;exact (G2 (mem_iff.1 h).1 p hp o c ho).symm
def cw (m:List Bytes)(a n:Int):Bool:=cR m&&decide (0≤n∧0≤a∧a+n≤128*(m.length:Int))
theorem xO (m:List Bytes)(a n:Int)(h:m.length≤1000000000):nW m a n=some (cw m a n):=by
 unfold nW cw
 rw [zP m h,ab,wrap64 (n:=(m.length:Int)*128) (by omega) (by omega)]
 cases hm:cR m with
 |false=>rfl
 |true=>
  simp only [cond_true,Bool.true_and]
  by_cases h1:n≥0
  ·by_cases h2:n≤(m.length:Int)*128
   ·rw [wrap64 (n:=(m.length:Int)*128-n) (by omega) (by omega)]
    by_cases h3:a≥0
    ·simp only [decide_eq_true h1,decide_eq_true h2,decide_eq_true h3,cond_true,ab]
     exact congrArg some (decide_eq_decide.2 (by omega))
    ·simp only [decide_eq_true h1,decide_eq_true h2,decide_eq_false h3,cond_true,cond_false,ab]
     exact congrArg some (decide_eq_false (by omega)).symm
   ·simp only [decide_eq_true h1,decide_eq_false h2,cond_true,cond_false,ab]
    exact congrArg some (decide_eq_false (by omega)).symm
  ·simp only [decide_eq_false h1,cond_false,ab]
   exact congrArg some (decide_eq_false (by omega)).symm
theorem ye (m:List Bytes)(a n:Int)(h:m.length≤1000000000):fI m a n=some (cw m a n):=by
 unfold fI cw
 rw [wT m h,ab,wrap64 (n:=128*(m.length:Int)) (by omega) (by omega)]
 cases hm:cR m with
 |false=>rfl
 |true=>
  simp only [cond_true,Bool.true_and]
  by_cases h1:n≥0
  ·by_cases h3:a≥0
   ·by_cases h2:a≤128*(m.length:Int)
    ·rw [wrap64 (n:=128*(m.length:Int)-a) (by omega) (by omega)]
     simp only [decide_eq_true h1,decide_eq_true h2,decide_eq_true h3,cond_true,ab]
     exact congrArg some (decide_eq_decide.2 (by omega))
    ·simp only [decide_eq_true h1,decide_eq_false h2,decide_eq_true h3,cond_true,cond_false,ab]
     exact congrArg some (decide_eq_false (by omega)).symm
   ·simp only [decide_eq_true h1,decide_eq_false h3,cond_true,cond_false,ab]
    exact congrArg some (decide_eq_false (by omega)).symm
  ·simp only [decide_eq_false h1,cond_false,ab]
   exact congrArg some (decide_eq_false (by omega)).symm
theorem AD {R:Type}{m:List Bytes}(hm:cR m=true)(K:Int→List Int→Option R):∀(n r k a f:Nat),r≤n→n<f→a+k+r≤128*m.length→
 aq (fD K ((k+r:Nat):Int) m) f (((a+k:Nat):Int),bc (sf m a k))=K ((a+k+r:Nat):Int) (bc (sf m a (k+r)))
 |n,r,k,a,0,_,hf,_=>by omega
 |n,0,k,a,f+1,hr,hf,hb=>by
  rw [aq]
  simp only [fD,AL,vA hm (show a+k≤128*m.length by omega),Nat.add_zero]
  rw [decide_eq_false (by omega),cond_false]
 |0,r+1,k,a,f+1,hr,hf,hb=>by omega
 |n+1,r+1,k,a,f+1,hr,hf,hb=>by
  have h64:=(mem_iff.1 hm).2
  have hl:=vA hm (show a+k≤128*m.length by omega)
  obtain ⟨p,hp⟩:∃p,(a+k)/128=p:=⟨_,rfl⟩
  obtain ⟨o,ho⟩:∃o,(a+k)%128=o:=⟨_,rfl⟩
  have hpo:a+k=128*p+o:=by omega
  have ho2:o<128:=by omega
  have hpl:p<m.length:=by omega
  obtain ⟨c,hc⟩:∃c,min (r+1) (128-o)=c:=⟨_,rfl⟩
  have hpg:=(mem_iff.1 hm).1 _ (List.getElem_mem hpl)
  have e1:Int.tdiv ((a+k:Nat):Int) 128=(p:Int):=by rw [←hp];exact HE (a+k) 128
  have e2:Int.tmod ((a+k:Nat):Int) 128=(o:Int):=by rw [←ho];exact F3 (a+k) 128
  have key:=AD hm K n (r+1-c) (k+c) a f (by omega) (by omega) (by omega)
  rw [aq]
  simp only [fD,AL,hl,e1,e2]
  rw [decide_eq_true (by omega),cond_true,if_neg (by omega),wrap64 (n:=(p:Int)) (by omega) (by omega),ax hpl,ab,if_neg (by omega)]
  rw [wrap64 (n:=(o:Int)+((k+(r+1):Nat):Int)) (by omega) (by omega),wrap64 (n:=(o:Int)+((k+(r+1):Nat):Int)-(k:Int)) (by omega) (by omega)]
  rw [show (if (o:Int)+((k+(r+1):Nat):Int)-(k:Int)<128 then (o:Int)+((k+(r+1):Nat):Int)-(k:Int) else 128)=((o+c:Nat):Int) by split<;>omega]
  rw [Dq _ _ _ (by omega) (by omega),ab,show o+c-o=c by omega,Fy hm hpl (show o+c≤128 by omega) hpo]
  have hl2:=vA hm (show a+k+c≤128*m.length by omega)
  rw [hl2,ao (by omega),wrap64 (by omega) (by omega),←Td,←Hq]
  rw [show ((a+k:Nat):Int)+(c:Int)=((a+(k+c):Nat):Int) by omega]
  rw [show k+c+(r+1-c)=k+(r+1) by omega,show a+(k+c)+(r+1-c)=a+k+(r+1) by omega] at key
  exact key
theorem S7 (m:List Bytes)(a n:Int)(h:m.length≤1000000000):jJ m a n=some (bif cw m a n then (sf m a.toNat n.toNat,true) else ([],false)):=by
 have hfu:=bl
 unfold jJ
 rw [xO m a n h,ab]
 cases hw:cw m a n with
 |false=>rfl
 |true=>
  simp only [cw,Bool.and_eq_true,decide_eq_true_eq] at hw
  obtain ⟨hm,h1,h2,h3⟩:=hw
  have h64:=(mem_iff.1 hm).2
  simp only [Bool.not_true,cond_false,cond_true]
  rw [if_pos (by omega),ao (by omega)]
  obtain ⟨a,rfl⟩:=Int.eq_ofNat_of_zero_le h2
  obtain ⟨n,rfl⟩:=Int.eq_ofNat_of_zero_le h1
  have:=AD hm (fun (y4:Int) (y5:List Int)=>some (bytesOf y5,true)) n n 0 a fuel (by omega) (by omega) (by omega)
  rw [Nat.zero_add,Nat.add_zero] at this
  refine Eq.trans this ?_
  simp only [DR,Int.toNat_natCast]
theorem Bh {R:Type}{m:List Bytes}(hm:cR m=true)(K:Int→Int→Bytes→Option R):∀(n r k a f:Nat),r≤n→n<f→a+k+r≤128*m.length→
 aq (fH K m) f (((a+k:Nat):Int),(r:Int),sf m a k)=K ((a+k+r:Nat):Int) 0 (sf m a (k+r))
 |n,r,k,a,0,_,hf,_=>by omega
 |n,0,k,a,f+1,hr,hf,hb=>by
  rw [aq]
  simp only [fH]
  rw [decide_eq_false (by omega),cond_false];rfl
 |0,r+1,k,a,f+1,hr,hf,hb=>by omega
 |n+1,r+1,k,a,f+1,hr,hf,hb=>by
  have h64:=(mem_iff.1 hm).2
  have hl:=vA hm (show a+k≤128*m.length by omega)
  obtain ⟨p,hp⟩:∃p,(a+k)/128=p:=⟨_,rfl⟩
  obtain ⟨o,ho⟩:∃o,(a+k)%128=o:=⟨_,rfl⟩
  have hpo:a+k=128*p+o:=by omega
  have ho2:o<128:=by omega
  have hpl:p<m.length:=by omega
  obtain ⟨c,hc⟩:∃c,min (r+1) (128-o)=c:=⟨_,rfl⟩
  have hpg:=(mem_iff.1 hm).1 _ (List.getElem_mem hpl)
  have e1:Int.tdiv ((a+k:Nat):Int) 128=(p:Int):=by rw [←hp];exact HE (a+k) 128
  have e2:Int.tmod ((a+k:Nat):Int) 128=(o:Int):=by rw [←ho];exact F3 (a+k) 128
  have key:=Bh hm K n (r+1-c) (k+c) a f (by omega) (by omega) (by omega)
  rw [aq]
  simp only [fH,e1,e2]
  rw [decide_eq_true (by omega),cond_true,if_neg (by omega),if_neg (by omega),wrap64 (n:=(p:Int)) (by omega) (by omega),ax hpl,ab]
  rw [wrap64 (n:=128-(o:Int)) (by omega) (by omega)]
  rw [show (if 128-(o:Int)<((r+1:Nat):Int) then 128-(o:Int) else ((r+1:Nat):Int))=(c:Int) by split<;>omega]
  rw [wrap64 (n:=(o:Int)+(c:Int)) (by omega) (by omega),show (o:Int)+(c:Int)=((o+c:Nat):Int) by omega]
  rw [Dq _ _ _ (by omega) (by omega),ab,show o+c-o=c by omega,Fy hm hpl (show o+c≤128 by omega) hpo]
  have hl2:=vA hm (show a+k+c≤128*m.length by omega)
  rw [hl2,hl,ao (by omega),wrap64 (n:=((a+k:Nat):Int)+(c:Int)) (by omega) (by omega),wrap64 (n:=((r+1:Nat):Int)-(c:Int)) (by omega) (by omega),←Hq]
  rw [show ((a+k:Nat):Int)+(c:Int)=((a+(k+c):Nat):Int) by omega,show ((r+1:Nat):Int)-(c:Int)=((r+1-c:Nat):Int) by omega]
  rw [show k+c+(r+1-c)=k+(r+1) by omega,show a+(k+c)+(r+1-c)=a+k+(r+1) by omega] at key
  exact key
theorem T8 (m:List Bytes)(a n:Int)(h:m.length≤1000000000):jQ m a n=some (bif cw m a n then (sf m a.toNat n.toNat,true) else ([],false)):=by
 have hfu:=bl
 unfold jQ
 rw [ye m a n h,ab]
 cases hw:cw m a n with
 |false=>rfl
 |true=>
  simp only [cw,Bool.and_eq_true,decide_eq_true_eq] at hw
  obtain ⟨hm,h1,h2,h3⟩:=hw
  have h64:=(mem_iff.1 hm).2
  simp only [Bool.not_true,cond_false,cond_true]
  obtain ⟨a,rfl⟩:=Int.eq_ofNat_of_zero_le h2
  obtain ⟨n,rfl⟩:=Int.eq_ofNat_of_zero_le h1
  have:=Bh hm (fun (y4:Int) (y5:Int) (y6:Bytes)=>some (y6,true)) n n 0 a fuel (by omega) (by omega) (by omega)
  rw [Nat.zero_add,Nat.add_zero] at this
  exact this
end
end Go.Pu
end
section
namespace Go.Pu
open Go.Dn
set_option linter.unusedSimpArgs false
set_option linter.unusedVariables false
noncomputable section
def Fa (d p:Int)(w:Bool)(x:ae):Bool:=ml d p x&&(x.2.2.2|| !w)
def pX (l:List ae)(d p:Int)(w:Bool):Int:=match l.findIdx? (Fa d p w) with|some i=>(l.getD i Gv).2.2.1|none=> -1
theorem T5 (l:List ae)(d p:Int)(w:Bool)(h:l.length≤1000000000):sO l d p w=some (pX l d p w):=by
 unfold sO pX
 refine Eq.trans (yw (p:=Fa d p w) (hit:=fun i=>aa (idx l i) fun x=>some x.2.2.1) (fin:=some (-1)) l (by omega) (fun i hi nx=> ?_) (fun nx=> ?_)) ?_
 ·simp only [nD]
  rw [decide_eq_true (by omega),ax hi,wrap64 (by omega) (by omega)]
  simp only [cond_true,ab,Fa,ml]
  cases l[i].1==d<;>cases l[i].2.1==p<;>cases l[i].2.2.2<;>cases w<;>rfl
 ·simp only [nD]
  rw [decide_eq_false (by omega)];rfl
 ·cases hf:l.findIdx? (Fa d p w) with
  |none=>rfl
  |some i=>
   obtain ⟨hi,_⟩:=List.findIdx?_eq_some_iff_getElem.1 hf
   simp only [ax hi,ab,bB hi]
theorem AN {l:List ae}(h:cD l=true){i:Nat}(hi:i<l.length):BU l[i]=true∧∀j (hj:j<i),ml l[i].1 l[i].2.1 (l[j]'(by omega))=false:=by
 simp only [cD,Bool.and_eq_true,List.all_eq_true,List.mem_range] at h
 have:=h.2 i hi
 simp only [Lv,Bool.and_eq_true,List.all_eq_true,List.mem_range,bB hi,Bool.not_eq_true'] at this
 exact ⟨this.1,fun j hj=>by have:=this.2 j hj;rwa [bB (by omega)] at this⟩
theorem BT {d p:Int}{m:ae}:ml d p m=true↔m.1=d∧m.2.1=p:=by simp [ml]
theorem Tm {l:List ae}(h:cD l=true){d p:Int}{i j:Nat}(hi:i<l.length)(hj:j<l.length)(h1:ml d p l[i]=true)(h2:ml d p l[j]=true):i=j:=by
 have a:=BT.1 h1;have b:=BT.1 h2
 rcases Nat.lt_trichotomy i j with h3|h3|h3
 ·have:=(AN h hj).2 i h3;rw [b.1,b.2,h1] at this;cases this
 ·exact h3
 ·have:=(AN h hi).2 j h3;rw [a.1,a.2,h2] at this;cases this
theorem Fl {l:List ae}(h:cD l=true)(d p:Int)(w:Bool)(h1:0≤pX l d p w):pX l d p w≤63∧0≤p∧p≤1023:=by
 unfold pX at h1⊢
 cases hf:l.findIdx? (Fa d p w) with
 |none=>rw [hf] at h1;simp at h1
 |some i=>
  obtain ⟨hi,h2,_⟩:=List.findIdx?_eq_some_iff_getElem.1 hf
  have h3:=(AN h hi).1
  simp only [Fa,Bool.and_eq_true,BT] at h2
  simp only [BU,Bool.and_eq_true,aQ] at h3
  simp only [bB hi]
  omega
theorem QJ (l:List ae)(d:Int)(a:Nat)(w:Bool)(h:l.length≤1000000000)(hm:cD l=true)(ha:a≤9223372036854775807):
 wg l d (a:Int) w=some (if 0≤pX l d ((a/128:Nat):Int) w then pX l d ((a/128:Nat):Int) w*128+((a%128:Nat):Int) else-1):=by
 have e1:Int.tdiv (a:Int) 128=((a/128:Nat):Int):=HE a 128
 have e2:Int.tmod (a:Int) 128=((a%128:Nat):Int):=F3 a 128
 unfold wg
 rw [decide_eq_false (by omega),cond_false,if_neg (by omega),e1,e2,wrap64 (by omega) (by omega),Lj l _ _ h,ab]
 generalize ((a/128:Nat):Int)=p
 have hin:=Fl hm d p w
 unfold LP
 cases hf:l.findIdx? (ml d p) with
 |none=>
  have hn:pX l d p w= -1:=by
   unfold pX
   rw [List.findIdx?_eq_none_iff] at hf
   rw [List.findIdx?_eq_none_iff.2 (fun x hx=>by rw [Fa,hf x hx];rfl)]
  rw [hn];rfl
 |some i=>
  obtain ⟨hi,h2,h3⟩:=List.findIdx?_eq_some_iff_getElem.1 hf
  simp only
  rw [decide_eq_false (by omega),ax hi]
  simp only [cond_false,ab]
  cases hq:l[i].2.2.2|| !w with
  |true=>
   have hF:pX l d p w=l[i].2.2.1:=by
    unfold pX
    rw [List.findIdx?_eq_some_iff_getElem.2 ⟨hi,by rw [Fa,h2,hq];rfl,fun j hj=>by have:=h3 j hj;rw [Fa,Bool.eq_false_iff.2 this];simp⟩]
    exact congrArg (fun x:ae=>x.2.2.1) (bB hi Gv)
   have h4:=(AN hm hi).1
   simp only [BU,Bool.and_eq_true,aQ] at h4
   rw [hF,if_pos (show 0≤l[i].2.2.1 by omega),show (aa (cond w (some (!l[i].2.2.2)) (some false)) fun q3=>cond q3 (some (-1:Int)) _)=_ from by
    have:(cond w (some (!l[i].2.2.2)) (some false))=some false:=by
     cases w<;>cases hz:l[i].2.2.2<;>rw [hz] at hq<;>first|rfl|cases hq
    rw [this,ab,cond_false]]
   rw [if_neg (show¬(128:Nat)=0 by omega),wrap64 (n:=l[i].2.2.1*128) (by omega) (by omega),wrap64 (by omega) (by omega)]
  |false=>
   have hF:pX l d p w= -1:=by
    unfold pX
    rw [List.findIdx?_eq_none_iff.2 (fun x hx=>by
     obtain ⟨j,hj,rfl⟩:=List.getElem_of_mem hx
     cases hx2:ml d p l[j] with
     |false=>rw [Fa,hx2];rfl
     |true=>have:=Tm hm hi hj h2 hx2;subst this;rw [Fa,hq];simp)]
   rw [hF,if_neg (show¬(0:Int)≤ -1 by omega)]
   cases w with
   |false=>simp at hq
   |true=>
    simp only [Bool.not_true,Bool.or_false] at hq
    simp only [cond_true,hq,ab,Bool.not_false]
def jr (l:List ae)(m:List Bytes)(d:Int)(w:Bool):Nat→Nat→Nat→Option (List (Int×Int))
 |0,_,_=>some []
 |n+1,a,r=>if r=0 then some [] else
  if 0≤pX l d ((a/128:Nat):Int) w∧pX l d ((a/128:Nat):Int) w<(m.length:Int) then
   (jr l m d w n (a+min (128-a%128) r) (r-min (128-a%128) r)).map (fun q=>(pX l d ((a/128:Nat):Int) w*128+((a%128:Nat):Int),((min (128-a%128) r:Nat):Int))::q)
  else none
theorem J0 {m:List Bytes}(hm:cR m=true){f:Int}(h0:0≤f){o c:Nat}(hc:0<c)(ho:o+c≤128):cw m (f*128+(o:Int)) (c:Int)=decide (f<(m.length:Int)):=by
 rw [cw,hm,Bool.true_and]
 exact decide_eq_decide.2 (by omega)
theorem MB {m:List Bytes}(hm:cR m=true){f:Int}(h0:0≤f):cw m (f*128) 128=decide (f<(m.length:Int)):=by
 rw [cw,hm,Bool.true_and]
 exact decide_eq_decide.2 (by omega)
theorem AE {l:List ae}{m:List Bytes}(hl:cD l=true)(hL:l.length≤1000000000)(hm:cR m=true)(d:Int)(w:Bool):∀(n a r f:Nat)(acc:List (Int×Int)),r≤n→n<f→acc.length+n≤1000000→a≤9223372036854775807→
 aq (k6 (fun (y9:Int) (y10:Int) (y11:List (Int×Int))=>some (y11,true)) (fun (y12:Int) (y13:Int) (y14:List (Int×Int)) (y15:Bool) (y16:List (Int×Int))=>some (y14,y15)) l d w ([]:List (Int×Int)) false m) f ((a:Int),(r:Int),acc)
  =match jr l m d w n a r with|some q=>some (acc++q,true)|none=>some ([],false)
 |n,a,r,0,acc,_,hf,_,_=>by omega
 |0,a,r,f+1,acc,hr,hf,hA,ha=>by
  rw [aq]
  simp only [k6]
  rw [decide_eq_false (by omega)]
  simp [jr]
 |n+1,a,r,f+1,acc,hr,hf,hA,ha=>by
  have h64:=(mem_iff.1 hm).2
  rw [aq]
  simp only [k6,jr]
  by_cases h0:r=0
  ·rw [decide_eq_false (by omega),if_pos h0];simp
  ·have e2:Int.tmod (a:Int) 128=((a%128:Nat):Int):=F3 a 128
   have hin:=Fl hl d ((a/128:Nat):Int) w
   rw [decide_eq_true (by omega),if_neg h0,QJ l d a w hL hl ha,ab,if_neg (by omega),e2,wrap64 (n:=128-((a%128:Nat):Int)) (by omega) (by omega)]
   obtain ⟨c,hc⟩:∃c,min (128-a%128) r=c:=⟨_,rfl⟩
   rw [hc,show (if 128-((a%128:Nat):Int)<(r:Int) then 128-((a%128:Nat):Int) else (r:Int))=(c:Int) by split<;>omega]
   generalize hP:pX l d ((a/128:Nat):Int) w=P at hin⊢
   by_cases hP0:0≤P
   ·have hin:=hin hP0
    simp only [if_pos hP0,cond_true]
    rw [decide_eq_false (show¬P*128+((a%128:Nat):Int)<0 by omega),xO m _ _ (by omega),J0 hm hP0 (by omega) (by omega)]
    simp only [cond_false,ab]
    by_cases hP1:P<(m.length:Int)
    ·rw [decide_eq_true hP1,if_pos ⟨hP0,hP1⟩]
     simp only [Bool.not_true,cond_false]
     rw [ao (by simp;omega),wrap64 (n:=(a:Int)+(c:Int)) (by omega) (by omega),wrap64 (n:=(r:Int)-(c:Int)) (by omega) (by omega),decide_eq_false (show¬(a:Int)+(c:Int)<0 by omega)]
     simp only [cond_false,ab]
     have key:=AE hl hL hm d w n (a+c) (r-c) f (acc++[(P*128+((a%128:Nat):Int),(c:Int))]) (by omega) (by omega) (by simp;omega) (by omega)
     rw [show ((a+c:Nat):Int)=(a:Int)+(c:Int) by omega,show ((r-c:Nat):Int)=(r:Int)-(c:Int) by omega] at key
     rw [key]
     cases jr l m d w n (a+c) (r-c) with
     |none=>rfl
     |some q=>simp
    ·rw [decide_eq_false hP1,if_neg (by omega)];rfl
   ·simp only [if_neg hP0,cond_true]
    rw [if_neg (by omega),decide_eq_true (by omega)];rfl
theorem Bi {l:List ae}{m:List Bytes}(hl:cD l=true)(hL:l.length≤1000000000)(hm:cR m=true)(d:Int)(w:Bool):∀(n a r f:Nat)(acc:List (Int×Int)),r≤n→n<f→acc.length+n≤1000000→a≤9223372036854775807→
 aq (fz (fun (y10:Int) (y11:Int) (y12:List Int) (y13:List Int)=>some (y12,y13,true)) (fun (y14:Int) (y15:Int) (y16:List Int) (y17:List Int) (y18:Bool) (y19:List Int) (y20:List Int)=>some (y16,y17,y18)) l d w ([]:List Int) ([]:List Int) false m) f ((a:Int),(r:Int),acc.map (·.1),acc.map (·.2))
  =match jr l m d w n a r with|some q=>some ((acc++q).map (·.1),(acc++q).map (·.2),true)|none=>some ([],[],false)
 |n,a,r,0,acc,_,hf,_,_=>by omega
 |0,a,r,f+1,acc,hr,hf,hA,ha=>by
  rw [aq]
  simp only [fz]
  rw [decide_eq_false (by omega)]
  simp [jr]
 |n+1,a,r,f+1,acc,hr,hf,hA,ha=>by
  have h64:=(mem_iff.1 hm).2
  rw [aq]
  simp only [fz,jr]
  by_cases h0:r=0
  ·rw [decide_eq_false (by omega),if_pos h0];simp
  ·have e1:Int.tdiv (a:Int) 128=((a/128:Nat):Int):=HE a 128
   have e2:Int.tmod (a:Int) 128=((a%128:Nat):Int):=F3 a 128
   have hin:=Fl hl d ((a/128:Nat):Int) w
   rw [decide_eq_true (show (r:Int)>0 by omega),decide_eq_true (show (a:Int)≥0 by omega),if_neg h0]
   simp only [cond_true]
   rw [if_neg (by omega),e1,e2,wrap64 (n:=((a/128:Nat):Int)) (by omega) (by omega),T5 l _ _ w hL,ab,if_neg (by omega),wrap64 (n:=128-((a%128:Nat):Int)) (by omega) (by omega)]
   obtain ⟨c,hc⟩:∃c,min (128-a%128) r=c:=⟨_,rfl⟩
   rw [hc,show (if 128-((a%128:Nat):Int)<(r:Int) then 128-((a%128:Nat):Int) else (r:Int))=(c:Int) by split<;>omega]
   generalize hP:pX l d ((a/128:Nat):Int) w=P at hin⊢
   by_cases hP0:0≤P
   ·have hin:=hin hP0
    rw [decide_eq_false (show¬P<0 by omega),wrap64 (n:=P*128) (by omega) (by omega),ye m _ _ (by omega),MB hm hP0]
    simp only [cond_false,ab]
    by_cases hP1:P<(m.length:Int)
    ·rw [decide_eq_true hP1,if_pos ⟨hP0,hP1⟩]
     simp only [Bool.not_true,cond_false]
     rw [ao (by simp;omega),ao (by simp;omega),wrap64 (n:=P*128+((a%128:Nat):Int)) (by omega) (by omega),wrap64 (n:=(a:Int)+(c:Int)) (by omega) (by omega),wrap64 (n:=(r:Int)-(c:Int)) (by omega) (by omega)]
     have key:=Bi hl hL hm d w n (a+c) (r-c) f (acc++[(P*128+((a%128:Nat):Int),(c:Int))]) (by omega) (by omega) (by simp;omega) (by omega)
     rw [show ((a+c:Nat):Int)=(a:Int)+(c:Int) by omega,show ((r-c:Nat):Int)=(r:Int)-(c:Int) by omega,List.map_append,List.map_append] at key
     refine Eq.trans key ?_
     cases jr l m d w n (a+c) (r-c) with
     |none=>rfl
     |some q=>simp
    ·rw [decide_eq_false hP1,if_neg (by omega)];rfl
   ·rw [if_neg (by omega),decide_eq_true (by omega)];rfl
def gD (l:List ae)(m:List Bytes)(d a n:Int)(w:Bool):List (Int×Int)×Bool:=
 bif cD l&&(cR m&&bp n 0 4096) then
  (bif n==0 then ([],true) else bif decide (a<0) then ([],false) else match jr l m d w n.toNat a.toNat n.toNat with|some q=>(q,true)|none=>([],false))
 else ([],false)
theorem Lm (l:List ae)(m:List Bytes)(d a n:Int)(w:Bool)(hl:l.length≤1000000000)(hm:m.length≤1000000000)(ha:a≤9223372036854775807):rp l m d a n w=some (gD l m d a n w):=by
 have hfu:=bl
 unfold rp gD
 simp only [Az l hl,zP m hm,bm,ab]
 cases hB:cD l with|false=>rfl|true=> ?_
 cases hM:cR m with|false=>rfl|true=> ?_
 cases hN:bp n 0 4096 with|false=>rfl|true=> ?_
 have hn:=aQ.1 hN
 simp only [Bool.not_true,cond_false,ab,Bool.and_self,cond_true]
 cases h0:n==0 with|true=>rfl|false=> ?_
 by_cases hA:a<0
 ·rw [decide_eq_true hA];rfl
 ·rw [decide_eq_false hA]
  simp only [cond_false]
  obtain ⟨a,rfl⟩:=Int.eq_ofNat_of_zero_le (show 0≤a by omega)
  obtain ⟨n,rfl⟩:=Int.eq_ofNat_of_zero_le hn.1
  rw [AE hB hl hM d w n a n fuel [] (by omega) (by omega) (by simp;omega) (by omega)]
  simp only [Int.toNat_natCast]
  cases jr l m d w n a n<;>rfl
theorem Hx (l:List ae)(m:List Bytes)(d a n:Int)(w:Bool)(hl:l.length≤1000000000)(hm:m.length≤1000000000)(ha:a≤9223372036854775807):mY l m d a n w=some ((gD l m d a n w).1.map (·.1),(gD l m d a n w).1.map (·.2),(gD l m d a n w).2):=by
 have hfu:=bl
 unfold mY gD
 simp only [Bf l hl,wT m hm,bh,ab]
 cases hB:cD l with|false=>rfl|true=> ?_
 cases hM:cR m with|false=>rfl|true=> ?_
 cases hN:bp n 0 4096 with|false=>rfl|true=> ?_
 have hn:=aQ.1 hN
 simp only [Bool.not_true,cond_false,ab,Bool.and_self,cond_true]
 obtain ⟨n,rfl⟩:=Int.eq_ofNat_of_zero_le hn.1
 cases h0:((n:Int)==0) with
 |true=>
  have:n=0:=by simpa using h0
  subst this
  obtain ⟨f,hf⟩:∃f,fuel=f+1:=⟨fuel-1,by omega⟩
  rw [hf,aq]
  rfl
 |false=>
  have hn0:n≠0:=by simpa using h0
  by_cases hA:a<0
  ·obtain ⟨f,hf⟩:∃f,fuel=f+1:=⟨fuel-1,by omega⟩
   rw [decide_eq_true hA,hf,aq]
   simp only [fz]
   rw [decide_eq_true (by omega),decide_eq_false (by omega)]
   rfl
  ·rw [decide_eq_false hA]
   simp only [cond_false]
   obtain ⟨a,rfl⟩:=Int.eq_ofNat_of_zero_le (show 0≤a by omega)
   refine Eq.trans (Bi hB hl hM d w n a n fuel [] (by omega) (by omega) (by simp;omega) (by omega)) ?_
   simp only [Int.toNat_natCast]
   cases jr l m d w n a n<;>rfl
end
end Go.Pu
end
section
namespace Go.Pu
open Go.Dn
set_option linter.unusedSimpArgs false
set_option linter.unusedVariables false
noncomputable section
def P6 (a b:Int):Int:=(gF a b).getD 0
theorem Dp (a b:Int):gF a b=some (P6 a b):=by
 unfold P6
 have:∃x,gF a b=some x:=by
  simp only [gF,bh,ab]
  cases bp a 0 65535<;>cases bp b 0 65535<;>cases decide (IntKind.wrap .i64 (a+b)>65535)<;>exact ⟨_,rfl⟩
 obtain ⟨x,hx⟩:=this
 rw [hx];rfl
theorem Lc (a b:Int):sk a b=some (P6 a b):=Dp a b
theorem VX {a b:Int}(h:0≤a∧a≤65535)(k:0≤b∧b≤65535):0≤P6 a b∧P6 a b≤65535:=by
 have e:=Dp a b
 simp only [gF,bh,ab,aQ.2 h,aQ.2 k,Bool.not_true,cond_false] at e
 rw [wrap64 (n:=a+b) (by omega) (by omega)] at e
 by_cases hc:a+b>65535
 ·rw [decide_eq_true hc,cond_true,wrap64 (by omega) (by omega)] at e
  rw [←Option.some.inj e];omega
 ·rw [decide_eq_false hc,cond_false] at e
  rw [←Option.some.inj e];omega
def sw (s:Bytes):Nat→Int
 |0=>0
 |j+1=>P6 (sw s j) ((aD s (2*j)*256+aD s (2*j+1):Nat):Int)
theorem Uf (s:Bytes):∀j,0≤sw s j∧sw s j≤65535
 |0=>by simp [sw]
 |j+1=>by
  have b0:=bG s (2*j)
  have b1:=bG s (2*j+1)
  exact VX (Uf s j) (by omega)
theorem zC {s:Bytes}{i:Nat}(h:s.length≤i):aD s i=0:=by
 unfold aD
 rw [List.getD_eq_getElem?_getD,List.getElem?_eq_none h];rfl
theorem W9 (s:Bytes)(h:s.length≤1000000000):qY s=some (sw s ((s.length+1)/2)):=by
 unfold qY
 refine bz (fun j=>(sw s j,((2*j:Nat):Int))) ((s.length+1)/2) (by omega) (fun j nx hj=> ?_) (fun nx=> ?_)
 ·have b0:=bG s (2*j)
  have b1:=bG s (2*j+1)
  obtain ⟨x,hx,ex⟩:=eI (s:=s) (i:=2*j) (by omega)
  simp only [mc]
  rw [decide_eq_true (by omega),cond_true,hx,ab,if_neg (by omega),wrap64 (n:=((2*j:Nat):Int)+1) (by omega) (by omega),wrap64 (n:=((2*j:Nat):Int)+2) (by omega) (by omega),ex,cA (by omega)]
  have e8:min (Int.toNat 8) (IntKind.bits .i64)=8:=rfl
  have en:((2*j:Nat):Int)+2=((2*(j+1):Nat):Int):=by omega
  rw [e8,wrap64 (n:=((aD s (2*j):Nat):Int)*2^8) (by omega) (by omega)]
  by_cases hc:2*j+1<s.length
  ·obtain ⟨y,hy,ey⟩:=eI (s:=s) (i:=2*j+1) hc
   rw [decide_eq_true (by omega),cond_true,show ((2*j:Nat):Int)+1=((2*j+1:Nat):Int) by omega,hy,ab,ey,cA (n:=aD s (2*j+1)) (by omega),wrap64 (by omega) (by omega),Dp,ab,en,show ((aD s (2*j):Nat):Int)*2^8+((aD s (2*j+1):Nat):Int)=((aD s (2*j)*256+aD s (2*j+1):Nat):Int) by omega];rfl
  ·have hz:=zC (s:=s) (i:=2*j+1) (by omega)
   rw [decide_eq_false (by omega),cond_false,Dp,ab,en,show ((aD s (2*j):Nat):Int)*2^8=((aD s (2*j)*256+aD s (2*j+1):Nat):Int) by rw [hz];omega];rfl
 ·simp only [mc]
  rw [decide_eq_false (by omega)];rfl
theorem Wz (s:Bytes)(h:s.length≤1000000000):qw s=some (sw s ((s.length+1)/2)):=by
 unfold qw
 refine bz (fun j=>(sw s j,((2*j:Nat):Int))) ((s.length+1)/2) (by omega) (fun j nx hj=> ?_) (fun nx=> ?_)
 ·have b0:=bG s (2*j)
  have b1:=bG s (2*j+1)
  obtain ⟨x,hx,ex⟩:=eI (s:=s) (i:=2*j) (by omega)
  simp only [lO]
  rw [decide_eq_true (by omega),cond_true,hx,ab,if_neg (by omega),wrap64 (n:=((2*j:Nat):Int)+1) (by omega) (by omega),wrap64 (n:=((2*j:Nat):Int)+2) (by omega) (by omega),ex,cA (by omega)]
  have e8:min (Int.toNat 8) (IntKind.bits .i64)=8:=rfl
  have en:((2*j:Nat):Int)+2=((2*(j+1):Nat):Int):=by omega
  rw [e8,show ((aD s (2*j):Nat):Int)*2^8=((2^8*aD s (2*j):Nat):Int) by omega,cA (n:=2^8*aD s (2*j)) (by omega)]
  by_cases hc:2*j+1<s.length
  ·obtain ⟨y,hy,ey⟩:=eI (s:=s) (i:=2*j+1) hc
   rw [decide_eq_true (by omega),cond_true,show ((2*j:Nat):Int)+1=((2*j+1:Nat):Int) by omega,hy,ab,ey,cA (n:=aD s (2*j+1)) (by omega),zV (aD s (2*j)) 8 (aD s (2*j+1)) (by omega) (by omega),Lc,ab,en,show 2^8*aD s (2*j)+aD s (2*j+1)=aD s (2*j)*256+aD s (2*j+1) by omega];rfl
  ·have hz:=zC (s:=s) (i:=2*j+1) (by omega)
   rw [decide_eq_false (by omega),cond_false,Lc,ab,en,show ((2^8*aD s (2*j):Nat):Int)=((aD s (2*j)*256+aD s (2*j+1):Nat):Int) by rw [hz];omega];rfl
 ·simp only [lO]
  rw [decide_eq_false (by omega)];rfl
def Gj (s:Bytes):Int:=65535-sw s ((s.length+1)/2)
theorem Bc (s:Bytes)(h:s.length≤1000000000):fi s=some (Gj s):=by
 have:=Uf s ((s.length+1)/2)
 simp only [fi,W9 s h,ab]
 rw [wrap64 (by omega) (by omega)];rfl
theorem Dj (s:Bytes)(h:s.length≤1000000000):dG s=some (Gj s):=by
 have:=Uf s ((s.length+1)/2)
 simp only [dG,Wz s h,ab]
 rw [wrap64 (by omega) (by omega)];rfl
def od (s:Bytes)(a:Int)(p:Bytes):Bytes:=bif bU s a (p.length:Int) then (s.take a.toNat++p)++s.drop (a.toNat+p.length) else s
theorem py (s:Bytes)(a:Int)(p:Bytes):(od s a p).length=s.length:=by
 unfold od
 cases hw:bU s a (p.length:Int) with
 |false=>rfl
 |true=>
  simp only [bU,decide_eq_true_eq] at hw
  simp only [cond_true,List.length_append,List.length_take,List.length_drop]
  omega
theorem LX (s:Bytes)(a:Int)(p:Bytes)(h:s.length≤1000000000)(hw:bU s a (p.length:Int)=true):
 (aa (sub s 0 a) fun x2=>room (List.length x2+List.length p) (aa (sub s (IntKind.wrap .i64 (a+((List.length p:Int)))) ((List.length s:Int))) fun x3=>room (List.length (x2++p)+List.length x3) (some ((x2++p)++x3))))=some (od s a p):=by
 have hw':=hw
 simp only [bU,decide_eq_true_eq] at hw'
 obtain ⟨n,rfl⟩:=Int.eq_ofNat_of_zero_le hw'.1
 have e1:sub s 0 (n:Int)=some (s.take n):=by unfold sub;rw [if_pos (by omega)];rfl
 have e2:sub s (((n+p.length:Nat):Int)) (s.length:Int)=some (s.drop (n+p.length)):=by
  unfold sub;rw [if_pos (by omega),Int.toNat_natCast,Int.toNat_natCast,List.take_length]
 rw [e1,wrap64 (by omega) (by omega),show (n:Int)+(p.length:Int)=((n+p.length:Nat):Int) by omega,e2,ab,ao (by simp only [List.length_take];omega),ab,ao (by simp only [List.length_append,List.length_take,List.length_drop];omega)]
 unfold od
 rw [hw];rfl
theorem uQ (s:Bytes)(a:Int)(p:Bytes)(h:s.length≤1000000000):bP s a p=some (od s a p):=by
 unfold bP
 rw [yd s a _ h (by omega),ab]
 cases hw:bU s a (p.length:Int) with
 |false=>simp only [Bool.not_false,cond_true,od,hw,cond_false]
 |true=>exact LX s a p h hw
theorem vY (s:Bytes)(a:Int)(p:Bytes)(h:s.length≤1000000000)(hp:p.length≤1000000000):cl s a p=some (od s a p):=by
 unfold cl
 rw [wrap64 (n:=(s.length:Int)-(p.length:Int)) (by omega) (by omega)]
 cases hw:bU s a (p.length:Int) with
 |true=>
  have hw':=hw
  simp only [bU,decide_eq_true_eq] at hw'
  rw [decide_eq_false (show¬a<0 by omega),decide_eq_false (show¬a>(s.length:Int)-(p.length:Int) by omega)]
  exact LX s a p h hw
 |false=>
  have hp:od s a p=s:=by unfold od;rw [hw];rfl
  rw [hp]
  simp only [bU,decide_eq_false_iff_not] at hw
  by_cases h0:a<0
  ·rw [decide_eq_true h0];rfl
  ·rw [decide_eq_false h0,decide_eq_true (show a>(s.length:Int)-(p.length:Int) by omega)];rfl
def bs2 (x y:Int):Bytes:=bytesOf [x,y]
theorem HR (x y:Int):(bs2 x y).length=2:=rfl
def sB (a b k n:Int):Bool:=bp a 0 4294967295&&(bp b 0 4294967295&&(bp k 0 255&&bp n 0 65535))
def px (a b k n:Int):Bytes:=((dF a++dF b)++bs2 0 (IntKind.wrap .u8 k))++aF n
theorem yJ (a b k n:Int):(px a b k n).length≤12:=by
 have:=bD a
 have:=bD b
 have:=aA n
 simp only [px,List.length_append,HR];omega
theorem wU (a b k n:Int):eu a b k n=some (bif sB a b k n then (px a b k n,true) else ([],false)):=by
 have:=bD a
 have:=bD b
 have:=aA n
 unfold eu sB
 simp only [bh,ab,js,dw]
 cases bp a 0 4294967295 with|false=>rfl|true=> ?_
 cases bp b 0 4294967295 with|false=>rfl|true=> ?_
 cases bp k 0 255 with|false=>rfl|true=> ?_
 cases bp n 0 65535 with|false=>rfl|true=> ?_
 simp only [Bool.not_true,cond_false,Bool.and_self,cond_true,ab]
 have e:(bytesOf [0,IntKind.wrap .u8 k]).length=2:=rfl
 rw [ao (by omega),ao (by simp only [List.length_append,e];omega),ao (by simp only [List.length_append,e];omega)];rfl
theorem EZ (a b k n:Int):kB a b k n=some (bif sB a b k n then (px a b k n,true) else ([],false)):=wU a b k n
def bare (g:bw):Bytes:=bif g.1==6 then
    (((((aF g.2.1++aF g.2.2.1)++dF g.2.2.2.1)++dF g.2.2.2.2.1)++bs2 80 (IntKind.wrap .u8 g.2.2.2.2.2.1))++aF g.2.2.2.2.2.2.1)++dF 0++g.2.2.2.2.2.2.2
 else (((aF g.2.1++aF g.2.2.1)++aF (8+(g.2.2.2.2.2.2.2.length:Int)))++aF 0)++g.2.2.2.2.2.2.2
theorem HP (g:bw):(bare g).length≤20+g.2.2.2.2.2.2.2.length:=by
 have:=aA g.2.1
 have:=aA g.2.2.1
 have:=bD g.2.2.2.1
 have:=bD g.2.2.2.2.1
 have:=aA g.2.2.2.2.2.2.1
 have:=bD 0
 have:=aA 0
 have:=aA (8+(g.2.2.2.2.2.2.2.length:Int))
 unfold bare
 cases g.1==6<;>simp only [cond_true,cond_false,List.length_append,HR]<;>omega
theorem R9:aF 0++aF 0=dF 0:=by rfl
theorem SW (g:bw)(h:g.2.2.2.2.2.2.2.length≤1000000):lR g=some (bare g):=by
 have:=aA g.2.1
 have:=aA g.2.2.1
 have:=bD g.2.2.2.1
 have:=bD g.2.2.2.2.1
 have:=aA g.2.2.2.2.2.2.1
 have:=aA 0
 have:=aA (8+(g.2.2.2.2.2.2.2.length:Int))
 have e:∀x,(bytesOf [80,IntKind.wrap .u8 x]).length=2:=fun _=>rfl
 unfold lR bare
 rw [wrap64 (n:=8+(g.2.2.2.2.2.2.2.length:Int)) (by omega) (by omega)]
 simp only [fB,tp,ab]
 rw [ao (by omega)]
 cases g.1==6 with
 |true=>
  simp only [cond_true]
  rw [ao (by simp only [List.length_append,e];omega),ao (by simp only [List.length_append,e];omega),ao (by simp only [List.length_append,e];omega),ao (by simp only [List.length_append,e];omega),ao (by simp only [List.length_append,e];omega),ao (by simp only [List.length_append,e];omega),ao (by simp only [List.length_append,e];omega)]
  rw [←R9]
  simp only [bs2,List.append_assoc]
 |false=>
  simp only [cond_false]
  rw [ao (by simp only [List.length_append];omega),ao (by simp only [List.length_append];omega),ao (by simp only [List.length_append];omega)]
def PR (a b:Int)(g:bw):Int:=bif (Gj (px a b g.1 ((bare g).length:Int)++bare g)==0)&&(g.1==17) then 65535 else Gj (px a b g.1 ((bare g).length:Int)++bare g)
def PJ (a b:Int)(g:bw):Bytes:=od (bare g) (bif g.1==6 then 16 else 6) (aF (PR a b g))
def FC (a b:Int)(g:bw):Bool:=zY g&&sB a b g.1 ((bare g).length:Int)
def uZ (a b:Int)(g:bw):Bytes×Bool:=bif FC a b g then (PJ a b g,true) else ([],false)
theorem AY {g:bw}(h:zY g=true):g.2.2.2.2.2.2.2.length≤320:=by
 simp only [zY,Bool.and_eq_true,Bool.not_eq_true',decide_eq_false_iff_not] at h
 omega
theorem yc (a b:Int)(g:bw):ej a b g=some (uZ a b g):=by
 unfold ej uZ FC
 rw [PN,ab]
 cases hg:zY g with|false=>rfl|true=> ?_
 have hb:=AY hg
 have hl:=HP g
 have hp:=yJ a b g.1 ((bare g).length:Int)
 have:=aA g.2.1
 have:=aA g.2.2.1
 have:=bD g.2.2.2.1
 have:=bD g.2.2.2.2.1
 have:=aA g.2.2.2.2.2.2.1
 have:=bD 0
 have:=aA 0
 have:=aA (8+(g.2.2.2.2.2.2.2.length:Int))
 have e:∀x,(bytesOf [80,IntKind.wrap .u8 x]).length=2:=fun _=>rfl
 rw [wrap64 (n:=8+(g.2.2.2.2.2.2.2.length:Int)) (by omega) (by omega)]
 simp only [dw,js,ab,Bool.not_true,cond_false,Bool.true_and]
 rw [ao (by omega)]
 cases h6:g.1==6 with
 |true=>
  have hbare:bare g=(((((aF g.2.1++aF g.2.2.1)++dF g.2.2.2.1)++dF g.2.2.2.2.1)++bytesOf [80,IntKind.wrap .u8 g.2.2.2.2.2.1])++aF g.2.2.2.2.2.2.1)++dF 0++g.2.2.2.2.2.2.2:=by unfold bare;rw [h6];rfl
  simp only [cond_true]
  rw [ao (by simp only [List.length_append,e];omega),ao (by simp only [List.length_append,e];omega),ao (by simp only [List.length_append,e];omega),ao (by simp only [List.length_append,e];omega),ao (by simp only [List.length_append,e];omega),ao (by simp only [List.length_append,e];omega),←hbare,wU,ab]
  cases sB a b g.1 ((bare g).length:Int) with|false=>rfl|true=> ?_
  simp only [cond_true,Bool.not_true,cond_false]
  rw [ao (by omega),Bc _ (by simp only [List.length_append];omega)]
  simp only [ab,aH,uQ _ _ _ (show (bare g).length≤1000000000 by omega),PJ,PR,h6,cond_true,cF]
  cases (Gj (px a b g.1 ((bare g).length:Int)++bare g)==0)&&(g.1==17)<;>rfl
 |false=>
  have hbare:bare g=(((aF g.2.1++aF g.2.2.1)++aF (8+(g.2.2.2.2.2.2.2.length:Int)))++aF 0)++g.2.2.2.2.2.2.2:=by unfold bare;rw [h6];rfl
  simp only [cond_false]
  rw [ao (by simp only [List.length_append];omega),ao (by simp only [List.length_append];omega),ao (by simp only [List.length_append];omega),←hbare,wU,ab]
  cases sB a b g.1 ((bare g).length:Int) with|false=>rfl|true=> ?_
  simp only [cond_true,Bool.not_true,cond_false]
  rw [ao (by omega),Bc _ (by simp only [List.length_append];omega)]
  simp only [ab,aH,uQ _ _ _ (show (bare g).length≤1000000000 by omega),PJ,PR,h6,cond_false,cF]
  cases (Gj (px a b g.1 ((bare g).length:Int)++bare g)==0)&&(g.1==17)<;>rfl
theorem xN (a b:Int)(g:bw):ed a b g=some (uZ a b g):=by
 unfold ed uZ FC
 rw [Pt,ab]
 cases hg:zY g with|false=>rfl|true=> ?_
 have hb:=AY hg
 have hl:=HP g
 have hp:=yJ a b g.1 ((bare g).length:Int)
 have hsp:bX g.1=some (bif g.1==6 then 16 else 6):=by unfold bX;rw [aH]
 have w1:=aA 65535
 have w2:=aA (Gj (px a b g.1 ((bare g).length:Int)++bare g))
 simp only [SW g (by omega),EZ,ab,Bool.not_true,cond_false,Bool.true_and]
 cases sB a b g.1 ((bare g).length:Int) with|false=>rfl|true=> ?_
 simp only [cond_true,Bool.not_true,cond_false]
 rw [ao (by omega),Dj _ (by simp only [List.length_append];omega)]
 simp only [ab,aH,hsp,fB,vY _ _ _ (show (bare g).length≤1000000000 by omega) (show (aF 65535).length≤1000000000 by omega),vY _ _ _ (show (bare g).length≤1000000000 by omega) (show (aF (Gj (px a b g.1 ((bare g).length:Int)++bare g))).length≤1000000000 by omega),PJ,PR,cF]
 rw [Bool.and_comm]
 cases (Gj (px a b g.1 ((bare g).length:Int)++bare g)==0)&&(g.1==17)<;>rfl
theorem W3 (a b:Int)(g:bw):(uZ a b g).1.length≤340:=by
 unfold uZ
 cases h:FC a b g with
 |false=>exact Nat.zero_le _
 |true=>
  simp only [FC,Bool.and_eq_true] at h
  have:=AY h.1
  have:=HP g
  show (od _ _ _).length≤340
  rw [py];omega
end
end Go.Pu
end
section
namespace Go.Pu
open Go.Dn
set_option linter.unusedSimpArgs false
set_option linter.unusedVariables false
noncomputable section
theorem fc (a:List Bytes)(h:a.length≤1073741824):bQ a=some a:=by
 simp only [bQ,fw]
 rw [ao (by simpa using h)];rfl
theorem jm (a:List Bytes)(h:a.length≤1073741824):ch a=some a:=by
 simp only [ch]
 rw [ao (by simpa using h)];rfl
end
end Go.Pu
end
section
namespace Go.Pu
open Go.Dn
set_option linter.unusedSimpArgs false
set_option linter.unusedVariables false
noncomputable section
def zh (x:Bytes)(o:Nat)(t:Bytes):Bytes:=x.take o++(t++x.drop (o+t.length))
theorem Rp {x:Bytes}{o:Nat}{t:Bytes}(h:o+t.length≤x.length):(zh x o t).length=x.length:=by
 simp only [zh,List.length_append,List.length_take,List.length_drop];omega
theorem Rs (x:Bytes)(o:Nat)(t:Bytes):bytesOf (vw (bc x) o (bc t))=zh x o t:=by
 have e:vw (bc x) o (bc t)=bc (zh x o t):=by
  simp only [vw,zh,bc,List.map_append,List.map_take,List.map_drop,List.length_map]
 rw [e,DR]
theorem TO {x:Bytes}{o:Nat}{t:Bytes}(h:o+t.length≤x.length):od x (o:Int) t=zh x o t:=by
 unfold od bU
 rw [decide_eq_true ⟨by omega,by omega⟩]
 simp only [cond_true,Int.toNat_natCast,zh,List.append_assoc]
def ug:Nat→List Bytes→Nat→Bytes→List Bytes
 |0,m,_,_=>m
 |n+1,m,a,s=>if s.length=0 then m else
  ug n (m.set (a/128) (zh (m.getD (a/128) []) (a%128) (s.take (128-a%128)))) (a+min (128-a%128) s.length) (s.drop (128-a%128))
def wJ (m:List Bytes):Prop:=(∀x∈m,x.length=128)∧m.length≤64
theorem yI {m:List Bytes}:cR m=true↔wJ m:=mem_iff
theorem B9 {m:List Bytes}{p:Nat}{x:Bytes}(h:wJ m)(hx:x.length=128):wJ (m.set p x):=by
 refine ⟨fun y hy=> ?_,by rw [List.length_set];exact h.2⟩
 rcases List.mem_or_eq_of_mem_set hy with g|g
 ·exact h.1 y g
 ·rw [g];exact hx
theorem Ad {m:List Bytes}(h:wJ m){a:Nat}{s:Bytes}(hs:s.length≠0)(ha:a+s.length≤128*m.length):
 ∃(hp:a/128<m.length),(m[a/128]'hp).length=128∧(zh (m[a/128]'hp) (a%128) (s.take (128-a%128))).length=128:=by
 have hp:a/128<m.length:=by omega
 have hl:=h.1 _ (List.getElem_mem hp)
 refine ⟨hp,hl, ?_⟩
 rw [Rp (by rw [List.length_take,hl];omega),hl]
theorem xd:∀(n:Nat){m:List Bytes}{a:Nat}{s:Bytes},wJ m→a+s.length≤128*m.length→wJ (ug n m a s)∧(ug n m a s).length=m.length
 |0,m,a,s,h,_=>⟨h,rfl⟩
 |n+1,m,a,s,h,ha=>by
  rw [ug]
  split
  ·exact ⟨h,rfl⟩
  ·rename_i hs
   obtain ⟨hp,hl,ho⟩:=Ad h hs ha
   rw [bB hp]
   have:=xd n (m:=m.set (a/128) (zh m[a/128] (a%128) (s.take (128-a%128)))) (a:=a+min (128-a%128) s.length) (s:=s.drop (128-a%128)) (B9 h ho) (by rw [List.length_set,List.length_drop];omega)
   rw [List.length_set] at this
   exact this
theorem zc {R:Type}(K:Int→Bytes→List Bytes→Option R)(K':List Bytes→Option R)(hK:∀a m,K a [] m=K' m):∀(n:Nat)(m:List Bytes)(a:Nat)(s:Bytes)(f:Nat),s.length≤n→n<f→wJ m→a+s.length≤128*m.length→
 aq (hH K ([]:List Bytes)) f ((a:Int),s,m)=K' (ug n m a s)
 |n,m,a,s,0,_,hf,_,_=>by omega
 |n,m,a,s,f+1,hs,hf,hm,ha=>by
  rw [aq]
  simp only [hH]
  by_cases h0:s.length=0
  ·have:s=[]:=List.eq_nil_of_length_eq_zero h0
   subst this
   rw [decide_eq_false (by simp),cond_false,hK]
   cases n<;>simp [ug]
  ·cases n with
   |zero=>omega
   |succ n=>
    obtain ⟨hp,hl,ho⟩:=Ad hm h0 ha
    have h64:=hm.2
    have e1:Int.tdiv (a:Int) 128=((a/128:Nat):Int):=HE a 128
    have e2:Int.tmod (a:Int) 128=((a%128:Nat):Int):=F3 a 128
    rw [decide_eq_true (by omega),cond_true,if_neg (by omega),e1,e2,wrap64 (n:=((a/128:Nat):Int)) (by omega) (by omega),ax hp,ab,ao (by omega),if_neg (by omega)]
    have hsub:sub (bc m[a/128]) ((a%128:Nat):Int) ((bc m[a/128]).length:Int)=some ((bc m[a/128]).drop (a%128)):=by
     rw [Dq _ _ _ (by rw [AL];omega) (Nat.le_refl _),List.take_of_length_le (by rw [List.length_drop];exact Nat.le_refl _)]
    rw [hsub,ab,if_neg (by omega),ab,ab]
    have hd:((bc m[a/128]).drop (a%128)).length=128-a%128:=by rw [List.length_drop,AL,hl]
    rw [hd]
    have hdr:s.drop (min (128-a%128) s.length)=s.drop (128-a%128):=by
     by_cases h3:128-a%128≤s.length
     ·rw [Nat.min_eq_left h3]
     ·rw [Nat.min_eq_right (by omega),List.drop_of_length_le (Nat.le_refl _),List.drop_of_length_le (by omega)]
    have hsub2:sub s (((min (128-a%128) s.length:Nat)):Int) ((s.length:Int))=some (s.drop (128-a%128)):=by
     rw [←hdr];unfold sub;rw [if_pos (by omega)];simp
    rw [hsub2,ab,wrap64 (n:=(a:Int)+((min (128-a%128) s.length:Nat):Int)) (by omega) (by omega),Int.toNat_natCast,Int.toNat_natCast,Rs]
    rw [ug,if_neg h0,bB hp,show (a:Int)+((min (128-a%128) s.length:Nat):Int)=((a+min (128-a%128) s.length:Nat):Int) by omega]
    exact zc K K' hK n _ _ _ f (by rw [List.length_drop];omega) (by omega) (B9 hm ho) (by rw [List.length_set,List.length_drop];omega)
theorem zo {R:Type}(K:Int→Bytes→List Bytes→Option R)(K':List Bytes→Option R)(hK:∀a m,K a [] m=K' m):∀(n:Nat)(m:List Bytes)(a:Nat)(s:Bytes)(f:Nat),s.length≤n→n<f→wJ m→a+s.length≤128*m.length→
 aq (ij K ([]:List Bytes)) f ((a:Int),s,m)=K' (ug n m a s)
 |n,m,a,s,0,_,hf,_,_=>by omega
 |n,m,a,s,f+1,hs,hf,hm,ha=>by
  rw [aq]
  simp only [ij]
  by_cases h0:s.length=0
  ·have:s=[]:=List.eq_nil_of_length_eq_zero h0
   subst this
   rw [decide_eq_false (by simp),cond_false,hK]
   cases n<;>simp [ug]
  ·cases n with
   |zero=>omega
   |succ n=>
    obtain ⟨hp,hl,ho⟩:=Ad hm h0 ha
    have h64:=hm.2
    have e1:Int.tdiv (a:Int) 128=((a/128:Nat):Int):=HE a 128
    have e2:Int.tmod (a:Int) 128=((a%128:Nat):Int):=F3 a 128
    rw [decide_eq_true (by omega),cond_true,if_neg (by omega),if_neg (by omega),if_neg (by omega),e1,e2,wrap64 (n:=((a/128:Nat):Int)) (by omega) (by omega),wrap64 (n:=128-((a%128:Nat):Int)) (by omega) (by omega),ax hp,ab]
    obtain ⟨c,hc⟩:∃c,min (128-a%128) s.length=c:=⟨_,rfl⟩
    rw [show (if 128-((a%128:Nat):Int)<(s.length:Int) then 128-((a%128:Nat):Int) else (s.length:Int))=(c:Int) by split<;>omega]
    have ht:s.take c=s.take (128-a%128):=by
     by_cases h3:128-a%128≤s.length
     ·rw [←hc,Nat.min_eq_left h3]
     ·rw [←hc,Nat.min_eq_right (by omega),List.take_of_length_le (Nat.le_refl _),List.take_of_length_le (by omega)]
    have hdr:s.drop c=s.drop (128-a%128):=by
     by_cases h3:128-a%128≤s.length
     ·rw [←hc,Nat.min_eq_left h3]
     ·rw [←hc,Nat.min_eq_right (by omega),List.drop_of_length_le (Nat.le_refl _),List.drop_of_length_le (by omega)]
    have hs1:sub s 0 (c:Int)=some (s.take (128-a%128)):=by
     rw [←ht];unfold sub;rw [if_pos (by omega)];simp
    have hs2:sub s (c:Int) (s.length:Int)=some (s.drop (128-a%128)):=by
     rw [←hdr];unfold sub;rw [if_pos (by omega)];simp
    rw [hs1,ab,uQ _ _ _ (by omega),ab,ab,ab,hs2,ab,TO (by rw [List.length_take,hl];omega),wrap64 (n:=(a:Int)+(c:Int)) (by omega) (by omega),Int.toNat_natCast]
    rw [ug,if_neg h0,bB hp,hc,show (a:Int)+(c:Int)=((a+c:Nat):Int) by omega]
    exact zo K K' hK n _ _ _ f (by rw [List.length_drop];omega) (by omega) (B9 hm ho) (by rw [List.length_set,List.length_drop];omega)
def pU (m:List Bytes)(a:Int)(s:Bytes):List Bytes×Bool:=bif cw m a (s.length:Int) then (ug s.length m a.toNat s,true) else (m,false)
theorem NA (m:List Bytes)(a:Int)(s:Bytes)(h:m.length≤1000000000)(hs:s.length≤1000000000):lQ m a s=some (pU m a s):=by
 have hfu:=bl
 unfold lQ pU
 rw [fc m (by omega),ab,xO m _ _ h,ab]
 cases hw:cw m a (s.length:Int) with|false=>rfl|true=> ?_
 simp only [cw,Bool.and_eq_true,decide_eq_true_eq] at hw
 obtain ⟨a,rfl⟩:=Int.eq_ofNat_of_zero_le hw.2.2.1
 simp only [Bool.not_true,cond_false,cond_true,Int.toNat_natCast]
 exact zc _ (fun m=>some (m,true)) (fun _ _=>rfl) s.length m a s fuel (Nat.le_refl _) (by omega) (yI.1 hw.1) (by omega)
theorem Ot (m:List Bytes)(a:Int)(s:Bytes)(h:m.length≤1000000000)(hs:s.length≤1000000000):me m a s=some (pU m a s):=by
 have hfu:=bl
 unfold me pU
 rw [jm m (by omega),ab,ye m _ _ h,ab]
 cases hw:cw m a (s.length:Int) with|false=>rfl|true=> ?_
 simp only [cw,Bool.and_eq_true,decide_eq_true_eq] at hw
 obtain ⟨a,rfl⟩:=Int.eq_ofNat_of_zero_le hw.2.2.1
 simp only [Bool.not_true,cond_false,cond_true,Int.toNat_natCast]
 exact zo _ (fun m=>some (m,true)) (fun _ _=>rfl) s.length m a s fuel (Nat.le_refl _) (by omega) (yI.1 hw.1) (by omega)
end
end Go.Pu
end
section
namespace Go.Pu
open Go.Dn
set_option linter.unusedSimpArgs false
set_option linter.unusedVariables false
noncomputable section
theorem yl (m:List Bytes)(a:Int)(s:Bytes):(pU m a s).1.length=m.length:=by
 unfold pU
 cases hw:cw m a (s.length:Int) with|false=>rfl|true=> ?_
 simp only [cw,Bool.and_eq_true,decide_eq_true_eq] at hw
 exact (xd s.length (yI.1 hw.1) (by omega)).2
def Jt:List (Int×Int)→List Bytes→Bytes→List Bytes
 |[],m,_=>m
 |p::q,m,s=>Jt q (pU m p.1 (s.take p.2.toNat)).1 (s.drop p.2.toNat)
theorem LU:∀(q:List (Int×Int))(m:List Bytes)(s:Bytes),(Jt q m s).length=m.length
 |[],m,s=>rfl
 |p::q,m,s=>by rw [Jt,LU q,yl]
def Db (q:List (Int×Int)):Int:=(q.map (·.2)).sum
theorem PT:∀(q:List (Int×Int)),(∀p∈q,0≤p.2)→0≤Db q
 |[],_=>Int.le_refl _
 |p::q,h=>by
  have:=PT q (fun x hx=>h x (by simp [hx]))
  have:=h p (by simp)
  simp only [Db,List.map_cons,List.sum_cons] at*;omega
theorem LY {p:Int×Int}{q:List (Int×Int)}(hc:∀x∈p::q,0≤x.2){s:Bytes}(hs:(s.length:Int)=Db (p::q)):0≤p.2∧p.2≤(s.length:Int)∧((s.drop p.2.toNat).length:Int)=Db q:=by
 have h1:=hc p (by simp)
 have h2:=PT q (fun x hx=>hc x (by simp [hx]))
 have h3:Db (p::q)=p.2+Db q:=by simp [Db]
 rw [h3] at hs
 refine ⟨h1,by omega, ?_⟩
 rw [List.length_drop];omega
theorem HD {s:Bytes}{c:Int}(h0:0≤c)(h1:c≤(s.length:Int)):sub s 0 c=some (s.take c.toNat):=by
 unfold sub;rw [if_pos (by omega)];simp
theorem Ml {s:Bytes}{c:Int}(h0:0≤c)(h1:c≤(s.length:Int)):sub s c (s.length:Int)=some (s.drop c.toNat):=by
 unfold sub;rw [if_pos (by omega)];simp
theorem CA (K:Bytes→Int→List Bytes→Option (List Bytes×Bool))(hK:∀s i m,K s i m=some (m,true)):∀(rest pre:List (Int×Int))(m:List Bytes)(s:Bytes)(f:Nat),rest.length<f→pre.length+rest.length≤1000000→(∀x∈rest,0≤x.2)→(s.length:Int)=Db rest→m.length≤1000000000→s.length≤1000000→
 aq (rn K (pre++rest) ((pre++rest).length:Int) ([]:List Bytes)) f (s,(pre.length:Int),m)=some (Jt rest m s,true)
 |rest,pre,m,s,0,hf,_,_,_,_,_=>by omega
 |[],pre,m,s,f+1,_,_,_,_,_,_=>by
  rw [aq]
  simp only [rn]
  rw [decide_eq_false (by simp),cond_false,hK];rfl
 |p::q,pre,m,s,f+1,hf,hn,hc,hs,hm,hl=>by
  obtain ⟨h1,h2,h3⟩:=LY hc hs
  simp only [List.length_cons] at hf hn
  have hi:pre.length<(pre++p::q).length:=by simp
  have hp:(pre++p::q)[pre.length]=p:=by simp
  rw [aq]
  simp only [rn]
  rw [decide_eq_true (by simp;omega),ax hi,hp,wrap64 (by omega) (by omega)]
  simp only [cond_true,ab,HD h1 h2,Ml h1 h2,NA m _ _ hm (show (s.take p.2.toNat).length≤1000000000 by rw [List.length_take];omega)]
  have key:=CA K hK q (pre++[p]) (pU m p.1 (s.take p.2.toNat)).1 (s.drop p.2.toNat) f (by omega) (by simp;omega) (fun x hx=>hc x (by simp [hx])) h3 (by rw [yl];exact hm) (by rw [List.length_drop];omega)
  have el:((pre++[p]).length:Int)=(pre.length:Int)+1:=by simp
  rw [List.append_assoc,List.singleton_append,el] at key
  rw [Jt]
  exact key
theorem CM (K:Bytes→Int→List Bytes→Option (List Bytes×Bool))(hK:∀s i m,K s i m=some (m,true)):∀(rest pre:List (Int×Int))(m:List Bytes)(s:Bytes)(f:Nat),rest.length<f→pre.length+rest.length≤1000000→(∀x∈rest,0≤x.2)→(s.length:Int)=Db rest→m.length≤1000000000→s.length≤1000000→
 aq (iJ K ((pre++rest).map (·.1)) ((pre++rest).map (·.2)) ([]:List Bytes)) f (s,(pre.length:Int),m)=some (Jt rest m s,true)
 |rest,pre,m,s,0,hf,_,_,_,_,_=>by omega
 |[],pre,m,s,f+1,_,_,_,_,_,_=>by
  rw [aq]
  simp only [iJ]
  rw [decide_eq_false (by simp),cond_false,hK];rfl
 |p::q,pre,m,s,f+1,hf,hn,hc,hs,hm,hl=>by
  obtain ⟨h1,h2,h3⟩:=LY hc hs
  simp only [List.length_cons] at hf hn
  have hi:pre.length<(pre++p::q).length:=by simp
  have hp:(pre++p::q)[pre.length]=p:=by simp
  have i1:idx ((pre++p::q).map (·.1)) (pre.length:Int)=some p.1:=by rw [ax (by simp),List.getElem_map,hp]
  have i2:idx ((pre++p::q).map (·.2)) (pre.length:Int)=some p.2:=by rw [ax (by simp),List.getElem_map,hp]
  rw [aq]
  simp only [iJ]
  rw [decide_eq_true (by simp;omega),i1,i2,wrap64 (by omega) (by omega)]
  simp only [cond_true,ab,HD h1 h2,Ml h1 h2,Ot m _ _ hm (show (s.take p.2.toNat).length≤1000000000 by rw [List.length_take];omega)]
  have key:=CM K hK q (pre++[p]) (pU m p.1 (s.take p.2.toNat)).1 (s.drop p.2.toNat) f (by omega) (by simp;omega) (fun x hx=>hc x (by simp [hx])) h3 (by rw [yl];exact hm) (by rw [List.length_drop];omega)
  have el:((pre++[p]).length:Int)=(pre.length:Int)+1:=by simp
  rw [List.append_assoc,List.singleton_append,el] at key
  rw [Jt]
  exact key
theorem Fq (l:List ae)(m:List Bytes)(d:Int)(w:Bool):∀(n a r:Nat)(q:List (Int×Int)),r≤n→jr l m d w n a r=some q→Db q=(r:Int)∧(∀p∈q,0≤p.2)∧q.length≤n
 |0,a,r,q,hr,h=>by
  simp only [jr,Option.some.injEq] at h;subst h
  exact ⟨by show (0:Int)=_;omega,by simp,by simp⟩
 |n+1,a,r,q,hr,h=>by
  simp only [jr] at h
  split at h
  ·simp only [Option.some.injEq] at h;subst h
   exact ⟨by show (0:Int)=_;omega,by simp,by simp⟩
  ·split at h
   ·simp only [Option.map_eq_some_iff] at h
    obtain ⟨q',h1,rfl⟩:=h
    obtain ⟨i1,i2,i3⟩:=Fq l m d w n _ _ q' (by omega) h1
    refine ⟨?_, ?_,by simp only [List.length_cons];omega⟩
    ·simp only [Db,List.map_cons,List.sum_cons] at i1⊢
     rw [i1];omega
    ·intro p hp
     rcases List.mem_cons.1 hp with rfl|hp
     ·show (0:Int)≤((min (128-a%128) r:Nat):Int);omega
     ·exact i2 p hp
   ·cases h
theorem Hs (l:List ae)(m:List Bytes)(d a n:Int)(w:Bool)(h:(gD l m d a n w).2=true):Db (gD l m d a n w).1=n∧(∀p∈(gD l m d a n w).1,0≤p.2)∧(gD l m d a n w).1.length≤4096∧n≤4096:=by
 unfold gD at h⊢
 cases hB:cD l&&(cR m&&bp n 0 4096) with|false=>rw [hB] at h;simp at h|true=> ?_
 rw [hB] at h
 simp only [Bool.and_eq_true,aQ] at hB
 simp only [cond_true] at h⊢
 cases h0:n==0 with
 |true=>
  have:n=0:=by simpa using h0
  subst this
  exact ⟨rfl,by simp,by simp,by omega⟩
 |false=>
  rw [h0] at h
  simp only [cond_false] at h⊢
  cases ha:decide (a<0) with
  |true=>rw [ha] at h;simp at h
  |false=>
   rw [ha] at h
   simp only [cond_false] at h⊢
   cases hq:jr l m d w n.toNat a.toNat n.toNat with
   |none=>rw [hq] at h;cases h
   |some q=>
    obtain ⟨i1,i2,i3⟩:=Fq l m d w _ _ _ q (Nat.le_refl _) hq
    exact ⟨by simp only;rw [i1];omega,i2,by simp only;omega,by omega⟩
def lr (l:List ae)(m:List Bytes)(d a:Int)(s:Bytes)(w:Bool):List Bytes×Bool:=
 bif (gD l m d a (s.length:Int) w).2 then (Jt (gD l m d a (s.length:Int) w).1 m s,true) else (m,false)
theorem tV (l:List ae)(m:List Bytes)(d a:Int)(s:Bytes)(w:Bool):(lr l m d a s w).1.length=m.length:=by
 unfold lr
 cases (gD l m d a (s.length:Int) w).2 with
 |false=>rfl
 |true=>exact LU _ _ _
theorem S6 (l:List ae)(m:List Bytes)(d a:Int)(s:Bytes)(w:Bool)(hl:l.length≤1000000000)(hm:m.length≤1000000000)(ha:a≤9223372036854775807):AH l m d a s w=some (lr l m d a s w):=by
 have hfu:=bl
 unfold AH lr
 rw [fc m (by omega),ab,Lm l m d a _ w hl hm ha,ab]
 have hS:=Hs l m d a (s.length:Int) w
 generalize gD l m d a (s.length:Int) w=r at hS⊢
 cases hr:r.2 with|false=>rfl|true=> ?_
 obtain ⟨h1,h2,h3,h4⟩:=hS hr
 simp only [Bool.not_true,cond_false,cond_true]
 exact CA _ (fun _ _ _=>rfl) r.1 [] m s fuel (by omega) (by simp;omega) h2 h1.symm hm (by omega)
theorem wS (l:List ae)(m:List Bytes)(d a:Int)(s:Bytes)(hl:l.length≤1000000000)(hm:m.length≤1000000000)(ha:a≤9223372036854775807):kf l m d a s=some (lr l m d a s true):=by
 have hfu:=bl
 unfold kf lr
 rw [Hx l m d a _ true hl hm ha,ab,jm m (by omega),ab]
 have hS:=Hs l m d a (s.length:Int) true
 generalize gD l m d a (s.length:Int) true=r at hS⊢
 cases hr:r.2 with|false=>rfl|true=> ?_
 obtain ⟨h1,h2,h3,h4⟩:=hS hr
 simp only [Bool.not_true,cond_false,cond_true]
 exact CM _ (fun _ _ _=>rfl) r.1 [] m s fuel (by omega) (by simp;omega) h2 h1.symm hm (by omega)
theorem vX (l:List ae)(m:List Bytes)(d a:Int)(s:Bytes)(hl:l.length≤1000000000)(hm:m.length≤1000000000)(ha:a≤9223372036854775807):jW l m d a s=some (lr l m d a s true):=by
 rw [jW,S6 l m d a s true hl hm ha];rfl
end
end Go.Pu
end
section
namespace Go.Pu
open Go.Dn
set_option linter.unusedSimpArgs false
set_option linter.unusedVariables false
noncomputable section
def mz (d:Int×Int×Int×Int×Int×Int):Bool:=bp d.1 0 3&&(bp d.2.1 0 3&&(bp d.2.2.1 0 65535&&(bp d.2.2.2.2.1 0 65535&&(bp d.2.2.2.2.2 0 65535&&bp d.2.2.2.1 0 4294967295))))
theorem Lg (d:Int×Int×Int×Int×Int×Int):rj d=some (mz d):=by
 simp only [rj,bm,ab,mz]
 cases bp d.1 0 3<;>cases bp d.2.1 0 3<;>cases bp d.2.2.1 0 65535<;>cases bp d.2.2.2.2.1 0 65535<;>cases bp d.2.2.2.2.2 0 65535<;>rfl
theorem Bd (d:Int×Int×Int×Int×Int×Int):lx d=some (mz d):=by
 simp only [lx,bh,ab,mz]
 cases bp d.1 0 3<;>cases bp d.2.1 0 3<;>cases bp d.2.2.1 0 65535<;>cases bp d.2.2.2.2.1 0 65535<;>cases bp d.2.2.2.2.2 0 65535<;>rfl
def CY (d:Int×Int×Int×Int×Int×Int):Bytes:=
 bif mz d then ((((bytesOf [IntKind.wrap .u8 d.1,IntKind.wrap .u8 d.2.1]++aF d.2.2.1)++dF d.2.2.2.1)++aF d.2.2.2.2.1)++aF d.2.2.2.2.2)++dF 0 else []
theorem JI (d:Int×Int×Int×Int×Int×Int):jO d=some (CY d):=by
 have h1:=aA d.2.2.1;have h2:=bD d.2.2.2.1;have h3:=aA d.2.2.2.2.1;have h4:=aA d.2.2.2.2.2;have h5:=bD 0
 have h0:(bytesOf [IntKind.wrap .u8 d.1,IntKind.wrap .u8 d.2.1]).length=2:=rfl
 unfold jO CY
 rw [Bd,ab]
 cases mz d with|false=>rfl|true=> ?_
 simp only [Bool.not_true,cond_false,cond_true,dw,js,ab]
 rw [ao (by omega),ao (by simp only [List.length_append];omega),ao (by simp only [List.length_append];omega),ao (by simp only [List.length_append];omega),ao (by simp only [List.length_append];omega)]
theorem Ps (d:Int×Int×Int×Int×Int×Int):jH d=some (CY d):=by
 have h1:=aA d.2.2.1;have h2:=bD d.2.2.2.1;have h3:=aA d.2.2.2.2.1;have h4:=aA d.2.2.2.2.2;have h5:=bD 0
 have h0:(bytesOf [IntKind.wrap .u8 d.1,IntKind.wrap .u8 d.2.1]).length=2:=rfl
 unfold jH CY
 rw [Lg,ab]
 cases mz d with|false=>rfl|true=> ?_
 simp only [Bool.not_true,cond_false,cond_true,fB,tp,ab]
 rw [ao (by omega),ao (by simp only [List.length_append];omega),ao (by simp only [List.length_append];omega),ao (by simp only [List.length_append];omega),ao (by simp only [List.length_append];omega)]
def pW (r:Int×Int×Int×Int):Int:=bif bR r then IntKind.wrap .i64 (r.2.1-aN r) else 0
def kH (r:Int×Int×Int×Int)(c:Int):Int:=bif !bR r||decide (c<0) then-1 else r.1+Int.tmod c r.2.1*16
theorem pz {r:Int×Int×Int×Int}(h:bR r=true):0≤r.1∧r.1≤130944∧(r.2.1=2∨r.2.1=4∨r.2.1=8∨r.2.1=16)∧0≤r.2.2.1∧r.2.2.1≤2*r.2.1-1∧0≤r.2.2.2∧r.2.2.2≤2*r.2.1-1:=by
 simp only [bR,Bool.and_eq_true,aQ] at h
 exact ⟨h.1.1,h.1.2,gQ.1 h.2.1,h.2.2.1.1,h.2.2.1.2,h.2.2.2.1.1,h.2.2.2.1.2⟩
theorem vD (r:Int×Int×Int×Int)(c:Int): -1≤kH r c∧kH r c≤200000:=by
 unfold kH
 cases hc: !bR r||decide (c<0) with
 |true=>exact ⟨Int.le_refl _,by simp⟩
 |false=>
  simp only [Bool.or_eq_false_iff,Bool.not_eq_false',decide_eq_false_iff_not] at hc
  have h:=pz hc.1
  have h2:0≤Int.tmod c r.2.1∧Int.tmod c r.2.1<r.2.1:=by
   rw [Int.tmod_eq_emod_of_nonneg (by omega)]
   exact ⟨Int.emod_nonneg _ (by omega),Int.emod_lt_of_pos _ (by omega)⟩
  simp only [cond_false];omega
def bL (l:List ae)(m:List Bytes)(d:Int)(r:Int×Int×Int×Int)(s:Bytes):List Bytes×(Int×Int×Int×Int)×Bool:=
 bif (pW r==0)||((s.length:Int) !=16) then (m,r,false) else
 bif !(lr l m d (kH r r.2.2.2) s true).2 then (m,r,false) else
 ((lr l m d (kH r r.2.2.2) s true).1,(r.1,r.2.1,r.2.2.1,Int.tmod (r.2.2.2+1) (2*r.2.1)),true)
theorem Cd {l:List ae}{m:List Bytes}{d a:Int}{s:Bytes}{w:Bool}(h:(lr l m d a s w).2=false):(lr l m d a s w).1=m:=by
 unfold lr at h⊢
 cases hr:(gD l m d a (s.length:Int) w).2 with
 |false=>rfl
 |true=>rw [hr] at h;cases h
theorem Ck (r:Int×Int×Int×Int):mX r=some (pW r):=by
 unfold mX pW
 rw [pC,ab]
 cases bR r with|false=>rfl|true=> ?_
 simp only [Bool.not_true,cond_false,cond_true,rJ,ab]
theorem Cn (r:Int×Int×Int×Int)(c:Int):iP r c=some (kH r c):=by
 have hin:=vD r c
 unfold iP
 rw [pC,ab]
 unfold kH at hin⊢
 cases hb:bR r with|false=>rfl|true=> ?_
 have h:=pz hb
 by_cases hc:c<0
 ·rw [decide_eq_true hc];rfl
 ·rw [hb,decide_eq_false hc] at hin
  rw [decide_eq_false hc]
  have h2:0≤Int.tmod c r.2.1∧Int.tmod c r.2.1<r.2.1:=by
   rw [Int.tmod_eq_emod_of_nonneg (by omega)]
   exact ⟨Int.emod_nonneg _ (by omega),Int.emod_lt_of_pos _ (by omega)⟩
  simp only [Bool.not_true,cond_false,ab,Bool.or_self] at hin⊢
  rw [if_neg (by omega),wrap64 (n:=16*Int.tmod c r.2.1) (by omega) (by omega),wrap64 (by omega) (by omega)]
  congr 1;omega
theorem Mg (l:List ae)(m:List Bytes)(d:Int)(r:Int×Int×Int×Int)(s:Bytes)(hl:l.length≤1000000000)(hm:m.length≤1000000000):sF l m d r s=some (bL l m d r s):=by
 have hA:=vD r r.2.2.2
 unfold sF bL
 simp only [Ck,ab,Cn,wS l m d _ s hl hm (show kH r r.2.2.2≤9223372036854775807 by omega),jm m (show m.length≤1073741824 by omega)]
 cases hf:pW r==0 with|true=>rfl|false=> ?_
 cases (s.length:Int) !=16 with|true=>rfl|false=> ?_
 have hb:bR r=true:=by
  cases hb:bR r with
  |true=>rfl
  |false=>unfold pW at hf;rw [hb] at hf;cases hf
 have h:=pz hb
 simp only [cond_false,ab,Bool.or_self]
 cases hp:(lr l m d (kH r r.2.2.2) s true).2 with
 |false=>simp only [Bool.not_false,cond_true,Cd hp]
 |true=>
  simp only [Bool.not_true,cond_false]
  rw [wrap64 (n:=2*r.2.1) (by omega) (by omega),if_neg (by omega),wrap64 (n:=r.2.2.2+1) (by omega) (by omega)]
theorem QI (r:Int×Int×Int×Int):qu r=some (pW r):=by
 unfold qu pW
 rw [ri,ab]
 cases bR r with|false=>rfl|true=> ?_
 simp only [Bool.not_true,cond_false,cond_true,tk,ab]
theorem G8 (r:Int×Int×Int×Int)(c:Int):iu r c=some (kH r c):=by
 have hin:=vD r c
 unfold iu
 rw [ri,ab]
 unfold kH at hin⊢
 cases hb:bR r with|false=>rfl|true=> ?_
 have h:=pz hb
 by_cases hc:c<0
 ·rw [decide_eq_true hc];rfl
 ·rw [hb,decide_eq_false hc] at hin
  rw [decide_eq_false hc]
  have h2:0≤Int.tmod c r.2.1∧Int.tmod c r.2.1<r.2.1:=by
   rw [Int.tmod_eq_emod_of_nonneg (by omega)]
   exact ⟨Int.emod_nonneg _ (by omega),Int.emod_lt_of_pos _ (by omega)⟩
  simp only [Bool.not_true,cond_false,ab,Bool.or_self] at hin⊢
  rw [if_neg (by omega),wrap64 (n:=Int.tmod c r.2.1*16) (by omega) (by omega),wrap64 (by omega) (by omega)]
theorem Ll (l:List ae)(m:List Bytes)(d:Int)(r:Int×Int×Int×Int)(s:Bytes)(hl:l.length≤1000000000)(hm:m.length≤1000000000):sq l m d r s=some (bL l m d r s):=by
 have hA:=vD r r.2.2.2
 unfold sq bL
 simp only [QI,ab,G8,vX l m d _ s hl hm (show kH r r.2.2.2≤9223372036854775807 by omega),fc m (show m.length≤1073741824 by omega)]
 cases hf:pW r==0 with|true=>rfl|false=> ?_
 cases (s.length:Int) !=16 with|true=>rfl|false=> ?_
 have hb:bR r=true:=by
  cases hb:bR r with
  |true=>rfl
  |false=>unfold pW at hf;rw [hb] at hf;cases hf
 have h:=pz hb
 simp only [cond_false,ab,Bool.or_self]
 cases hp:(lr l m d (kH r r.2.2.2) s true).2 with
 |false=>simp only [Bool.not_false,cond_true,Cd hp]
 |true=>
  simp only [Bool.not_true,cond_false]
  rw [wrap64 (n:=2*r.2.1) (by omega) (by omega),if_neg (by omega),wrap64 (n:=r.2.2.2+1) (by omega) (by omega)]
end
end Go.Pu
end
section
namespace Go.Pu
open Go.Dn
set_option linter.unusedSimpArgs false
set_option linter.unusedVariables false
noncomputable section
theorem Dl {p:aV}(h:du p=true):0≤p.1∧p.1≤130944∧1≤p.2.1∧p.2.1≤512∧0≤p.2.2.1∧p.2.2.1≤16:=by
 simp only [du,Bool.and_eq_true,aQ] at h
 exact ⟨h.1.1,h.1.2,h.2.1.1,h.2.1.2,h.2.2.1.1,h.2.2.1.2⟩
def s9 (p:aV)(i:Int):Int:=bif !du p|| !bp i 0 (p.2.2.1-1) then-1 else p.1+i*p.2.1
theorem ON {p:aV}{i:Int}(hp:du p=true)(hi:bp i 0 (p.2.2.1-1)=true):IntKind.wrap .i64 (p.1+IntKind.wrap .i64 (i*p.2.1))=p.1+i*p.2.1:=by
 have h:=Dl hp
 have h2:=aQ.1 hi
 have h3:0≤i*p.2.1:=Int.mul_nonneg h2.1 (by omega)
 have h4:i*p.2.1≤16*512:=Int.mul_le_mul (by omega) (by omega) (by omega) (by omega)
 rw [wrap64 (n:=i*p.2.1) (by omega) (by omega),wrap64 (by omega) (by omega)]
theorem Mc (p:aV)(i:Int)(h:p.2.2.2.length≤1000000000):fG p i=some (s9 p i):=by
 unfold fG s9
 rw [ua p h,ab]
 cases hp:du p with|false=>rfl|true=> ?_
 have hin:=Dl hp
 rw [wrap64 (n:=p.2.2.1-1) (by omega) (by omega),bh]
 cases hi:bp i 0 (p.2.2.1-1) with|false=>rfl|true=> ?_
 simp only [Bool.not_true,cond_false,ab,Bool.or_self,ON hp hi]
theorem Ld (p:aV)(i:Int)(h:p.2.2.2.length≤1000000000):fC p i=some (s9 p i):=by
 unfold fC s9
 rw [tj p h,ab]
 cases hp:du p with|false=>rfl|true=> ?_
 have hin:=Dl hp
 rw [wrap64 (n:=p.2.2.1-1) (by omega) (by omega),bm]
 cases hi:bp i 0 (p.2.2.1-1) with|false=>rfl|true=> ?_
 simp only [Bool.not_true,cond_false,ab,Bool.or_self,ON hp hi]
def descOf (p:aV)(b:Int):Bytes:=CY (3,0,p.2.1,s9 p b,0,b)
def jF (l:List ae)(d:Int)(p:aV):List Int→List Bytes→(Int×Int×Int×Int)→Nat×List Bytes×(Int×Int×Int×Int)
 |[],m,r=>(0,m,r)
 |b::q,m,r=>bif (bL l m d r (descOf p b)).2.2 then
   ((jF l d p q (bL l m d r (descOf p b)).1 (bL l m d r (descOf p b)).2.1).1+1,(jF l d p q (bL l m d r (descOf p b)).1 (bL l m d r (descOf p b)).2.1).2)
  else (0,m,r)
theorem wN (l:List ae)(m:List Bytes)(d:Int)(r:Int×Int×Int×Int)(s:Bytes):(bL l m d r s).1.length=m.length:=by
 unfold bL
 cases (pW r==0)||((s.length:Int) !=16) with|true=>rfl|false=> ?_
 cases (lr l m d (kH r r.2.2.2) s true).2 with
 |false=>rfl
 |true=>exact tV ..
theorem BF (l:List ae)(d:Int)(p:aV):∀(q:List Int)(m:List Bytes)(r:Int×Int×Int×Int),(jF l d p q m r).2.1.length=m.length∧(jF l d p q m r).1≤q.length
 |[],m,r=>⟨rfl,Nat.le_refl _⟩
 |b::q,m,r=>by
  rw [jF]
  cases (bL l m d r (descOf p b)).2.2 with
  |false=>exact ⟨rfl,Nat.zero_le _⟩
  |true=>
   have:=BF l d p q (bL l m d r (descOf p b)).1 (bL l m d r (descOf p b)).2.1
   simp only [cond_true,List.length_cons]
   exact ⟨by rw [this.1,wN],by omega⟩
end
end Go.Pu
end
section
namespace Go.Pu
open Go.Dn
set_option linter.unusedSimpArgs false
set_option linter.unusedVariables false
noncomputable section
theorem SN (r:Int×Int×Int×Int):0≤pW r:=by
 unfold pW
 cases hb:bR r with
 |false=>exact Int.le_refl _
 |true=>
  have h:=pz hb
  simp only [bR,Bool.and_eq_true,decide_eq_true_eq] at hb
  have hu:=hb.2.2.2.2
  have h0:0≤aN r:=by
   unfold aN
   split
   ·exact Int.emod_nonneg _ (by omega)
   ·exact Int.le_refl _
  simp only [cond_true]
  rw [wrap64 (by omega) (by omega)];omega
theorem Jv {l:List ae}{m:List Bytes}{d:Int}{r:Int×Int×Int×Int}{s:Bytes}(h:¬pW r>0):bL l m d r s=(m,r,false):=by
 have h0:=SN r
 have:pW r=0:=by omega
 unfold bL
 rw [this];rfl
theorem Ay {R:Type}(K:Int→Int→(Int×Int×Int×Int)→List Bytes→Option R)(K':Nat→(Int×Int×Int×Int)→List Bytes→Option R)(hK:∀(c:Nat) i r m,K (c:Int) i r m=K' c r m)(l:List ae)(d:Int)(p p2 p3:aV)(hp:p.2.2.2.length≤1000000000)(hl:l.length≤1000000000):∀(rest pre:List Int)(m:List Bytes)(r:Int×Int×Int×Int)(f:Nat),rest.length<f→pre.length+rest.length≤1000000000→m.length≤1000000000→
 aq (im K l d (pre++rest) ((pre++rest).length:Int) p ([]:List Bytes) (0,0,0,0) p2 p3) f ((pre.length:Int),(pre.length:Int),r,m)=K' (pre.length+(jF l d p rest m r).1) (jF l d p rest m r).2.2 (jF l d p rest m r).2.1
 |rest,pre,m,r,0,hf,_,_=>by omega
 |[],pre,m,r,f+1,_,_,_=>by
  rw [aq]
  simp only [im]
  rw [decide_eq_false (by simp),cond_false,hK];rfl
 |b::q,pre,m,r,f+1,hf,hn,hm=>by
  simp only [List.length_cons] at hf hn
  have hi:pre.length<(pre++b::q).length:=by simp
  have hb:(pre++b::q)[pre.length]=b:=by simp
  rw [aq]
  simp only [im]
  rw [decide_eq_true (by simp;omega),ax hi,hb]
  simp only [cond_true,ab,Ld p b hp,Ps,Ll l m d r _ hl hm]
  rw [show CY (3,0,p.2.1,s9 p b,0,b)=descOf p b from rfl,jF]
  cases hq:(bL l m d r (descOf p b)).2.2 with
  |false=>simp only [Bool.not_false,cond_true,cond_false,hK,Nat.add_zero]
  |true=>
   simp only [Bool.not_true,cond_false,cond_true]
   rw [wrap64 (n:=(pre.length:Int)+1) (by omega) (by omega)]
   have key:=Ay K K' hK l d p p2 p3 hp hl q (pre++[b]) (bL l m d r (descOf p b)).1 (bL l m d r (descOf p b)).2.1 f (by omega) (by simp;omega) (by rw [wN];exact hm)
   have el:((pre++[b]).length:Int)=(pre.length:Int)+1:=by simp
   have el2:(pre++[b]).length=pre.length+1:=by simp
   rw [List.append_assoc,List.singleton_append,el,el2] at key
   rw [show pre.length+((jF l d p q (bL l m d r (descOf p b)).1 (bL l m d r (descOf p b)).2.1).1+1)=pre.length+1+(jF l d p q (bL l m d r (descOf p b)).1 (bL l m d r (descOf p b)).2.1).1 by omega]
   exact key
theorem Be {R:Type}(K:Int→(Int×Int×Int×Int)→List Bytes→aV→Option R)(l:List ae)(d:Int)(p p2:aV)(hp:p.2.2.2.length≤1000000000)(hl:l.length≤1000000000)(A B C:Int):∀(rest:List Int)(c:Nat)(m:List Bytes)(r:Int×Int×Int×Int)(f:Nat),rest.length<f→c+rest.length≤1000000000→m.length≤1000000000→
 aq (iK K l d p ([]:List Bytes) (0,0,0,0) p2) f ((c:Int),r,m,A,B,C,rest)=K ((c+(jF l d p rest m r).1:Nat):Int) (jF l d p rest m r).2.2 (jF l d p rest m r).2.1 (A,B,C,rest.drop (jF l d p rest m r).1)
 |rest,c,m,r,0,hf,_,_=>by omega
 |[],c,m,r,f+1,_,_,_=>by
  rw [aq]
  simp only [iK,Ck,ab]
  have hc:(cond (decide (pW r>0)) (some (decide ((([]:List Int).length:Int)>0))) (some false))=some false:=by cases decide (pW r>0)<;>rfl
  rw [hc];rfl
 |b::q,c,m,r,f+1,hf,hn,hm=>by
  simp only [List.length_cons] at hf hn
  rw [aq]
  simp only [iK,Ck,ab]
  by_cases hr:pW r>0
  ·rw [decide_eq_true hr,decide_eq_true (show (((b::q).length:Nat):Int)>0 by simp)]
   have hi:idx (b::q) 0=some b:=rfl
   have hs:sub (b::q) 1 ((b::q).length:Int)=some q:=by
    unfold sub;rw [if_pos (by simp;omega)];simp
   simp only [cond_true,ab,hi,Mc p b hp,JI,Mg l m d r _ hl hm]
   rw [show CY (3,0,p.2.1,s9 p b,0,b)=descOf p b from rfl,jF]
   cases hq:(bL l m d r (descOf p b)).2.2 with
   |false=>rfl
   |true=>
    simp only [Bool.not_true,cond_false,cond_true,hs,ab]
    rw [cz (by omega),wrap64 (n:=(c:Int)+1) (by omega) (by omega),List.nil_append]
    have key:=Be K l d p p2 hp hl A B C q (c+1) (bL l m d r (descOf p b)).1 (bL l m d r (descOf p b)).2.1 f (by omega) (by omega) (by rw [wN];exact hm)
    rw [show ((c+1:Nat):Int)=(c:Int)+1 by omega] at key
    refine Eq.trans key ?_
    rw [show c+1+(jF l d p q (bL l m d r (descOf p b)).1 (bL l m d r (descOf p b)).2.1).1=c+((jF l d p q (bL l m d r (descOf p b)).1 (bL l m d r (descOf p b)).2.1).1+1) by omega]
    rfl
  ·rw [decide_eq_false hr,jF,Jv hr]
   rfl
def uq (l:List ae)(m:List Bytes)(d:Int)(r:Int×Int×Int×Int)(p:aV):List Bytes×(Int×Int×Int×Int)×aV×Int:=
 bif !bR r|| !du p then (m,r,p,0) else
 ((jF l d p p.2.2.2 m r).2.1,(jF l d p p.2.2.2 m r).2.2,(p.1,p.2.1,p.2.2.1,p.2.2.2.drop (jF l d p p.2.2.2 m r).1),((jF l d p p.2.2.2 m r).1:Int))
theorem SY (l:List ae)(m:List Bytes)(d:Int)(r:Int×Int×Int×Int)(p:aV)(hl:l.length≤1000000000)(hm:m.length≤1000000000)(hp:p.2.2.2.length≤1000000000):qk l m d r p=some (uq l m d r p):=by
 have hfu:=bl
 unfold qk uq
 simp only [fc m (show m.length≤1073741824 by omega),re p hp,ri,tj p hp,ab]
 cases bR r with|false=>rfl|true=> ?_
 cases du p with|false=>rfl|true=> ?_
 simp only [Bool.not_true,cond_false,ab,Bool.or_self]
 have hlen:=(BF l d p p.2.2.2 m r).2
 refine (Ay _ (fun c r m=>aa (sub p.2.2.2 (c:Int) (p.2.2.2.length:Int)) fun x14=>aa (cW x14) fun r15=>some (m,r,(p.1,p.2.1,p.2.2.1,r15),(c:Int))) (fun _ _ _ _=>rfl) l d p _ p hp hl p.2.2.2 [] m r fuel (by omega) (by simp;omega) hm).trans ?_
 rw [List.length_nil,Nat.zero_add,Dq _ _ _ hlen (Nat.le_refl _),ab,List.take_of_length_le (by rw [List.length_drop];exact Nat.le_refl _),kV _ (by rw [List.length_drop];omega)];rfl
theorem TX (l:List ae)(m:List Bytes)(d:Int)(r:Int×Int×Int×Int)(p:aV)(hl:l.length≤1000000000)(hm:m.length≤1000000000)(hp:p.2.2.2.length≤1000000000):qM l m d r p=some (uq l m d r p):=by
 have hfu:=bl
 unfold qM uq
 simp only [jm m (show m.length≤1073741824 by omega),tt p hp,pC,ua p hp,ab]
 cases bR r with|false=>rfl|true=> ?_
 cases du p with|false=>rfl|true=> ?_
 simp only [Bool.not_true,cond_false,ab,Bool.or_self]
 refine (Be _ l d p _ hp hl p.1 p.2.1 p.2.2.1 p.2.2.2 0 m r fuel (by omega) (by omega) hm).trans ?_
 rw [Nat.zero_add]
end
end Go.Pu
end
section
namespace Go.Pu
open Go.Dn
set_option linter.unusedSimpArgs false
set_option linter.unusedVariables false
noncomputable section
theorem Fp (l:List ae)(m:List Bytes)(d:Int)(w:Bool):∀(n a r:Nat)(q:List (Int×Int)),jr l m d w n a r=some q→q.length≤n
 |0,a,r,q,h=>by simp only [jr,Option.some.injEq] at h;subst h;simp
 |n+1,a,r,q,h=>by
  simp only [jr] at h
  split at h
  ·simp only [Option.some.injEq] at h;subst h;simp
  ·split at h
   ·simp only [Option.map_eq_some_iff] at h
    obtain ⟨q',h1,rfl⟩:=h
    have:=Fp l m d w n _ _ q' h1
    simp only [List.length_cons];omega
   ·cases h
theorem yK (l:List ae)(m:List Bytes)(d a n:Int)(w:Bool):(gD l m d a n w).1.length≤4096:=by
 unfold gD
 cases hB:cD l&&(cR m&&bp n 0 4096) with|false=>simp|true=> ?_
 simp only [Bool.and_eq_true,aQ] at hB
 simp only [cond_true]
 cases n==0 with|true=>simp|false=> ?_
 cases decide (a<0) with|true=>simp|false=> ?_
 simp only [cond_false]
 split
 ·rename_i q hq
  have:=Fp _ _ _ _ _ _ _ _ hq
  show q.length≤4096
  omega
 ·simp
def ka (m:List Bytes)(p:Int×Int):Bytes:=bif cw m p.1 p.2 then sf m p.1.toNat p.2.toNat else []
theorem uY (m:List Bytes)(p:Int×Int):(ka m p).length≤8192:=by
 unfold ka
 cases h:cw m p.1 p.2 with
 |false=>simp
 |true=>
  simp only [cw,Bool.and_eq_true,decide_eq_true_eq] at h
  have:=TR m p.1.toNat p.2.toNat
  have:=(mem_iff.1 h.1).2
  simp only [cond_true]
  omega
theorem lv (m:List Bytes):∀q:List (Int×Int),(q.flatMap (ka m)).length≤8192*q.length
 |[]=>by simp
 |p::q=>by
  have:=lv m q
  have:=uY m p
  simp only [List.flatMap_cons,List.length_append,List.length_cons];omega
def il (l:List ae)(m:List Bytes)(d a n:Int):Bytes×Bool:=
 bif (gD l m d a n false).2 then ((gD l m d a n false).1.flatMap (ka m),true) else ([],false)
theorem As {α β:Type}(g:α→List β)(l:List α)(i:Nat)(hi:i<l.length):(l.take (i+1)).flatMap g=(l.take i).flatMap g++g l[i]:=by
 rw [List.take_succ_eq_append_getElem hi,List.flatMap_append];simp
theorem uw (l:List ae)(m:List Bytes)(d a n:Int)(hl:l.length≤1000000000)(hm:m.length≤1000000000)(ha:a≤9223372036854775807):je l m d a n=some (il l m d a n):=by
 unfold je il
 rw [Lm l m d a n false hl hm ha,ab]
 have hL:=yK l m d a n false
 generalize gD l m d a n false=r at hL⊢
 cases hr:r.2 with|false=>rfl|true=> ?_
 simp only [Bool.not_true,cond_false,cond_true]
 refine (bz (fun i=>((r.1.take i).flatMap (ka m),(i:Int))) r.1.length (by omega) (fun i nx hi=> ?_) (fun nx=> ?_))
 ·simp only [m6]
  rw [decide_eq_true (by omega),ax hi,wrap64 (by omega) (by omega)]
  have e:jJ m r.1[i].1 r.1[i].2=some (ka m r.1[i],cw m r.1[i].1 r.1[i].2):=by
   rw [S7 m _ _ hm,ka];cases cw m r.1[i].1 r.1[i].2<;>rfl
  have h1:=lv m (r.1.take i)
  have h2:=uY m r.1[i]
  simp only [cond_true,ab,e]
  rw [ao (by rw [List.length_take] at h1;omega),←As];rfl
 ·simp only [m6]
  rw [decide_eq_false (by omega),List.take_length];rfl
theorem rH (l:List ae)(m:List Bytes)(d a n:Int)(hl:l.length≤1000000000)(hm:m.length≤1000000000)(ha:a≤9223372036854775807):jt l m d a n=some (il l m d a n):=by
 unfold jt il
 rw [Hx l m d a n false hl hm ha,ab]
 have hL:=yK l m d a n false
 generalize gD l m d a n false=r at hL⊢
 cases hr:r.2 with|false=>rfl|true=> ?_
 simp only [Bool.not_true,cond_false,cond_true]
 refine (bz (fun i=>((r.1.take i).flatMap (ka m),(i:Int))) r.1.length (by omega) (fun i nx hi=> ?_) (fun nx=> ?_))
 ·simp only [nu]
  have i1:idx (r.1.map (·.1)) (i:Int)=some r.1[i].1:=by rw [ax (by simpa using hi),List.getElem_map]
  have i2:idx (r.1.map (·.2)) (i:Int)=some r.1[i].2:=by rw [ax (by simpa using hi),List.getElem_map]
  rw [decide_eq_true (by rw [List.length_map];omega),i1,i2,wrap64 (by omega) (by omega)]
  have e:jQ m r.1[i].1 r.1[i].2=some (ka m r.1[i],cw m r.1[i].1 r.1[i].2):=by
   rw [T8 m _ _ hm,ka];cases cw m r.1[i].1 r.1[i].2<;>rfl
  have h1:=lv m (r.1.take i)
  have h2:=uY m r.1[i]
  simp only [cond_true,ab,e]
  rw [ao (by rw [List.length_take] at h1;omega),←As];rfl
 ·simp only [nu]
  rw [decide_eq_false (by rw [List.length_map];omega),List.take_length];rfl
theorem xF (l:List ae)(m:List Bytes)(d a n:Int):(il l m d a n).1.length≤100000000:=by
 have hL:=yK l m d a n false
 have h1:=lv m (gD l m d a n false).1
 unfold il
 cases (gD l m d a n false).2 with
 |false=>simp
 |true=>simp only [cond_true];omega
def oo (s:Bytes):(Int×Int×Int×Int×Int)×Int×Bool:=
 bif ((s.length:Int) !=16)||decide (bW s 12>1) then ((0,0,0,0,0),0,false) else ((aL s 0,aL s 2,aL s 4,aL s 6,bW s 8),bW s 12,true)
theorem No (s:Bytes)(h:s.length≤1000000000):fK s=some (oo s):=by
 unfold fK oo
 cases (s.length:Int) !=16 with|true=>rfl|false=> ?_
 simp only [pZ s _ h,sW s _ h,ab,cond_false,Bool.false_or]
 cases decide (bW s 12>1)<;>rfl
theorem Og (s:Bytes)(h:s.length≤1000000000):fP s=some (oo s):=by
 unfold fP oo
 cases (s.length:Int) !=16 with|true=>rfl|false=> ?_
 simp only [kb s _ h,qb s _ h,ab,cond_false,Bool.false_or]
 cases decide (bW s 12>1)<;>rfl
def pw (q:Int×Int×Int):Int:=bif decide (q.2.2<q.2.1) then 1 else 0
theorem G6 (q:Int×Int×Int):oJ q=some (pw q):=by unfold oJ pw;cases decide (q.2.2<q.2.1)<;>rfl
theorem jN {q:Int×Int×Int}(h:dj q=true):0≤q.1∧q.1≤130944∧(q.2.1=2∨q.2.1=4∨q.2.1=8∨q.2.1=16)∧0≤q.2.2∧q.2.2≤2*q.2.1-1:=by
 simp only [dj,Bool.and_eq_true,aQ] at h
 obtain ⟨h1,h2,h3⟩:=h
 rw [yM h2] at h3
 exact ⟨h1.1,h1.2,gQ.1 h2,h3⟩
theorem Hy (q:Int×Int×Int)(h:dj q=true):mZ q=some (pw q):=by
 obtain ⟨_,_,h3,h4,h5⟩:=jN h
 have e:Int.tdiv q.2.2 q.2.1=if q.2.2<q.2.1 then 0 else 1:=by
  rw [Int.tdiv_eq_ediv_of_nonneg h4]
  split
  ·exact Int.ediv_eq_zero_of_lt h4 (by assumption)
  ·rcases h3 with g|g|g|g<;>(rw [g];omega)
 unfold mZ pw
 rw [if_neg (by omega),e]
 by_cases hq:q.2.2<q.2.1
 ·rw [if_pos hq,decide_eq_true hq];rfl
 ·rw [if_neg hq,decide_eq_false hq];rfl
def eN (q:Int×Int×Int):Int:=q.1+Int.tmod q.2.2 q.2.1*16
theorem PZ {a b:Int}(h:0≤a)(hb:0<b):0≤Int.tmod a b∧Int.tmod a b<b:=by
 rw [Int.tmod_eq_emod_of_nonneg h]
 exact ⟨Int.emod_nonneg _ (by omega),Int.emod_lt_of_pos _ hb⟩
theorem Ba {q:Int×Int×Int}(h:dj q=true):0≤Int.tmod q.2.2 q.2.1∧Int.tmod q.2.2 q.2.1<16:=by
 obtain ⟨_,_,h3,h4,h5⟩:=jN h
 have:=PZ h4 (show 0<q.2.1 by omega)
 omega
theorem G9 (q:Int×Int×Int)(h:dj q=true):iw q=some (eN q):=by
 obtain ⟨h1,h2,h3,h4,h5⟩:=jN h
 have:=Ba h
 unfold iw eN
 rw [if_neg (by omega),wrap64 (n:=Int.tmod q.2.2 q.2.1*16) (by omega) (by omega),wrap64 (by omega) (by omega)]
def aiJ (q:Int×Int×Int):Int×Int×Int:=(q.1,q.2.1,Int.tmod (q.2.2+1) (2*q.2.1))
def Jj (l:List ae)(m:List Bytes)(d:Int)(q:Int×Int×Int):Bool:=
 dj q&&((il l m d (eN q) 16).2&&((oo (il l m d (eN q) 16).1).2.2&&((oo (il l m d (eN q) 16).1).2.1==pw q)))
def mT (l:List ae)(m:List Bytes)(d:Int)(q:Int×Int×Int):(Int×Int×Int×Int×Int)×(Int×Int×Int)×Bool:=
 bif Jj l m d q then ((oo (il l m d (eN q) 16).1).1,aiJ q,true) else ((0,0,0,0,0),q,false)
theorem S3 (l:List ae)(m:List Bytes)(d:Int)(q:Int×Int×Int)(hl:l.length≤1000000000)(hm:m.length≤1000000000):g6 l m d q=some (mT l m d q):=by
 unfold g6 mT Jj
 rw [BN q,ab]
 cases hq:dj q with|false=>rfl|true=> ?_
 obtain ⟨h1,h2,h3,h4,h5⟩:=jN hq
 have hs:=Ba hq
 have hd:=xF l m d (eN q) 16
 simp only [Bool.not_true,cond_false,G9 q hq,ab,uw l m d (eN q) 16 hl hm (by unfold eN;omega),Bool.true_and]
 cases (il l m d (eN q) 16).2 with|false=>rfl|true=> ?_
 simp only [Bool.not_true,cond_false,No _ (Nat.le_trans hd (by omega)),ab,Bool.true_and]
 cases (oo (il l m d (eN q) 16).1).2.2 with|false=>rfl|true=> ?_
 simp only [Bool.not_true,cond_false,G6,ab,Bool.true_and,bne]
 cases (oo (il l m d (eN q) 16).1).2.1==pw q with|false=>rfl|true=> ?_
 simp only [Bool.not_true,cond_false,cond_true]
 rw [wrap64 (n:=2*q.2.1) (by omega) (by omega),if_neg (by omega),wrap64 (n:=q.2.2+1) (by omega) (by omega)];rfl
theorem T4 (l:List ae)(m:List Bytes)(d:Int)(q:Int×Int×Int)(hl:l.length≤1000000000)(hm:m.length≤1000000000):ic l m d q=some (mT l m d q):=by
 unfold ic mT Jj
 rw [Cl q,ab]
 cases hq:dj q with|false=>rfl|true=> ?_
 obtain ⟨h1,h2,h3,h4,h5⟩:=jN hq
 have hs:=Ba hq
 have hd:=xF l m d (eN q) 16
 have es:IntKind.wrap .i64 (q.1+IntKind.wrap .i64 (16*Int.tmod q.2.2 q.2.1))=eN q:=by
  rw [wrap64 (n:=16*Int.tmod q.2.2 q.2.1) (by omega) (by omega),wrap64 (by omega) (by omega),eN];omega
 simp only [Bool.not_true,cond_false]
 rw [if_neg (by omega),es]
 simp only [rH l m d (eN q) 16 hl hm (by unfold eN;omega),ab,Bool.true_and,Og _ (Nat.le_trans hd (by omega)),Hy q hq,bne]
 cases (il l m d (eN q) 16).2 with|false=>rfl|true=> ?_
 cases (oo (il l m d (eN q) 16).1).2.2 with|false=>rfl|true=> ?_
 cases (oo (il l m d (eN q) 16).1).2.1==pw q with|false=>rfl|true=> ?_
 simp only [Bool.not_true,cond_false,cond_true,ab,Bool.true_and]
 rw [wrap64 (n:=2*q.2.1) (by omega) (by omega),if_neg (by omega),wrap64 (n:=q.2.2+1) (by omega) (by omega)];rfl
end
end Go.Pu
end
section
namespace Go.Pu
open Go.Dn
set_option linter.unusedSimpArgs false
set_option linter.unusedVariables false
noncomputable section
def DK (s:Bytes)(i:Nat):Nat:=aD s (i/8)/2^(7-i%8)%2
theorem Af (s:Bytes)(i:Nat):DK s i<2:=Nat.mod_lt _ (by omega)
theorem Kb (b k:Nat)(hb:b<256)(hk:k≤7):IntKind.wrap .i64 (BitVec.toNat (BitVec.ofInt (IntKind.bits .i64) (IntKind.wrap .i64 (Int.fdiv (b:Int) ((2^k:Nat):Int)))&&&BitVec.ofInt (IntKind.bits .i64) 1))=((b/2^k%2:Nat):Int):=by
 have e:Int.fdiv (b:Int) ((2^k:Nat):Int)=((b/2^k:Nat):Int):=(Int.ofNat_fdiv b (2^k)).symm
 have h1:b/2^k≤b:=Nat.div_le_self _ _
 rw [e,cA (n:=b/2^k) (by omega)]
 have:=Xs (b/2^k) 1 (by omega) (by omega)
 rw [show ((1:Nat):Int)=1 from rfl] at this
 rw [this,Nat.and_one_is_mod]
 exact cA (by omega)
theorem Pq (s:Bytes)(i:Nat)(hi:i/8<s.length)(h:s.length≤1000000000):rm s (i:Int)=some ((DK s i:Nat):Int):=by
 have e1:Int.tdiv (i:Int) 8=((i/8:Nat):Int):=(Int.ofNat_tdiv i 8).symm
 have e2:Int.tmod (i:Int) 8=((i%8:Nat):Int):=(Int.ofNat_tmod i 8).symm
 unfold rm
 rw [if_neg (by omega),e1,wrap64 (n:=((i/8:Nat):Int)) (by omega) (by omega),ax hi,ab,if_neg (by omega),e2,wrap64 (n:=7-((i%8:Nat):Int)) (by omega) (by omega),if_neg (by omega)]
 have e3:(2:Int)^(min (Int.toNat (7-((i%8:Nat):Int))) (IntKind.bits .u8))=((2^(7-i%8):Nat):Int):=by
  rw [show min (Int.toNat (7-((i%8:Nat):Int))) (IntKind.bits .u8)=7-i%8 from by show min _ 8=_;omega]
  push_cast;rfl
 rw [e3,Kb _ _ (gk _) (by omega),DK,aD,bB hi]
theorem PM (s:Bytes)(i:Nat)(hi:i/8<s.length)(h:s.length≤1000000000):rL s (i:Int)=some ((DK s i:Nat):Int):=by
 have e1:Int.tdiv (i:Int) 8=((i/8:Nat):Int):=(Int.ofNat_tdiv i 8).symm
 have e2:Int.tmod (i:Int) 8=((i%8:Nat):Int):=(Int.ofNat_tmod i 8).symm
 have hb:=gk s[i/8]
 unfold rL
 rw [if_neg (by omega),e1,wrap64 (n:=((i/8:Nat):Int)) (by omega) (by omega),ax hi,ab,if_neg (by omega),e2,wrap64 (n:=7-((i%8:Nat):Int)) (by omega) (by omega),if_neg (by omega),cA (n:=s[i/8].toNat) (by omega)]
 have e3:(2:Int)^(min (Int.toNat (7-((i%8:Nat):Int))) (IntKind.bits .i64))=((2^(7-i%8):Nat):Int):=by
  rw [show min (Int.toNat (7-((i%8:Nat):Int))) (IntKind.bits .i64)=7-i%8 from by show min _ 64=_;omega]
  push_cast;rfl
 have e4:Int.fdiv ((s[i/8].toNat:Nat):Int) ((2^(7-i%8):Nat):Int)=((s[i/8].toNat/2^(7-i%8):Nat):Int):=(Int.ofNat_fdiv _ _).symm
 have h1:s[i/8].toNat/2^(7-i%8)≤s[i/8].toNat:=Nat.div_le_self _ _
 have key:=Kb s[i/8].toNat (7-i%8) hb (by omega)
 rw [e4,cA (n:=s[i/8].toNat/2^(7-i%8)) (by omega)] at key
 rw [e3,e4,key,DK,aD,bB hi]
def OH (s:Bytes)(a:Nat):Nat→Nat
 |0=>0
 |j+1=>2*OH s a j+DK s (a+j)
theorem VR (s:Bytes)(a:Nat):∀j,OH s a j<2^j
 |0=>by simp [OH]
 |j+1=>by have:=VR s a j;have:=Af s (a+j);rw [OH,Nat.pow_succ];omega
theorem Gd (s:Bytes)(a j:Nat)(hj:j≤32):OH s a j<4294967296:=Nat.lt_of_lt_of_le (VR s a j) (Nat.pow_le_pow_right (n:=2) (by omega) hj)
def Mz (s:Bytes)(a:Int):Int:=bif ((s.length:Int) !=16)|| !bp a 0 96 then-1 else ((OH s a.toNat 32:Nat):Int)
theorem WB (s:Bytes)(a:Int):oB s a=some (Mz s a):=by
 unfold oB Mz
 rw [bm]
 cases hs:(s.length:Int) !=16 with|true=>rfl|false=> ?_
 cases ha:bp a 0 96 with|false=>rfl|true=> ?_
 have h1:=aQ.1 ha
 have h2:s.length=16:=by simp at hs;omega
 obtain ⟨a,rfl⟩:=Int.eq_ofNat_of_zero_le h1.1
 simp only [cond_false,ab,Bool.not_true,Bool.or_self,Int.toNat_natCast]
 refine bz (fun i=>(((OH s a i:Nat):Int),((a+i:Nat):Int))) 32 (by omega) (fun i nx hi=> ?_) (fun nx=> ?_)
 ·have hw:=Gd s a i (by omega)
  have hb:=Af s (a+i)
  simp only [kz]
  rw [wrap64 (n:=(a:Int)+32) (by omega) (by omega),decide_eq_true (by omega),cond_true,if_neg (by omega),Pq s (a+i) (by omega) (by omega),ab,wrap64 (n:=((a+i:Nat):Int)+1) (by omega) (by omega)]
  have e1:IntKind.wrap .i64 (((OH s a i:Nat):Int)*2^(min (Int.toNat 1) (IntKind.bits .i64)))=((2^1*OH s a i:Nat):Int):=by
   have:(2:Int)^(min (Int.toNat 1) (IntKind.bits .i64))=2:=rfl
   rw [this,wrap64 (by omega) (by omega)];omega
  rw [e1,zV _ _ _ (by omega) (by omega)]
  rw [show (((a+i:Nat):Int)+1)=((a+(i+1):Nat):Int) by omega];rfl
 ·simp only [kz]
  rw [wrap64 (n:=(a:Int)+32) (by omega) (by omega),decide_eq_false (by omega)];rfl
theorem Xa (s:Bytes)(a:Int):pL s a=some (Mz s a):=by
 unfold pL Mz
 rw [bh]
 cases hs:(s.length:Int) !=16 with|true=>rfl|false=> ?_
 cases ha:bp a 0 96 with|false=>rfl|true=> ?_
 have h1:=aQ.1 ha
 have h2:s.length=16:=by simp at hs;omega
 obtain ⟨a,rfl⟩:=Int.eq_ofNat_of_zero_le h1.1
 simp only [cond_false,ab,Bool.not_true,Bool.or_self,Int.toNat_natCast]
 refine bz (fun i=>(((OH s a i:Nat):Int),(i:Int))) 32 (by omega) (fun i nx hi=> ?_) (fun nx=> ?_)
 ·have hw:=Gd s a i (by omega)
  have hb:=Af s (a+i)
  simp only [kN]
  rw [decide_eq_true (by omega),cond_true,wrap64 (n:=(a:Int)+(i:Int)) (by omega) (by omega),show (a:Int)+(i:Int)=((a+i:Nat):Int) by omega,PM s (a+i) (by omega) (by omega),ab,wrap64 (n:=(i:Int)+1) (by omega) (by omega)]
  rw [wrap64 (n:=2*((OH s a i:Nat):Int)) (by omega) (by omega),wrap64 (by omega) (by omega),OH]
  congr 1
 ·simp only [kN]
  rw [decide_eq_false (by omega)];rfl
def yZ (s v:Bytes):Nat→Nat
 |0=>0
 |i+1=>if DK v i=1 then yZ s v i^^^OH s i 32 else yZ s v i
theorem EO (s v:Bytes):∀i,yZ s v i<4294967296
 |0=>by simp [yZ]
 |i+1=>by
  have:=EO s v i
  rw [yZ]
  split
  ·exact u5 this (Gd s i 32 (by omega))
  ·exact this
def xL (s v:Bytes):Int:=bif ((s.length:Int) !=16)||decide ((v.length:Int)>12) then-1 else ((yZ s v (8*v.length):Nat):Int)
theorem SZ (s v:Bytes):ox s v=some (xL s v):=by
 unfold ox xL
 cases hs:(s.length:Int) !=16 with|true=>rfl|false=> ?_
 cases hv:decide ((v.length:Int)>12) with|true=>rfl|false=> ?_
 have h2:s.length=16:=by simp at hs;omega
 have h3:v.length≤12:=by simp at hv;omega
 simp only [cond_false,ab,Bool.or_self]
 refine bz (fun i=>(((yZ s v i:Nat):Int),(i:Int))) (8*v.length) (by omega) (fun i nx hi=> ?_) (fun nx=> ?_)
 ·have hw:=Gd s i 32 (by omega)
  have hh:=EO s v i
  have hb:=Af v i
  have eW:Mz s (i:Int)=((OH s i 32:Nat):Int):=by
   unfold Mz;rw [hs,aQ.2 (show (0:Int)≤(i:Int)∧(i:Int)≤96 by omega)];rfl
  simp only [kv]
  rw [wrap64 (n:=8*(v.length:Int)) (by omega) (by omega),decide_eq_true (by omega),cond_true,Pq v i (by omega) (by omega),ab,WB,ab,eW,P3 _ _ (by omega) (by omega),wrap64 (n:=(i:Int)+1) (by omega) (by omega),cA (Nat.lt_trans (u5 hh hw) (by omega)),yZ]
  by_cases h1:DK v i=1
  ·rw [h1,if_pos rfl];rfl
  ·rw [if_neg h1,show (((DK v i:Nat):Int)==1)=false from by simp;omega];rfl
 ·simp only [kv]
  rw [wrap64 (n:=8*(v.length:Int)) (by omega) (by omega),decide_eq_false (by omega)];rfl
theorem TZ (s v:Bytes):pG s v=some (xL s v):=by
 unfold pG xL
 cases hs:(s.length:Int) !=16 with|true=>rfl|false=> ?_
 cases hv:decide ((v.length:Int)>12) with|true=>rfl|false=> ?_
 have h2:s.length=16:=by simp at hs;omega
 have h3:v.length≤12:=by simp at hv;omega
 simp only [cond_false,ab,Bool.or_self]
 refine bz (fun i=>(((yZ s v i:Nat):Int),(i:Int))) (8*v.length) (by omega) (fun i nx hi=> ?_) (fun nx=> ?_)
 ·have hw:=Gd s i 32 (by omega)
  have hh:=EO s v i
  have hb:=Af v i
  have eW:Mz s (i:Int)=((OH s i 32:Nat):Int):=by
   unfold Mz;rw [hs,aQ.2 (show (0:Int)≤(i:Int)∧(i:Int)≤96 by omega)];rfl
  simp only [kL]
  rw [wrap64 (n:=8*(v.length:Int)) (by omega) (by omega),decide_eq_true (by omega),cond_true,PM v i (by omega) (by omega),ab,Xa,ab,eW,P3 _ _ (by omega) (by omega),wrap64 (n:=(i:Int)+1) (by omega) (by omega),cA (Nat.lt_trans (u5 hh hw) (by omega)),yZ]
  by_cases h1:DK v i=1
  ·rw [h1,if_pos rfl];rfl
  ·rw [if_neg h1,show (((DK v i:Nat):Int)==1)=false from by simp;omega];rfl
 ·simp only [kL]
  rw [wrap64 (n:=8*(v.length:Int)) (by omega) (by omega),decide_eq_false (by omega)];rfl
def vU (f:Int×Int×Int×Int×Int):Bytes:=((dF f.2.1++dF f.2.2.1)++aF f.2.2.2.1)++aF f.2.2.2.2
theorem Nt (f:Int×Int×Int×Int×Int):oy f=some (vU f):=by
 have:=bD f.2.1;have:=bD f.2.2.1;have:=aA f.2.2.2.1;have:=aA f.2.2.2.2
 simp only [oy,tp,fB,ab]
 rw [ao (by omega),ao (by simp only [List.length_append];omega),ao (by simp only [List.length_append];omega)];rfl
theorem Ol (f:Int×Int×Int×Int×Int):pH f=some (vU f):=by
 have:=bD f.2.1;have:=bD f.2.2.1;have:=aA f.2.2.2.1;have:=aA f.2.2.2.2
 simp only [pH,js,dw,ab]
 rw [ao (by omega),ao (by simp only [List.length_append];omega),ao (by simp only [List.length_append];omega)];rfl
theorem I5 (s:Bytes)(f:Int×Int×Int×Int×Int):qo s f=some (xL s (vU f)):=by
 simp only [qo,Nt,SZ,ab]
theorem JJ (s:Bytes)(f:Int×Int×Int×Int×Int):qQ s f=some (xL s (vU f)):=by
 simp only [qQ,Ol,TZ,ab]
end
end Go.Pu
end
section
namespace Go.Pu
open Go.Dn
set_option linter.unusedSimpArgs false
set_option linter.unusedVariables false
noncomputable section
end
end Go.Pu
end
section
namespace Go.Pu
open Go.Dn
set_option linter.unusedSimpArgs false
set_option linter.unusedVariables false
noncomputable section
def mn (p:aC):Int×Int×Int×Int×Int:=(p.2.2.2.2.2.2.2.2.1,p.2.2.2.2.2.2.1,p.2.2.2.2.2.2.2.1,p.2.2.2.2.2.2.2.2.2.1,p.2.2.2.2.2.2.2.2.2.2.1)
theorem Li (p:aC):ux p=some (mn p):=rfl
theorem Md (p:aC):uR p=some (mn p):=rfl
end
end Go.Pu
end
